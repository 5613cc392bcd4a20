/-
  What the implementation's lts computes: labels sorted and each once, edges by the labels' places, where these stand in order.
  Plain laws for lts within determinize: the labels in use, the edges by them, that they lead back.
  The labels of two systems together: the reference's list of them, kept in order by insertion, is the set of all labels.
  The reference's l11Join: the set of all labels.
  The reference's l11Make: a system out of texts and edges whose labels are places of the texts.
-/
import Derived.Test.YtnmkncioekdehaaGreatDoorY5
import Derived.Test.YtnmkncioekdehaaGreatDoorY6
import Derived.Laws.AppendOwnNone
import Derived.Deep.RegionHeld3
import Derived.Test.YtnmkncioekdehaaGreatDoorY3
import Derived.Test.YtnmkncioekdehaaGreatDoorY1
namespace Go.Proofs.YtnmkncioekdehaaGreatDoor
open Go Go.RowKit


theorem blk_own_neL {w : World} {b : Nat} {cs : List Value} {t : TypeId} (h : Blk w b cs t) {base e size n : Nat} {v : Value} {xs : List Value} (ho : w.ownsRow base e size v n xs) (he : e ≠ t) : some b ≠ v.ownBlock := by
 rcases own_type_ne ho (show w.heap[b]? = some (.cells cs.toArray t (0, 0)) from h) he with h | h
 ·rw [h]; simp
 ·exact fun e => h e.symm
/-- A list of texts that is appended: nil, or cells that lie somewhere. -/
def SrcS (w : World) (v : Value) (xs : List ByteArray) : Prop :=
 (v = .slice none 0 0 ∧ xs = []) ∨ ∃ b o c, v = .slice (some ⟨b, o, none⟩) xs.length c ∧ b < w.heap.size ∧ ∀ i (h : i < xs.length), w.cell? ⟨b, o + i, none⟩ = some (.string xs[i])
theorem SrcS.of_slice {lo : Nat} {w : World} {v : Value} {xs : List ByteArray} (h : SliceK 1 encS lo w v xs) (hn : 0 < xs.length) : SrcS w v xs := by
 obtain ⟨a, c, rfl, -, -, hrow⟩ := h
 rcases hrow with h | ⟨b, o, rfl, -, hb, hc⟩
 ·omega
 ·exact .inr ⟨b, o, c, rfl, hb, fun i hi => by have := hc i hi 0 (by omega); simpa [encS] using this⟩
theorem SrcS.of_own {base e : Nat} {w : World} {v : Value} {xs : List ByteArray} (h : w.ownsRow base e 1 v xs.length (xs.map .string)) : SrcS w v xs := by
 rcases h.2 with ⟨rfl, h0⟩ | ⟨g, cap, cur, rfl, -, hg, -⟩
 ·exact .inl ⟨rfl, List.eq_nil_of_length_eq_zero h0⟩
 ·refine .inr ⟨g, 0, cap, rfl, (Array.getElem?_eq_some_iff.1 hg).1, fun i hi => ?_⟩
  have := h.cellAt i (by omega)
  rw [Nat.zero_add, this, List.getElem?_map, List.getElem?_eq_getElem hi]
  rfl
theorem SrcS.below {w w' : World} {v : Value} {xs : List ByteArray} (h : SrcS w v xs) (hb : Below w.heap.size w w') : SrcS w' v xs := by
 rcases h with h | ⟨b, o, c, h1, h2, h3⟩
 ·exact .inl h
 ·exact .inr ⟨b, o, c, h1, Nat.lt_of_lt_of_le h2 hb.size, fun i hi => keeps hb h2 (h3 i hi)⟩

theorem append_src {P : Program} {ops : Array Oper} {rest : List Oper} {o : Oper} {a : Act} {w : World} {Q : Exit → Act → World → Prop} (hgd : o.guard = none) (s x : Operand) (t : TypeId)
  (ho : o.op = .call { callee := .builtin .append, args := #[s, x], argTypes := #[t, t] })
  (base : Nat) (e : TypeId) (i : TypeInfo) (z : Value) (bytes : Nat) (ht : P.underlying t = some (.slice e)) (hi : P.info? e = some i) (hz : i.zero = some z)
  (hsize : i.size = 1) (hby : i.bytes = bytes) (hzs : z.cells.size = 1) (v : Value) (n : Nat) (xs : List Value) (hs : a.eval s = v) (hown : w.ownsRow base e 1 v n xs)
  (ls : List ByteArray) (hsrc : SrcS w (a.eval x) ls) (h63 : n + ls.length ≤ maxLen) (hbytes : (n + ls.length) * bytes ≤ 140737488355328) (hbase : base ≤ w.heap.size)
  (h : ∀ v' w', w'.ownsRow base e 1 v' (n + ls.length) (xs ++ ls.map .string) → w.grownBy w' v.ownBlock → wpList P ops Q rest (a.put o.dst v') w') :
  wpList P ops Q (o :: rest) a w := by
 rcases hsrc with ⟨hx, rfl⟩ | ⟨b, off, c, hx, hb, hc⟩
 ·refine wpList_append_own_none hgd s x t ho base e i 1 ht hi v n xs hs hown hx (h v w ?_ (grown_refl _ _))
  simpa using hown
 ·refine wpList_append_own_at w hgd s x t ho base e i z 1 bytes ht hi hz hsize hby hzs (by omega) v n xs hs hown ⟨b, off, none⟩ ls.length c (ls.map .string) hx (by simp) ?_ ?_ h63 hbytes hbase (fun v' w' h1 h2 _ _ => h v' w' h1 h2)
  ·intro j u hu
   rw [List.getElem?_map, Option.map_eq_some_iff] at hu
   obtain ⟨y, hy, rfl⟩ := hu
   obtain ⟨hj, rfl⟩ := List.getElem?_eq_some_iff.1 hy
   have := hc j hj
   by_cases h0 : j = 0
   ·subst h0; (first | (simp [Addr.add]; done) | (simp only [Nat.add_zero] at this; exact this))
   ·(first | (simp [Addr.add, h0]; done) | (simp [Addr.add, h0]; exact this))
  ·intro u hu
   obtain ⟨y, -, rfl⟩ := List.mem_map.1 hu
   rfl

/-- The first place of a text. -/
theorem IndexL_any (lo : Nat) (v : Value) (x : ByteArray) (xs : List ByteArray) (k : Nat) (w : World) (hv : SliceK 1 encS lo w v xs) (hk : k < xs.length) (he : xs[k].toList = x.toList) (hf : ∀ j (h : j < xs.length), j < k → (x.toList == xs[j].toList) = false) :
  Calls Tryz.prog 54 #[v, .string x] w fun e w' => e = .returned (.int .i64 k) ∧ w = w' := by
 obtain ⟨a, c, rfl, hcn, hcc, hrow⟩ := hv
 have HF := Lib.hid hf
 have HE := Lib.hid he
 clear hf he
 go_enter Tryz.func54, Tryz.ntmps54
 go_wp2_with fail
 go_loop [8] (fun i => ∃ j : Nat, j ≤ k ∧ i = .int .i64 j) (fun i => xs.length - (intOf i).toNat)
 case atStart => exact ⟨0, Nat.zero_le _, rfl⟩
 case round =>
  obtain ⟨j, hj, rfl⟩ := hrel
  have hlt : j < xs.length := by omega
  obtain ⟨b1, o1, rfl, -, hbs, c1⟩ := hrow.one hlt
  simp only [encS, List.getElem?_cons_zero] at c1
  clear hrow
  by_cases hjk : j = k
  ·have h0 : (x.toList == xs[j].toList) = true := by subst hjk; rw [HE.out]; simp
   have HJ := Lib.hid hjk
   clear hjk
   go_wp2_with fail
   go_ret
   exact ⟨ret_int (by rw [HJ.out]), rfl⟩
  ·have h0 := HF.out j hlt (by omega)
   have hj2 : j + 1 ≤ k := by omega
   go_wp2_with fail
   go_round
   case rel => exact ⟨j + 1, hj2, by go_num⟩
   case measure => simp [intOf]; omega

/-- Where a text stands in a list. -/
def idxL (L : List ByteArray) (l : ByteArray) : Nat := L.findIdx fun x => x.toList == l.toList
theorem toList_inj {a b : ByteArray} (h : a.toList = b.toList) : a = b := data_inj (by rw [← Lib.toList_data, ← Lib.toList_data, h])
theorem idxL_get {L : List ByteArray} {l : ByteArray} (h : l ∈ L) : ∃ hk : idxL L l < L.length, L[idxL L l] = l ∧ ∀ j (h : j < L.length), j < idxL L l → (l.toList == L[j].toList) = false := by
 have h1 : idxL L l < L.length := by
  unfold idxL
  rw [List.findIdx_lt_length]
  exact ⟨l, h, by rw [beq_iff_eq]⟩
 refine ⟨h1, ?_, fun j hj hlt => ?_⟩
 ·have := List.findIdx_getElem (p := fun x : ByteArray => x.toList == l.toList) (xs := L) (w := h1)
  rw [beq_iff_eq] at this
  exact toList_inj this
 ·have := List.not_of_lt_findIdx (p := fun x : ByteArray => x.toList == l.toList) (xs := L) hlt
  have h2 : (L[j].toList == l.toList) = false := by simpa using this
  rw [beq_eq_false_iff_ne] at h2 ⊢
  exact fun e => h2 e.symm
def edgeIn (L : List ByteArray) (a : Arc) : Edge := ⟨a.src, (idxL L a.lab : Nat), a.dst⟩
def RetLts (n i : Int) (L : List ByteArray) (E : List Edge) (w : World) (e : Ending) (w' : World) : Prop :=
 ∃ lv ev, e = .returned (.agg #[.int .i64 n, .int .i64 i, lv, ev]) ∧ Below w.heap.size w w' ∧ w'.ownsRow w.heap.size 9 1 lv L.length (L.map .string) ∧ w'.ownsRow w.heap.size 47 3 ev E.length (E.flatMap encE)

theorem lts_results {w : World} {b : Nat} {v0 v1 v2 v3 : Value} {tmps : Array Value} (hc : tmps.getD 8 undef = .pointer (some ⟨b, 0, none⟩)) (hb : Blk w b [v0, v1, v2, v3] 27) :
  (results Tryz.f46 tmps).run Tryz.prog w = .ok (.agg #[v0, v1, v2, v3]) w := by
 have h0 := hb.cell 0 rfl
 have h1 := hb.cell 1 rfl
 have h2 := hb.cell 2 rfl
 have h3 := hb.cell 3 rfl
 simp only [Array.getD_eq_getD_getElem?] at hc
 simp [results, Tryz.results46, go_sem, hc, h0, h1, h2, h3, Result.andThen]

theorem info_strL : (Tryz.prog.info? 9).map (fun i => (i.zero, i.size, i.bytes)) = some (some (.string ⟨#[]⟩), 1, 16) := by kernel_rfl
theorem info_edgeL : (Tryz.prog.info? 47).map (fun i => (i.zero, i.size, i.bytes)) = some (some (.agg #[.int .i64 0, .int .i64 0, .int .i64 0]), 3, 24) := by kernel_rfl

/-- Between the steps of lts: the result's cell, the system under way, its labels, its edges. -/
structure LtsSt (W c0 o : Nat) (n i : Int) (Ls : List ByteArray) (Es : List Edge) (lv ev : Value) (w0 w : World) : Prop where
 res : Blk w c0 [.int .i64 0, .int .i64 0, .slice none 0 0, .slice none 0 0] 27
 out : Blk w o [.int .i64 n, .int .i64 i, lv, ev] 27
 labels : w.ownsRow W 9 1 lv Ls.length (Ls.map .string)
 edges : w.ownsRow W 47 3 ev Es.length (Es.flatMap encE)
 below : Below W w0 w

theorem own_sets {w : World} {base e size n : Nat} {v : Value} {xs : List Value} (h : w.ownsRow base e size v n xs) {b : Nat} {cs : List Value} {t : TypeId} (hb : Blk w b cs t) (he : e ≠ t) (i : Nat) (u : Value) : (w.setCell ⟨b, i, none⟩ u).ownsRow base e size v n xs :=
 h.kept (grown_setCell w ⟨b, i, none⟩ u) (own_type_ne h hb he)
theorem LtsSt.push {W c0 o : Nat} {n i : Int} {Ls : List ByteArray} {Es : List Edge} {x : Edge} {lv ev ev' : Value} {w0 w w2 w5 : World} (h : LtsSt W c0 o n i Ls Es lv ev w0 w) (hne : c0 ≠ o) (hW : W ≤ w.heap.size) (ho : W ≤ o) (hb : Below w.heap.size w w2) (hg : w2.grownBy w5 ev.ownBlock)
  (h5 : w5.ownsRow W 47 3 ev' (Es.length + 1) (Es.flatMap encE ++ encE x)) : LtsSt W c0 o n i Ls (Es ++ [x]) lv ev' w0 (w5.setCell ⟨o, 3, none⟩ ev') := by
 have E2 := owns_below h.edges hb
 have R2 := h.res.below hb
 have X2 := h.out.below hb
 have L2 := owns_below h.labels hb
 have R5 : Blk w5 c0 _ _ := (hg.block c0 R2.lt (blk_own_neL R2 E2 (by decide))).trans R2
 have X5 : Blk w5 o _ _ := (hg.block o X2.lt (blk_own_neL X2 E2 (by decide))).trans X2
 have L5 := L2.kept hg (own_types L2 E2 (by decide))
 have hs := grown_setCell w5 ⟨o, 3, none⟩ ev'
 have hW2 : W ≤ w2.heap.size := Nat.le_trans hW hb.size
 refine ⟨R5.setOther _ _ hne, X5.set 3 ev', L5.kept hs (own_type_ne L5 X5 (by decide)), ?_, ((h.below.trans (hb.mono hW)).grown hg hW2 (fun b e => (E2.lt b e).1)).setCell ho _⟩
 have := h5.kept hs (own_type_ne h5 X5 (by decide))
 simpa using this

end Go.Proofs.YtnmkncioekdehaaGreatDoor

namespace Go.Proofs.YtnmkncioekdehaaGreatDoor
open Go Go.RowKit


theorem tauT_list : tauT.toList = tauB := by rw [Lib.toList_data]; rfl
end Go.Proofs.YtnmkncioekdehaaGreatDoor

namespace Go.Proofs.YtnmkncioekdehaaGreatDoor
open Go Go.RowKit


theorem labSet_is (ls : List ByteArray) : ((labSet ls).map (·.data.toList)).Pairwise (fun a b => lessL a b = true) ∧ ∀ x, x ∈ labSet ls ↔ x ∈ ls := by
 have hs : ((ls.map (·.data.toList)).mergeSort fun x y => !lessL y x).Pairwise fun a b => a = b ∨ lessL a b = true := by
  have h1 := List.pairwise_mergeSort (le := fun x y : List UInt8 => !lessL y x) (fun a b c h1 h2 => by
   simp only [Bool.not_eq_true'] at *
   have := (swo_of_total lessL_irrefl lessL_trans lessL_tri).ntrans c b a h2 h1
   exact this) (fun a b => by
   cases h : lessL b a with
   | false => simp
   | true =>
    cases h2 : lessL a b with
    | false => simp
    | true => have := lessL_trans a b a h2 h; rw [lessL_irrefl] at this; cases this) (ls.map (·.data.toList))
  refine h1.imp fun {a b} h => ?_
  simp only [Bool.not_eq_true'] at h
  cases h2 : lessL a b with
  | true => exact .inr rfl
  | false => exact .inl (lessL_tri a b h2 h)
 obtain ⟨h1, h2⟩ := compact_is (fun a b : List UInt8 => lessL a b = true) lessL_trans _ hs
 have hm : (labSet ls).map (·.data.toList) = Lib.compact ((ls.map (·.data.toList)).mergeSort fun x y => !lessL y x) := by
  unfold labSet
  rw [List.map_map]
  conv => rhs; rw [← List.map_id (Lib.compact ((ls.map (·.data.toList)).mergeSort fun x y => !lessL y x))]
  apply List.map_congr_left
  intro x _
  simp [mkB]
 refine ⟨by rw [hm]; exact h1, fun x => ?_⟩
 have h3 : x ∈ labSet ls ↔ x.data.toList ∈ (labSet ls).map (·.data.toList) := by
  rw [List.mem_map]
  exact ⟨fun h => ⟨x, h, rfl⟩, fun ⟨y, hy, e⟩ => (data_inj e) ▸ hy⟩
 rw [h3, hm, h2, List.mem_mergeSort, List.mem_map]
 exact ⟨fun ⟨y, hy, e⟩ => (data_inj e) ▸ hy, fun h => ⟨x, h, rfl⟩⟩

/-- A list of labels in order, tau first. -/
structure InOrd (L : List ByteArray) : Prop where
 first : L[0]? = some tauT
 asc : (L.map (·.data.toList)).Pairwise fun a b => lessL a b = true
theorem InOrd.set (us : List ByteArray) : InOrd (labSet (tauT :: us)) := by
 obtain ⟨h1, h2⟩ := labSet_is (tauT :: us)
 refine ⟨?_, h1⟩
 have hm := (h2 tauT).2 (by simp)
 obtain ⟨i, hi, he⟩ := List.mem_iff_getElem.1 hm
 rcases Nat.eq_zero_or_pos i with h | h
 ·subst h; rw [List.getElem?_eq_getElem hi, he]
 ·have h3 := h1
  rw [List.pairwise_map, List.pairwise_iff_getElem] at h3
  have h4 := h3 0 i (by omega) hi h
  rw [he, lessL_iff] at h4
  rcases h4.2 with h5 | h5
  ·exact absurd (h5.trans (by rw [← Lib.toList_data, tauT_list])) h4.1
  ·exact absurd (by rw [← Lib.toList_data, tauT_list]) h5.1
theorem InOrd.less {L : List ByteArray} (h : InOrd L) {i j : Nat} (hij : i < j) (hj : j < L.length) : lessL (L[i]'(by omega)).data.toList L[j].data.toList = true := by
 have := h.asc
 rw [List.pairwise_map, List.pairwise_iff_getElem] at this
 exact this i j (by omega) hj hij
theorem InOrd.pos {L : List ByteArray} (h : InOrd L) : 0 < L.length := (List.getElem?_eq_some_iff.1 h.first).1
theorem InOrd.notau {L : List ByteArray} (h : InOrd L) {j : Nat} (h1 : 1 ≤ j) (hj : j < L.length) : L[j].data.toList ≠ tauB := by
 have h2 := h.less (show 0 < j by omega) hj
 obtain ⟨h0, e⟩ := List.getElem?_eq_some_iff.1 h.first
 rw [e, lessL_iff] at h2
 intro e2
 exact h2.1 (by rw [e2, ← Lib.toList_data, tauT_list])
/-- A text that is not there is put to its place. -/
theorem InOrd.put {us L : List ByteArray} {x : ByteArray} {k : Nat} (hL : L = labSet (tauT :: us)) (hx : ∀ y ∈ L, y.toList ≠ x.toList) (h1 : 1 ≤ k) (hk : k ≤ L.length) (hlo : ∀ j (h : j < L.length), 1 ≤ j → j < k → strLess L[j] x = true) (hhi : ∀ h : k < L.length, strLess L[k] x = false) :
  L.take k ++ x :: L.drop k = labSet (tauT :: (us ++ [x])) := by
 have hO : InOrd L := by rw [hL]; exact InOrd.set us
 obtain ⟨-, hm⟩ := labSet_is (tauT :: us)
 rw [← hL] at hm
 have hxt : x.data.toList ≠ tauB := by
  intro e
  have h0 := hO.pos
  obtain ⟨h3, e3⟩ := List.getElem?_eq_some_iff.1 hO.first
  refine hx L[0] (List.getElem_mem _) ?_
  rw [e3, tauT_list, Lib.toList_data, e]
 have hlt : ∀ j (h : j < L.length), j < k → lessL L[j].data.toList x.data.toList = true := by
  intro j hj hjk
  rw [lessL_iff]
  have hne : L[j].data.toList ≠ x.data.toList := fun e => hx L[j] (List.getElem_mem _) (by rw [Lib.toList_data, Lib.toList_data, e])
  refine ⟨hne, ?_⟩
  rcases Nat.eq_zero_or_pos j with h | h
  ·subst h
   obtain ⟨h3, e3⟩ := List.getElem?_eq_some_iff.1 hO.first
   exact .inl (by rw [e3, ← Lib.toList_data, tauT_list])
  ·have h2 := hlo j hj h hjk
   unfold strLess at h2
   rw [less_lt, decide_eq_true_eq, Lib.toList_data, Lib.toList_data] at h2
   exact .inr ⟨hxt, h2⟩
 have hgt : ∀ j (h : j < L.length), k ≤ j → lessL x.data.toList L[j].data.toList = true := by
  have hk0 : ∀ h : k < L.length, lessL x.data.toList L[k].data.toList = true := by
   intro h
   have h2 := hhi h
   have hne : x.data.toList ≠ L[k].data.toList := fun e => hx L[k] (List.getElem_mem _) (by rw [Lib.toList_data, Lib.toList_data, e])
   cases h3 : lessL x.data.toList L[k].data.toList with
   | true => rfl
   | false =>
    exfalso
    have h4 : lessL L[k].data.toList x.data.toList = true := by
     cases h5 : lessL L[k].data.toList x.data.toList with
     | true => rfl
     | false => exact absurd (lessL_tri _ _ h3 h5) hne
    rw [lessL_iff] at h4
    rcases h4.2 with h5 | h5
    ·exact hO.notau h1 h h5
    ·unfold strLess at h2
     rw [less_lt, decide_eq_false_iff_not, Lib.toList_data, Lib.toList_data] at h2
     exact h2 h5.2
  intro j hj hkj
  rcases Nat.eq_or_lt_of_le hkj with e | h
  ·subst e; exact hk0 hj
  ·exact lessL_trans _ _ _ (hk0 (by omega)) (hO.less h hj)
 refine (labSet_eq ?_ fun y => ?_).symm
 ·rw [List.map_append, List.map_cons, List.pairwise_append]
  have ha := hO.asc
  refine ⟨?_, ?_, ?_⟩
  ·rw [List.map_take]; exact ha.sublist (List.take_sublist _ _)
  ·rw [List.pairwise_cons]
   refine ⟨fun y hy => ?_, by rw [List.map_drop]; exact ha.sublist (List.drop_sublist _ _)⟩
   obtain ⟨z, hz, rfl⟩ := List.mem_map.1 hy
   obtain ⟨i, hi, rfl⟩ := List.mem_iff_getElem.1 hz
   rw [List.getElem_drop]
   exact hgt _ _ (by omega)
  ·intro y hy z hz
   obtain ⟨y2, hy2, rfl⟩ := List.mem_map.1 hy
   obtain ⟨i, hi, rfl⟩ := List.mem_iff_getElem.1 hy2
   rw [List.length_take] at hi
   rw [List.getElem_take]
   rcases List.mem_cons.1 hz with rfl | hz
   ·exact hlt _ _ (by omega)
   ·obtain ⟨z2, hz2, rfl⟩ := List.mem_map.1 hz
    obtain ⟨j, hj, rfl⟩ := List.mem_iff_getElem.1 hz2
    rw [List.getElem_drop]
    exact hO.less (by omega) _
 ·have h5 : y ∈ L.take k ++ x :: L.drop k ↔ y ∈ L ∨ y = x := by
   rw [List.mem_append, List.mem_cons]
   conv => rhs; rw [← List.take_append_drop k L, List.mem_append]
   constructor
   ·rintro (h | h | h)
    ·exact .inl (.inl h)
    ·exact .inr h
    ·exact .inl (.inr h)
   ·rintro ((h | h) | h)
    ·exact .inl h
    ·exact .inr (.inr h)
    ·exact .inr (.inl h)
  rw [h5, hm]
  simp only [List.mem_cons, List.mem_append, List.not_mem_nil, or_false]
  constructor
  ·rintro (h | h | h)
   ·exact .inl (.inl h)
   ·exact .inl (.inr h)
   ·exact .inr h
  ·rintro ((h | h) | h)
   ·exact .inl h
   ·exact .inr (.inl h)
   ·exact .inr (.inr h)
theorem InOrd.same {us L : List ByteArray} {x : ByteArray} (hL : L = labSet (tauT :: us)) (hx : x ∈ L) : L = labSet (tauT :: (us ++ [x])) := by
 have hO : InOrd L := by rw [hL]; exact InOrd.set us
 obtain ⟨-, hm⟩ := labSet_is (tauT :: us)
 rw [← hL] at hm
 refine (labSet_eq hO.asc fun y => ?_).symm
 rw [hm]
 have := (hm x).1 hx
 simp only [List.mem_cons, List.mem_append, List.not_mem_nil, or_false] at this ⊢
 constructor
 ·rintro (h | h | h)
  ·exact .inl h
  ·exact .inr h
  ·subst h; exact this
 ·rintro (h | h)
  ·exact .inl h
  ·exact .inr (.inl h)
/-- While the tail is moved up: a junk text at the place k. -/
def shiftAt (L : List ByteArray) (j : ByteArray) (k : Nat) : List ByteArray := L.take k ++ j :: L.drop k
theorem shiftAt_end (L : List ByteArray) (j : ByteArray) : L ++ [j] = shiftAt L j L.length := by simp [shiftAt]
theorem shiftAt_get {L : List ByteArray} {j : ByteArray} {k : Nat} (h1 : 1 ≤ k) (hk : k ≤ L.length) : (shiftAt L j k)[k - 1]? = some (L[k - 1]'(by omega)) := by
 unfold shiftAt
 rw [List.getElem?_append_left (by rw [List.length_take]; omega), List.getElem?_take, if_pos (by omega), List.getElem?_eq_getElem (by omega)]
theorem shiftAt_set {L : List ByteArray} {j : ByteArray} {k : Nat} (h1 : 1 ≤ k) (hk : k ≤ L.length) : (shiftAt L j k).set k (L[k - 1]'(by omega)) = shiftAt L (L[k - 1]'(by omega)) (k - 1) := by
 unfold shiftAt
 have hl : (L.take k).length = k := by rw [List.length_take]; omega
 rw [List.set_append_right _ _ (by omega), hl, Nat.sub_self, List.set_cons_zero]
 have h2 : L.take k = L.take (k - 1) ++ [L[k - 1]'(by omega)] := by
  have := List.take_succ_eq_append_getElem (l := L) (i := k - 1) (by omega)
  rw [show k - 1 + 1 = k from by omega] at this
  exact this
 have h3 : L.drop (k - 1) = L[k - 1]'(by omega) :: L.drop k := by
  have := List.drop_eq_getElem_cons (l := L) (i := k - 1) (by omega)
  rw [show k - 1 + 1 = k from by omega] at this
  exact this
 rw [h2, h3, List.append_assoc]
 rfl
theorem shiftAt_put {L : List ByteArray} {j x : ByteArray} {k : Nat} (hk : k ≤ L.length) : (shiftAt L j k).set k x = L.take k ++ x :: L.drop k := by
 unfold shiftAt
 have hl : (L.take k).length = k := by rw [List.length_take]; omega
 rw [List.set_append_right _ _ (by omega), hl, Nat.sub_self, List.set_cons_zero]

theorem info_strJ : (Tryz.prog.info? 9).map (fun i => (i.zero, i.size, i.bytes)) = some (some (.string ⟨#[]⟩), 1, 16) := by kernel_rfl
theorem tau_one : labSet [tauT] = [tauT] := by
 refine labSet_eq (by simp) fun x => Iff.rfl

end Go.Proofs.YtnmkncioekdehaaGreatDoor

namespace Go.Proofs.YtnmkncioekdehaaGreatDoor
open Go Go.RowKit


theorem labSet_step (ls : List ByteArray) {i : Nat} (h : i < ls.length) : labSet (tauT :: ls.take (i + 1)) = labSet (tauT :: (ls.take i ++ [ls[i]])) := by rw [List.take_succ_eq_append_getElem h]

set_option maxRecDepth 100000 in
set_option maxHeartbeats 4000000 in
theorem l11Join_any (lo : Nat) (v : Value) (ls : List ByteArray) (w : World) (hv : SliceK 1 encS lo w v ls) (hn : ls.length ≤ 1000) :
  Calls Tryz.prog 78 #[v] w fun e w' => ∃ v', e = .returned v' ∧ Below w.heap.size w w' ∧ w'.ownsRow w.heap.size 9 1 v' (labSet (tauT :: ls)).length ((labSet (tauT :: ls)).map .string) := by
 obtain ⟨a, c, rfl, hc, hc2, hrow⟩ := hv
 have HR := Lib.hid hrow
 obtain ⟨N, hN⟩ : ∃ N, N = ls.length := ⟨_, rfl⟩
 rw [← hN] at hc hn ⊢
 have HN := Lib.hid hN
 obtain ⟨i0, hi, hz0, hz1, hz2⟩ := info_parts info_strJ
 obtain ⟨W, hW⟩ : ∃ W, W = w.alloc (.cells #[.string ⟨#[116, 97, 117]⟩] 9) := ⟨_, rfl⟩
 have HB0 : Hid (Below w.heap.size w W) := by unfold Hid; rw [hW]; exact (Below.refl _ _).alloc (Nat.le_refl _) _
 have HO0 : Hid (W.ownsRow w.heap.size 9 1 (.slice (some ⟨w.heap.size, 0, none⟩) 1 1) 1 ([tauT].map .string)) := by
  unfold Hid
  rw [hW]
  exact World.ownsRow_lit (base := w.heap.size) (e := 9) (size := 1) w #[.string ⟨#[116, 97, 117]⟩] 1 (Nat.le_refl _) (by decide) rfl
 have HW := Lib.hid hW
 clear hrow hN hW
 go_enter Tryz.func78, Tryz.ntmps78
 go_wp2
 rw [← HW.out]
 go_loopw [3, 4] (fun v3 v4 wr => ∃ (i : Nat) (L : List ByteArray), v4 = .int .i64 i ∧ i ≤ N ∧ L = labSet (tauT :: ls.take i) ∧ L.length ≤ i + 1 ∧ Below w.heap.size w wr ∧ wr.ownsRow w.heap.size 9 1 v3 L.length (L.map .string)) (fun _ v4 _ => N - (intOf v4).toNat)
 case atStart => exact ⟨0, [tauT], rfl, Nat.zero_le _, by rw [List.take_zero, tau_one], by simp, HB0.out, HO0.out⟩
 case round =>
  clear HB0 HO0
  obtain ⟨i, L, rfl, hiN, hL, hLl, hbl, ho⟩ := hrel
  obtain ⟨wC, rfl⟩ : ∃ wC : World, wC = wr := ⟨_, rfl⟩
  have HL := Lib.hid hL
  have HBL := Lib.hid hbl
  have HO := Lib.hid ho
  have hsz := hbl.size
  have HINO : Hid (InOrd L) := by unfold Hid; rw [hL]; exact InOrd.set _
  have hLpos := HINO.out.pos
  obtain ⟨oa, oc, rfl, -, -⟩ := owns_slice ho
  obtain ⟨M, hM⟩ : ∃ M, M = L.length := ⟨_, rfl⟩
  rw [← hM] at hLl hLpos ho HO ⊢
  have HM := Lib.hid hM
  by_cases hlt : i < N
  ·have hil : i < ls.length := by rw [← HN.out]; exact hlt
   obtain ⟨b, o, rfl, -, hbw0, c00⟩ := HR.out.one hil
   simp only [encS, List.getElem?_cons_zero] at c00
   obtain ⟨x, hx⟩ : ∃ x, x = ls[i] := ⟨_, rfl⟩
   rw [← hx] at c00
   have hbw : b < wC.heap.size := Nat.lt_of_lt_of_le hbw0 hsz
   have c0 := keeps hbl hbw0 c00
   have HCL : Hid (∀ w', Below w.heap.size w w' → w'.cell? ⟨b, o + i, none⟩ = some (.string x)) := fun w' hb => keeps hb hbw0 c00
   clear c00
   have HST : Hid (labSet (tauT :: ls.take (i + 1)) = labSet (tauT :: (ls.take i ++ [x]))) := by unfold Hid; rw [hx]; exact labSet_step ls hil
   have HFI := Lib.hid (l11Find_any w.heap.size (.slice oa M oc) L x wC (SliceK.of_owns (enc := encS) (e := 9) encS_len HM.out (by rw [flat_encS]; exact ho)))
   obtain ⟨og, hog, hogB, hogw⟩ : ∃ og, oa = some ⟨og, 0, none⟩ ∧ w.heap.size ≤ og ∧ og < wC.heap.size := by
    rcases ho.2 with ⟨h, h0⟩ | ⟨g, cap, cur, h, h1, hg, -⟩
    ·omega
    ·simp only [Value.slice.injEq, true_and] at h
     exact ⟨g, h.1, h1, (Array.getElem?_eq_some_iff.1 hg).1⟩
   subst hog
   have HC0 := Lib.hid c0
   by_cases hneg : textAt L x < 0
   ·have hno : ∀ y ∈ L, y.toList ≠ x.toList := by
     have h1 := textAt_neg.1 hneg
     rw [List.any_eq_false] at h1
     intro y hy e
     exact h1 y hy (by rw [e]; simp)
    have HNO := Lib.hid hno
    obtain ⟨tx, htx⟩ : ∃ tx, tx = textAt L x := ⟨_, rfl⟩
    rw [← htx] at HFI hneg
    clear hL hbl ho hM hx hno htx
    go_wp2_with fail
    refine Calls.mono HFI.out ?_
    rintro e w1 ⟨rfl, hb1⟩
    have HB1 := Lib.hid (HBL.out.trans (hb1.mono hsz))
    have HO1 := Lib.hid (owns_below HO.out hb1)
    have HC1 := Lib.hid (keeps hb1 hbw HC0.out)
    have hbw1 : b < w1.heap.size := Nat.lt_of_lt_of_le hbw hb1.size
    have hogw1 : og < w1.heap.size := Nat.lt_of_lt_of_le hogw hb1.size
    have hs1 : w.heap.size ≤ w1.heap.size := HB1.out.size
    clear hb1 c0 HC0
    go_wp2
    go_loopw [5] (fun v5 wr => ∃ k : Nat, v5 = .int .i64 k ∧ 1 ≤ k ∧ k ≤ M ∧ (∀ j (h : j < L.length), 1 ≤ j → j < k → strLess L[j] x = true) ∧ Below w1.heap.size w1 wr) (fun v5 _ => M - (intOf v5).toNat)
    case atStart => exact ⟨1, rfl, Nat.le_refl _, by omega, (fun j _ h1 h2 => by omega), Below.refl _ _⟩
    case round =>
     obtain ⟨k, rfl, hk1, hkM, hlo, hb2⟩ := hrel
     obtain ⟨w2, rfl⟩ : ∃ w2 : World, w2 = wr := ⟨_, rfl⟩
     have HLO := Lib.hid hlo
     have HB2 := Lib.hid hb2
     have HO2 := Lib.hid (owns_below HO1.out hb2)
     have c2 := keeps hb2 hbw1 HC1.out
     have hbw2 : b < w2.heap.size := Nat.lt_of_lt_of_le hbw1 hb2.size
     have hogw2 : og < w2.heap.size := Nat.lt_of_lt_of_le hogw1 hb2.size
     have hs2 : w.heap.size ≤ w2.heap.size := Nat.le_trans hs1 hb2.size
     have lc2 := later_cell hbw2 c2
     clear hlo hb2
     by_cases hgo : ∃ h : k < L.length, strLess L[k] x = true
     ·obtain ⟨hkL, hs⟩ := hgo
      have hkl : k < M := by rw [HM.out]; exact hkL
      have ck := HO2.out.cellAt k (by omega)
      rw [List.getElem?_map, List.getElem?_eq_getElem hkL, Option.map_some] at ck
      have HLS : Hid (∀ j (h : j < L.length), 1 ≤ j → j < k + 1 → strLess L[j] x = true) := fun j h h1 h2 => by
       by_cases e : j = k
       ·subst e; exact hs
       ·exact HLO.out j h h1 (by omega)
      obtain ⟨y, hy⟩ : ∃ y, y = L[k] := ⟨_, rfl⟩
      rw [← hy] at ck hs
      have lck := later_cell hogw2 ck
      unfold strLess at hs
      clear hy ck c2
      go_wp2
      refine wp_region_later (by kernel_rfl) (by kernel_rfl) ?_
      repeat (go_big_quiet_step ((fail)))
      refine wpQuiet_nil ?_
      intro _ hw9
      obtain ⟨nl, hw8⟩ := hw9
      subst hw8
      have HB3 := Lib.hid (HB2.out.trans (nl.h.mono HB2.out.size))
      clear lc2 lck
      go_wp2
      go_roundw
      case rel => exact ⟨k + 1, by go_num, by omega, by omega, HLS.out, HB3.out⟩
      case measure => simp [intOf]; omega
     ·have HHI : Hid (∀ h : k < L.length, strLess L[k] x = false) := fun h => by
       cases hs : strLess L[k] x with
       | false => rfl
       | true => exact absurd ⟨h, hs⟩ hgo
      have HPUT : Hid (L.take k ++ x :: L.drop k = labSet (tauT :: ls.take (i + 1))) := by unfold Hid; rw [HST.out]; exact InOrd.put HL.out HNO.out hk1 (by rw [← HM.out]; exact hkM) HLO.out HHI.out
      -- the walk from the search's end on, once
      have REST : ∀ (w3 : World), Below w2.heap.size w2 w3 → Below w.heap.size w w3 ∧ w3.ownsRow w.heap.size 9 1 (.slice (some ⟨og, 0, none⟩) M oc) M (L.map .string) ∧ w3.cell? ⟨b, o + i, none⟩ = some (.string x) := fun w3 hb3 => ⟨HB1.out.trans ((HB2.out.trans (hb3.mono HB2.out.size)).mono hs1), owns_below HO2.out hb3, keeps hb3 hbw2 c2⟩
      have HREST := Lib.hid REST
      clear REST hgo
      by_cases hkl : k < M
      ·have hkL : k < L.length := by rw [← HM.out]; exact hkl
       have ck := HO2.out.cellAt k (by omega)
       rw [List.getElem?_map, List.getElem?_eq_getElem hkL, Option.map_some] at ck
       have hs := HHI.out hkL
       obtain ⟨y, hy⟩ : ∃ y, y = L[k] := ⟨_, rfl⟩
       rw [← hy] at ck hs
       have lck := later_cell hogw2 ck
       unfold strLess at hs
       clear hy ck c2
       go_wp2
       refine wp_region_later (by kernel_rfl) (by kernel_rfl) ?_
       repeat (go_big_quiet_step ((fail)))
       refine wpQuiet_nil ?_
       intro _ hw9
       obtain ⟨nl, hw8⟩ := hw9
       subst hw8
       have H3 := HREST.out nl.w nl.h
       obtain ⟨w3, hw3⟩ : ∃ w3, w3 = nl.w := ⟨_, rfl⟩
       rw [← hw3] at H3 ⊢
       clear hw3 lck lc2 hs
       obtain ⟨HB3, HO3, c3⟩ := H3
       replace HB3 := Lib.hid HB3
       replace HO3 := Lib.hid HO3
       replace c3 := Lib.hid c3
       have hs3 := HB3.out.size
       have hbw3 : b < w3.heap.size := World.block_lt_of_cell? _ _ c3.out
       go_wp2_with (at_builtin; refine wpList_append_own _ rfl _ _ 24 rfl w.heap.size 9 i0 (.string ⟨#[]⟩) 1 16 Tryz.underlying24 hi hz0 hz1 hz2 rfl (by decide) _ M _ rfl (HO3.out.alloc _) ⟨w3.heap.size, 0, none⟩ 1 1 [.string ⟨#[]⟩] rfl rfl ?d1 ?d2 ?d3 ?d4 ?d5 ?_)
       case d1 => exact World.news_of_block (cs := #[.string ⟨#[]⟩]) (t := 9) (fr := (0, 0)) (heap_alloc_new _ _)
       case d2 => intro u hu; simp at hu; subst hu; rfl
       case d3 => simp [maxLen]; omega
       case d4 => omega
       case d5 => simp; omega
       intro v4 w4 ho4 hg4 _
       have HB4 : Hid (Below w.heap.size w w4) := (HB3.out.alloc hs3 _).grown hg4 (by simp; omega) (fun b e => (HO3.out.lt b e).1)
       have HO4 : Hid (w4.ownsRow w.heap.size 9 1 v4 (M + 1) ((shiftAt L ⟨#[]⟩ M).map .string)) := by
        unfold Hid
        rw [HM.out, ← shiftAt_end, List.map_append, ← HM.out]
        exact ho4
       obtain ⟨g4, cap4, rfl⟩ : ∃ g4 cap4, v4 = .slice (some ⟨g4, 0, none⟩) (M + 1) cap4 := by
        rcases HO4.out.2 with ⟨h, h0⟩ | ⟨g, cap, cur, h, -⟩
        ·omega
        ·exact ⟨g, cap, h⟩
       clear ho4 hg4 HB3 HO3 c3 hs3 hbw3
       go_wp2
       go_loopw [6] (fun v6 wr => ∃ (m : Nat) (junk : ByteArray), v6 = .int .i64 m ∧ k ≤ m ∧ m ≤ M ∧ Below w.heap.size w wr ∧ wr.ownsRow w.heap.size 9 1 (.slice (some ⟨g4, 0, none⟩) (M + 1) cap4) (M + 1) ((shiftAt L junk m).map .string)) (fun v6 _ => (intOf v6).toNat)
       case atStart => exact ⟨M, ⟨#[]⟩, by go_num, hkM, Nat.le_refl _, HB4.out, HO4.out⟩
       case round =>
        clear HB4 HO4
        obtain ⟨m, junk, rfl, hkm, hmM, hb5, ho5⟩ := hrel
        obtain ⟨w5, rfl⟩ : ∃ w5 : World, w5 = wr := ⟨_, rfl⟩
        have HB5 := Lib.hid hb5
        have HO5 := Lib.hid ho5
        have hs5 := hb5.size
        have hbw5 : b < w5.heap.size := Nat.lt_of_lt_of_le hbw0 hs5
        have hgB : w.heap.size ≤ g4 := (ho5.lt g4 rfl).1
        by_cases hmk : k < m
        ·have hm1 : 1 ≤ m := by omega
         have hmL : m ≤ L.length := by rw [← HM.out]; exact hmM
         have cg := ho5.cellAt (m - 1) (by omega)
         rw [List.getElem?_map, shiftAt_get hm1 hmL, Option.map_some] at cg
         obtain ⟨xc, ct⟩ := own_cell ho5 m (by omega)
         have f5 := ho5.frozenAt m
         have hst := ho5.stored m (.string (L[m - 1]'(by omega)))
         rw [← List.map_set, shiftAt_set hm1 hmL] at hst
         have HST := Lib.hid hst.1
         obtain ⟨y, hy⟩ : ∃ y, y = L[m - 1]'(by omega) := ⟨_, rfl⟩
         rw [← hy] at cg HST
         obtain ⟨p, rfl⟩ : ∃ p, m = p + 1 := ⟨m - 1, by omega⟩
         rw [Nat.add_sub_cancel] at cg HST
         have hpi : ((p + 1 : Nat) : Int) = (p : Int) + 1 := by omega
         rw [hpi]
         clear hst hb5 ho5 hy hpi
         go_wp2
         go_roundw
         case rel => exact ⟨p, y, by go_num, by omega, by omega, HB5.out.setCell hgB _, HST.out⟩
         case measure => (first | (simp [intOf]; done) | (simp [intOf]; omega))
        ·have hmk2 : m = k := by omega
         subst hmk2
         have ci := HCL.out w5 hb5
         obtain ⟨xc, ct⟩ := own_cell ho5 m (by omega)
         have f5 := ho5.frozenAt m
         have hst := (ho5.stored m (.string x)).1
         rw [← List.map_set, shiftAt_put (by rw [← HM.out]; exact hmM), HPUT.out] at hst
         have hle : (labSet (tauT :: ls.take (i + 1))).length = M + 1 := by
          have := hst.1
          rw [List.length_map] at this
          omega
         have HST := Lib.hid hst
         have HLE := Lib.hid hle
         clear hst hb5 ho5 hle
         go_wp2
         go_roundw
         case rel => exact ⟨i + 1, labSet (tauT :: ls.take (i + 1)), by go_num, by omega, rfl, by rw [HLE.out]; omega, HB5.out.setCell hgB _, by rw [HLE.out]; exact HST.out⟩
         case measure => simp [intOf]; omega
      ·have HKM : Hid (k = M) := by unfold Hid; omega
       clear c2
       go_wp2
       refine wp_region_later (by kernel_rfl) (by kernel_rfl) ?_
       repeat (go_big_quiet_step ((fail)))
       refine wpQuiet_nil ?_
       intro _ hw9
       obtain ⟨nl, hw8⟩ := hw9
       subst hw8
       have H3 := HREST.out nl.w nl.h
       obtain ⟨w3, hw3⟩ : ∃ w3, w3 = nl.w := ⟨_, rfl⟩
       rw [← hw3] at H3 ⊢
       clear hw3 lc2
       obtain ⟨HB3, HO3, c3⟩ := H3
       replace HB3 := Lib.hid HB3
       replace HO3 := Lib.hid HO3
       replace c3 := Lib.hid c3
       have hs3 := HB3.out.size
       have hbw3 : b < w3.heap.size := World.block_lt_of_cell? _ _ c3.out
       go_wp2_with (at_builtin; refine wpList_append_own _ rfl _ _ 24 rfl w.heap.size 9 i0 (.string ⟨#[]⟩) 1 16 Tryz.underlying24 hi hz0 hz1 hz2 rfl (by decide) _ M _ rfl (HO3.out.alloc _) ⟨w3.heap.size, 0, none⟩ 1 1 [.string ⟨#[]⟩] rfl rfl ?d1 ?d2 ?d3 ?d4 ?d5 ?_)
       case d1 => exact World.news_of_block (cs := #[.string ⟨#[]⟩]) (t := 9) (fr := (0, 0)) (heap_alloc_new _ _)
       case d2 => intro u hu; simp at hu; subst hu; rfl
       case d3 => simp [maxLen]; omega
       case d4 => omega
       case d5 => simp; omega
       intro v4 w4 ho4 hg4 _
       have HB4 : Hid (Below w.heap.size w w4) := (HB3.out.alloc hs3 _).grown hg4 (by simp; omega) (fun b e => (HO3.out.lt b e).1)
       have HO4 : Hid (w4.ownsRow w.heap.size 9 1 v4 (M + 1) ((shiftAt L ⟨#[]⟩ M).map .string)) := by
        unfold Hid
        rw [HM.out, ← shiftAt_end, List.map_append, ← HM.out]
        exact ho4
       obtain ⟨g4, cap4, rfl⟩ : ∃ g4 cap4, v4 = .slice (some ⟨g4, 0, none⟩) (M + 1) cap4 := by
        rcases HO4.out.2 with ⟨h, h0⟩ | ⟨g, cap, cur, h, -⟩
        ·omega
        ·exact ⟨g, cap, h⟩
       clear ho4 hg4 HB3 HO3 c3 hs3 hbw3
       go_wp2
       go_loopw [6] (fun v6 wr => ∃ (m : Nat) (junk : ByteArray), v6 = .int .i64 m ∧ k ≤ m ∧ m ≤ M ∧ Below w.heap.size w wr ∧ wr.ownsRow w.heap.size 9 1 (.slice (some ⟨g4, 0, none⟩) (M + 1) cap4) (M + 1) ((shiftAt L junk m).map .string)) (fun v6 _ => (intOf v6).toNat)
       case atStart => exact ⟨M, ⟨#[]⟩, by go_num, hkM, Nat.le_refl _, HB4.out, HO4.out⟩
       case round =>
        clear HB4 HO4
        obtain ⟨m, junk, rfl, hkm, hmM, hb5, ho5⟩ := hrel
        obtain ⟨w5, rfl⟩ : ∃ w5 : World, w5 = wr := ⟨_, rfl⟩
        have HB5 := Lib.hid hb5
        have HO5 := Lib.hid ho5
        have hs5 := hb5.size
        have hbw5 : b < w5.heap.size := Nat.lt_of_lt_of_le hbw0 hs5
        have hgB : w.heap.size ≤ g4 := (ho5.lt g4 rfl).1
        by_cases hmk : k < m
        ·exfalso; have := HKM.out; omega
        ·have hmk2 : m = k := by omega
         subst hmk2
         have ci := HCL.out w5 hb5
         obtain ⟨xc, ct⟩ := own_cell ho5 m (by omega)
         have f5 := ho5.frozenAt m
         have hst := (ho5.stored m (.string x)).1
         rw [← List.map_set, shiftAt_put (by rw [← HM.out]; exact hmM), HPUT.out] at hst
         have hle : (labSet (tauT :: ls.take (i + 1))).length = M + 1 := by
          have := hst.1
          rw [List.length_map] at this
          omega
         have HST := Lib.hid hst
         have HLE := Lib.hid hle
         clear hst hb5 ho5 hle
         go_wp2
         go_roundw
         case rel => exact ⟨i + 1, labSet (tauT :: ls.take (i + 1)), by go_num, by omega, rfl, by rw [HLE.out]; omega, HB5.out.setCell hgB _, by rw [HLE.out]; exact HST.out⟩
         case measure => simp [intOf]; omega
   ·obtain ⟨n, hn1, hn2, hn3⟩ := textAt_some hneg
    have hxL : x ∈ L := by
     have := toList_inj hn3
     rw [← this]
     exact List.getElem_mem _
    have HSA : Hid (L = labSet (tauT :: ls.take (i + 1))) := by unfold Hid; rw [HST.out]; exact InOrd.same HL.out hxL
    obtain ⟨tx, htx⟩ : ∃ tx, tx = textAt L x := ⟨_, rfl⟩
    rw [← htx] at HFI hneg
    clear hL hbl ho hM hx htx hn1 hn2 hn3 hxL
    go_wp2_with fail
    refine Calls.mono HFI.out ?_
    rintro e w1 ⟨rfl, hb1⟩
    have HB1 := Lib.hid (HBL.out.trans (hb1.mono hsz))
    have HO1 := Lib.hid (owns_below HO.out hb1)
    clear hb1 c0 HC0
    go_wp2
    go_roundw
    case rel => exact ⟨i + 1, L, by go_num, by omega, HSA.out, by rw [← HM.out]; omega, HB1.out, by rw [← HM.out]; exact HO1.out⟩
    case measure => simp [intOf]; omega
  ·have hiN2 : i = N := by omega
   have HFI : Hid (L = labSet (tauT :: ls)) := by
    have h := HL.out
    rw [hiN2, HN.out, List.take_length] at h
    exact h
   clear hL hbl ho hM
   go_wp2
   go_ret
   exact ⟨_, rfl, HBL.out, by rw [← HFI.out, ← HM.out]; exact HO.out⟩

end Go.Proofs.YtnmkncioekdehaaGreatDoor

namespace Go.Proofs.YtnmkncioekdehaaGreatDoor
open Go Go.RowKit


/-- An edge whose label is a place of the texts, as an edge of the system with the labels L. -/
def makeE (L texts : List ByteArray) (e : Edge) : Edge := ⟨e.src, textAt L (texts.getD e.lab.toNat ByteArray.empty), e.dst⟩
/-- The edges laid so far. -/
def MkEdges (L texts : List ByteArray) (es R : List Edge) : Prop := RiseE R ∧ R.length ≤ es.length ∧ ∀ x, x ∈ R ↔ x ∈ es.map (makeE L texts)
theorem MkEdges.nil (L texts : List ByteArray) : MkEdges L texts [] [] := ⟨List.Pairwise.nil, Nat.le_refl _, fun _ => Iff.rfl⟩
theorem MkEdges.put {L texts : List ByteArray} {es R R2 : List Edge} {k : Nat} (h : MkEdges L texts (es.take k) R) (hk : k < es.length) (hp : PutIs R (makeE L texts es[k]) R2) : MkEdges L texts (es.take (k + 1)) R2 := by
 obtain ⟨h1, h2, h3⟩ := h
 obtain ⟨p1, p2, p3⟩ := hp
 refine ⟨p1, ?_, fun x => ?_⟩
 ·rw [List.length_take] at h2 ⊢; omega
 ·rw [p3, h3, List.take_succ_eq_append_getElem hk, List.map_append, List.mem_append, List.map_singleton, List.mem_singleton]
theorem lmake_results {w : World} {b : Nat} {v0 v1 v2 v3 : Value} {tmps : Array Value} (hc : tmps.getD 8 undef = .pointer (some ⟨b, 0, none⟩)) (hb : Blk w b [v0, v1, v2, v3] 27) :
  (results Tryz.f49 tmps).run Tryz.prog w = .ok (.agg #[v0, v1, v2, v3]) w := by
 have h0 := hb.cell 0 rfl
 have h1 := hb.cell 1 rfl
 have h2 := hb.cell 2 rfl
 have h3 := hb.cell 3 rfl
 simp only [Array.getD_eq_getD_getElem?] at hc
 simp [results, Tryz.results49, go_sem, hc, h0, h1, h2, h3, Result.andThen]
theorem blk_kept {w w' : World} {b : Nat} {cs : List Value} {t : TypeId} (h : Blk w b cs t) {base e size n : Nat} {v : Value} {xs : List Value} (ho : w.ownsRow base e size v n xs) (hg : w.grownBy w' v.ownBlock) (he : e ≠ t) : Blk w' b cs t :=
 (hg.block b h.lt (blk_own_neL h ho he)).trans h
/-- What l11Make returns. -/
def RetMk (n i : Int) (texts : List ByteArray) (es : List Edge) (w : World) (e : Ending) (w' : World) : Prop :=
 Below w.heap.size w w' ∧ ∃ (lv ev : Value) (R : List Edge), e = .returned (.agg #[.int .i64 n, .int .i64 i, lv, ev]) ∧ OwnStrs w.heap.size w' lv (labSet (tauT :: texts)) ∧ w'.ownsRow w.heap.size 47 3 ev R.length (R.flatMap encE) ∧ MkEdges (labSet (tauT :: texts)) texts es R

set_option maxRecDepth 100000 in
set_option maxHeartbeats 4000000 in
theorem l11Make_any (lo lo2 : Nat) (n i : Int) (texts : List ByteArray) (es : List Edge) (tv ev : Value) (w : World) (ht : SliceK 1 encS lo w tv texts) (he : SliceK 3 encE lo2 w ev es) (htn : texts.length ≤ 900) (hen : es.length ≤ 900) (hlab : ∀ e ∈ es, 0 ≤ e.lab ∧ e.lab < texts.length) :
  Calls Tryz.prog 49 #[.int .i64 n, .int .i64 i, tv, ev] w (RetMk n i texts es w) := by
 obtain ⟨rb, hrb⟩ : ∃ rb, rb = w.heap.size := ⟨_, rfl⟩
 obtain ⟨wA, hwA⟩ : ∃ wA, wA = w.alloc (.cells #[.int .i64 0, .int .i64 0, .slice none 0 0, .slice none 0 0] 27) := ⟨_, rfl⟩
 have hbA : Below w.heap.size w wA := by rw [hwA]; exact (Below.refl _ _).alloc (Nat.le_refl _) _
 have hRB : Blk wA rb [.int .i64 0, .int .i64 0, .slice none 0 0, .slice none 0 0] 27 := by rw [hwA, hrb]; exact Blk.new w _ _
 have HJ := Lib.hid (l11Join_any lo tv texts wA (ht.below hbA) (by omega))
 have HT := Lib.hid (ht.below hbA)
 have HE := Lib.hid (he.below hbA)
 have HLAB := Lib.hid hlab
 obtain ⟨ta, tc, rfl, -, -, htrow⟩ := ht.below hbA
 obtain ⟨ea, ec, rfl, -, -, herow⟩ := he.below hbA
 have HTR := Lib.hid htrow
 have HER := Lib.hid herow
 obtain ⟨TN, hTN⟩ : ∃ TN, TN = texts.length := ⟨_, rfl⟩
 obtain ⟨EN, hEN⟩ : ∃ EN, EN = es.length := ⟨_, rfl⟩
 rw [← hTN] at htn HJ HT ⊢
 rw [← hEN] at hen HE ⊢
 have HTN := Lib.hid hTN
 have HEN := Lib.hid hEN
 have HRB := Lib.hid hRB
 have HBA := Lib.hid hbA
 have HWA := Lib.hid hwA
 have HRBB := Lib.hid hrb
 clear ht he hbA hRB hwA hrb htrow herow hTN hEN hlab
 go_enter Tryz.func49, Tryz.ntmps49
 go_wp2_with fail
 rw [← HWA.out]
 try rw [← HRBB.out]
 refine Calls.mono HJ.out ?_
 rintro e w1 ⟨lv, rfl, hb1, ho1⟩
 obtain ⟨L, hL⟩ : ∃ L, L = labSet (tauT :: texts) := ⟨_, rfl⟩
 rw [← hL] at ho1
 obtain ⟨la, lc, rfl, -, -⟩ := owns_slice ho1
 obtain ⟨LN, hLN⟩ : ∃ LN, LN = L.length := ⟨_, rfl⟩
 rw [← hLN] at ho1 ⊢
 obtain ⟨ob, hob⟩ : ∃ ob, ob = w1.heap.size + 1 := ⟨_, rfl⟩
 obtain ⟨W2, hW2⟩ : ∃ W2, W2 = (w1.alloc (.cells #[] 47)).alloc (.cells #[.int .i64 n, .int .i64 i, .slice la LN lc, .slice (some ⟨w1.heap.size, 0, none⟩) 0 0] 27) := ⟨_, rfl⟩
 have hb2 : Below w1.heap.size w1 W2 := by rw [hW2]; exact ((Below.refl _ _).alloc (Nat.le_refl _) _).alloc (by simp) _
 have hOB : Blk W2 ob [.int .i64 n, .int .i64 i, .slice la LN lc, .slice (some ⟨w1.heap.size, 0, none⟩) 0 0] 27 := by
  have h := Blk.new (w1.alloc (.cells #[] 47)) [.int .i64 n, .int .i64 i, .slice la LN lc, .slice (some ⟨w1.heap.size, 0, none⟩) 0 0] 27
  rw [World.size_alloc, ← hob] at h
  rw [hW2]
  exact h
 have hE0 : W2.ownsRow w1.heap.size 47 3 (.slice (some ⟨w1.heap.size, 0, none⟩) 0 0) 0 [] := by
  rw [hW2]
  exact (World.ownsRow_lit (base := w1.heap.size) (e := 47) (size := 3) w1 #[] 0 (Nat.le_refl _) (by decide) rfl).alloc _
 have HOB := Lib.hid hOB
 have HE0 := Lib.hid hE0
 have HB2 : Hid (Below wA.heap.size wA W2) := hb1.trans (hb2.mono hb1.size)
 have HOL : Hid (OwnStrs wA.heap.size W2 (.slice la LN lc) L) := by
  unfold Hid OwnStrs
  rw [← hLN]
  exact owns_below ho1 hb2
 have HW2 := Lib.hid hW2
 have HOBB := Lib.hid hob
 have hs1 : wA.heap.size ≤ w1.heap.size := hb1.size
 have HL := Lib.hid hL
 have HLN := Lib.hid hLN
 obtain ⟨B, hB⟩ : ∃ B, B = w1.heap.size := ⟨_, rfl⟩
 rw [← hB] at HOB HE0 HOBB hs1 hob
 have HOBN : Hid (ob = B + 1) := hob
 have HB := Lib.hid hB
 have HRB2 : Hid (Blk W2 rb [.int .i64 0, .int .i64 0, .slice none 0 0, .slice none 0 0] 27) := HRB.out.below HB2.out
 have hrbA : rb < wA.heap.size := HRB.out.lt
 clear hb1 ho1 hb2 hOB hE0 hW2 hL hLN hob HJ hB
 go_wp2
 rw [← HB.out]
 try rw [← HOBB.out]
 try rw [← HB.out] at HW2
 try rw [← HW2.out]
 go_loopw [10] (fun v10 wr => ∃ (k : Nat) (R : List Edge) (ra : Option Addr) (rc : Nat), k ≤ EN ∧ v10 = .int .i64 k ∧ Below wA.heap.size wA wr ∧ Blk wr ob [.int .i64 n, .int .i64 i, .slice la LN lc, .slice ra R.length rc] 27 ∧ Blk wr rb [.int .i64 0, .int .i64 0, .slice none 0 0, .slice none 0 0] 27 ∧ OwnStrs wA.heap.size wr (.slice la LN lc) L ∧ wr.ownsRow B 47 3 (.slice ra R.length rc) R.length (R.flatMap encE) ∧ MkEdges L texts (es.take k) R ∧ W2.heap.size ≤ wr.heap.size) (fun v10 _ => EN - (intOf v10).toNat)
 case atStart => exact ⟨0, [], _, _, Nat.zero_le _, rfl, HB2.out, HOB.out, HRB2.out, HOL.out, HE0.out, MkEdges.nil _ _, Nat.le_refl _⟩
 case round =>
  obtain ⟨k, R, ra, rc, hk, rfl, hbl, hob9, hrb9, hol9, hre, hmk, hsW⟩ := hrel
  obtain ⟨wC, rfl⟩ : ∃ wC : World, wC = wr := ⟨_, rfl⟩
  have HBL := Lib.hid hbl
  have HO9 := Lib.hid hob9
  have HR9 := Lib.hid hrb9
  have HL9 := Lib.hid hol9
  have HE9 := Lib.hid hre
  have HMK := Lib.hid hmk
  have hszC := hbl.size
  have hRl : R.length ≤ 900 := by have := hmk.2.1; rw [List.length_take] at this; have := HEN.out; omega
  obtain ⟨RN, hRN⟩ : ∃ RN, RN = R.length := ⟨_, rfl⟩
  rw [← hRN] at HO9 HE9 hRl
  have HRN := Lib.hid hRN
  by_cases hlt : k < EN
  ·have hlt2 : k < es.length := by rw [← HEN.out]; exact hlt
   obtain ⟨be, oe, rfl, -, hbe, e1, e2, e3⟩ := (HER.out.below hbl).edge hlt2
   obtain ⟨x, hx⟩ : ∃ x, x = es[k] := ⟨_, rfl⟩
   have hxl := HLAB.out x (by rw [hx]; exact List.getElem_mem _)
   rw [← hx] at e1 e2 e3
   obtain ⟨m, hm⟩ : ∃ m : Nat, (m : Int) = x.lab := ⟨x.lab.toNat, by omega⟩
   have hmT : m < texts.length := by omega
   have hmT2 : m < TN := by have := HTN.out; omega
   obtain ⟨bt, ot, rfl, -, hbt, ct⟩ := (HTR.out.below hbl).one hmT
   simp only [encS, List.getElem?_cons_zero] at ct
   have hmk2 : makeE L texts x = ⟨x.src, textAt L texts[m], x.dst⟩ := by
    unfold makeE
    rw [← hm, Int.toNat_natCast, List.getD_eq_getElem?_getD, List.getElem?_eq_getElem hmT]
    rfl
   obtain ⟨l, hl⟩ : ∃ l, l = texts[m] := ⟨_, rfl⟩
   rw [← hl] at ct hmk2
   obtain ⟨tx, htx⟩ : ∃ tx, tx = textAt L l := ⟨_, rfl⟩
   rw [← htx] at hmk2
   obtain ⟨xs, hxs⟩ : ∃ xs, xs = x.src := ⟨_, rfl⟩
   obtain ⟨xd, hxd⟩ : ∃ xd, xd = x.dst := ⟨_, rfl⟩
   rw [← hxs] at e1 hmk2
   rw [← hxd] at e3 hmk2
   rw [← hm] at e2
   -- the edge's box
   obtain ⟨wD, hwD⟩ : ∃ wD, wD = wC.alloc (.cells #[.int .i64 xs, .int .i64 m, .int .i64 xd] 47) := ⟨_, rfl⟩
   obtain ⟨xb, hxb⟩ : ∃ xb, xb = wC.heap.size := ⟨_, rfl⟩
   have hbD : Below wC.heap.size wC wD := by rw [hwD]; exact (Below.refl _ _).alloc (Nat.le_refl _) _
   have hXD : Blk wD xb [.int .i64 xs, .int .i64 m, .int .i64 xd] 47 := by rw [hwD, hxb]; exact Blk.new wC _ _
   have hODD := hob9.below hbD
   rw [← hRN] at hODD
   have HXD := Lib.hid hXD
   have HOD := Lib.hid hODD
   have HFI : Hid (∀ g : Later wD, Calls Tryz.prog 79 #[.slice la LN lc, .string l] g.w fun e w' => e = .returned (.int .i64 tx) ∧ Below g.w.heap.size g.w w') := fun g => by
    rw [htx]
    have h := HL9.out.below (hbD.trans (g.h.mono hbD.size))
    unfold OwnStrs at h
    rw [← HLN.out] at h
    exact l11Find_any wA.heap.size _ L l g.w (SliceK.of_owns (e := 9) encS_len HLN.out (by rw [flat_encS]; exact h))
   have lo2' := later_cell hODD.lt (hODD.cell 2 rfl)
   have lx1 := later_cell hXD.lt (hXD.cell 1 rfl)
   have hbtD : bt < wD.heap.size := Nat.lt_of_lt_of_le hbt hbD.size
   have lct := later_cell hbtD (keeps hbD hbt ct)
   have HBD := Lib.hid hbD
   have HWD := Lib.hid hwD
   have HXB := Lib.hid hxb
   have HMK2 := Lib.hid hmk2
   have hmi : (m : Int) < (TN : Int) := by omega
   have HX := Lib.hid hx
   clear hbl hob9 hrb9 hol9 hre hmk hRN hx hxl hm hmT hl htx hxs hxd hbD hXD hODD hwD hxb hmk2 ct hbtD
   go_wp2
   rw [← HWD.out]
   try rw [← HXB.out]
   refine wp_region_later_tail 9 (by kernel_rfl) (by kernel_rfl) ?_
   simp only [List.take_succ_cons, List.take_zero, List.drop_succ_cons, List.drop_zero]
   repeat (go_big_quiet_step ((go_at_call 79; exact later_call (HFI.out _))))
   refine wpQuiet_nil ?_
   intro _ hw9
   obtain ⟨nl, hw8⟩ := hw9
   subst hw8
   obtain ⟨wE, hwE⟩ : ∃ wE, wE = nl.w := ⟨_, rfl⟩
   have hbE : Below wD.heap.size wD wE := by rw [hwE]; exact nl.h
   have hXE := HXD.out.below hbE
   have hxz := hXE.frozen 1
   have hxc := hXE.cell 1 rfl
   have hxlE := hXE.lt
   have HXE : Hid (Blk (wE.setCell ⟨xb, 1, none⟩ (.int .i64 tx)) xb [.int .i64 xs, .int .i64 tx, .int .i64 xd] 47) := hXE.set 1 _
   have hbCE : Below wC.heap.size wC wE := HBD.out.trans (hbE.mono HBD.out.size)
   have HBF : Hid (Below wC.heap.size wC (wE.setCell ⟨xb, 1, none⟩ (.int .i64 tx))) := hbCE.setCell (by rw [HXB.out]; exact Nat.le_refl _) _
   rw [← hwE]
   clear lo2' lx1 lct hwE hbE hXE hbCE
   clear nl
   obtain ⟨wF, hwF⟩ : ∃ wF, wF = wE.setCell ⟨xb, 1, none⟩ (.int .i64 tx) := ⟨_, rfl⟩
   rw [← hwF] at HXE HBF
   have HWF := Lib.hid hwF
   have hbF := HBF.out
   have o3 := (HO9.out.below hbF).cell 3 rfl
   have f1 := HXE.out.cell 0 rfl
   have f2 := HXE.out.cell 1 rfl
   have f3 := HXE.out.cell 2 rfl
   have hobl := (HO9.out.below hbF).lt
   have hxbl := HXE.out.lt
   have HEF := Lib.hid (owns_below HE9.out hbF)
   have HPU := Lib.hid (l11Put_any B (.slice ra RN rc) R ⟨xs, tx, xd⟩ wF (by rw [← HRN.out]; exact HEF.out) HMK.out.1 (by have := hbF.size; have := hsW; have := HOB.out.lt; have := HOBN.out; omega) (by rw [← HRN.out]; omega))
   rw [hwF] at o3 f1 f2 f3 hobl hxbl
   clear hwF hbF
   go_wp2_with fail
   rw [← HWF.out]
   refine Calls.mono HPU.out ?_
   rintro e9 w8 ⟨v8, R8, rfl, hg8, ho8, hp8⟩
   obtain ⟨ra8, rc8, rfl, -, -⟩ := owns_slice ho8
   have hX8 : Blk w8 ob _ 27 := blk_kept (HO9.out.below HBF.out) HEF.out hg8 (by decide)
   have hr8 : Blk w8 rb _ 27 := blk_kept (HR9.out.below HBF.out) HEF.out hg8 (by decide)
   have hl8 : OwnStrs wA.heap.size w8 (.slice la LN lc) L := World.ownsRow.kept (HL9.out.below HBF.out) hg8 (own_types (HL9.out.below HBF.out) HEF.out (by decide))
   have hbAF : Below wA.heap.size wA wF := HBL.out.trans (HBF.out.mono hszC)
   have hsAF := hbAF.size
   have hbA8 : Below wA.heap.size wA w8 := hbAF.grown hg8 hsAF (fun b e => by have := (HEF.out.lt b e).1; omega)
   have hs8 : W2.heap.size ≤ w8.heap.size := by have := HBF.out.size; have := hg8.size; omega
   have HX8 := Lib.hid hX8
   have HR8 := Lib.hid hr8
   have HL8 := Lib.hid hl8
   have HE8 := Lib.hid ho8
   have HB8 := Lib.hid hbA8
   have HMK8 : Hid (MkEdges L texts (es.take (k + 1)) R8) := HMK.out.put hlt2 (by rw [← HX.out, HMK2.out]; exact hp8)
   have c3 := hX8.cell 3 rfl
   have z3 := hX8.frozen 3
   have hol8 := hX8.lt
   have hAB : wA.heap.size ≤ ob := by have := HOBN.out; omega
   have hnr : rb ≠ ob := by have := HOBN.out; omega
   clear hg8 ho8 hp8 hX8 hr8 hl8 hbAF hbA8 o3 f1 f2 f3 hobl hxbl HPU hxz hxc hxlE
   go_wp2
   go_roundw
   case rel => exact ⟨k + 1, R8, ra8, rc8, by omega, by go_num, HB8.out.setCell hAB _, HX8.out.set 3 _, HR8.out.setOther _ _ hnr, own_sets HL8.out HX8.out (by decide) 3 _, own_sets HE8.out HX8.out (by decide) 3 _, HMK8.out, by simpa using hs8⟩
   case measure => simp [intOf]; omega
  ·have hkE : k = EN := by omega
   have HMF : Hid (MkEdges L texts es R) := by
    have h := HMK.out
    rw [hkE, HEN.out, List.take_length] at h
    exact h
   have o0 := HO9.out.cell 0 rfl
   have o1 := HO9.out.cell 1 rfl
   have o2 := HO9.out.cell 2 rfl
   have o3 := HO9.out.cell 3 rfl
   have r0 := HR9.out.cell 0 rfl
   have r1 := HR9.out.cell 1 rfl
   have r2 := HR9.out.cell 2 rfl
   have r3 := HR9.out.cell 3 rfl
   have s0 := HR9.out.frozen 0
   have s1 := HR9.out.frozen 1
   have s2 := HR9.out.frozen 2
   have s3 := HR9.out.frozen 3
   have hobl := HO9.out.lt
   have hrbl := HR9.out.lt
   clear hbl hob9 hrb9 hol9 hre hmk hkE hRN
   go_wp2
   have hR1 := HR9.out.set 0 (.int .i64 n)
   have hR2 := hR1.set 1 (.int .i64 i)
   have hR3 := hR2.set 2 (.slice la LN lc)
   have hle : w.heap.size ≤ rb := by rw [HRBB.out]; exact Nat.le_refl _
   refine bodyPost_ret (lmake_results rfl (hR3.set 3 (.slice ra RN rc))) rfl ?_
   refine ⟨((((HBA.out.trans (HBL.out.mono HBA.out.size)).setCell hle _).setCell hle _).setCell hle _).setCell hle _, _, _, R, rfl, ?_, ?_, by rw [← HL.out]; exact HMF.out⟩
   ·rw [← HL.out]
    have h1 := HL9.out
    exact OwnStrs.lower (own_sets (own_sets (own_sets (own_sets h1 HR9.out (by decide) 0 _) hR1 (by decide) 1 _) hR2 (by decide) 2 _) hR3 (by decide) 3 _) HBA.out.size
   ·rw [← HRN.out]
    have h1 := HE9.out
    exact own_lower (own_sets (own_sets (own_sets (own_sets h1 HR9.out (by decide) 0 _) hR1 (by decide) 1 _) hR2 (by decide) 2 _) hR3 (by decide) 3 _) (by have := HBA.out.size; omega)

end Go.Proofs.YtnmkncioekdehaaGreatDoor
