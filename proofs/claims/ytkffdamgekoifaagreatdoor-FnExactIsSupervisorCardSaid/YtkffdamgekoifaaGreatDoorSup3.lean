/-
  How the net of triples lies in the program's memory; what its find computes.
-/
import Derived.Test.YtkffdamgekoifaaGreatDoorSup2
import Derived.Test.YtkffdamgekoifaaGreatDoorTri
import Derived.Test.YtkffdamgekoifaaGreatDoorMap
import Derived.Test.YtkffdamgekoifaaGreatDoorNested
import Derived.Test.YtkffdamgekoifaaGreatDoorTail
import Derived.DeepKeys4
import Derived.MapViews
import Derived.Deep.RegionLaw
import Derived.Deep.AppendLies
import Derived.Deep.RegionHeld3
namespace Go.Proofs.YtkffdamgekoifaaGreatDoor
open Go Go.RowKit
open Go.Maps (Keyed)

def enc3 (q : Tri) : List Value := [.int .i64 q.x, .int .i64 q.y, .int .i64 q.z]
def key3 (q : Tri) : Value := .agg #[.int .i64 q.x, .int .i64 q.y, .int .i64 q.z]
theorem enc3_len (q : Tri) : (enc3 q).length = 3 := rfl
theorem key3_inj {a b : Tri} (h : key3 a = key3 b) : a = b := by
  obtain ⟨x, y, z⟩ := a
  obtain ⟨u, v, w⟩ := b
  simpa [key3] using h

theorem underMap : Tryz.prog.underlying 54 = some (.map 62 3) := Tryz.underlying54
theorem laidOut : laidOutB Tryz.prog = true := by kernel_rfl
theorem row3Ok : (62 : TypeId) < Tryz.prog.types.size := of_decide_eq_true (by kernel_rfl)
theorem wide3 : (match Tryz.prog.underlying 62 with | some (.array _ _) | some (.struct _) => true | _ => false) = true := by rw [Tryz.underlying62]
set_option maxRecDepth 100000 in
theorem law3 : WideMaps.KeyLaw Tryz.prog 62 := deep_law_laid laidOut (m := 2) (by omega) row3Ok (by kernel_rfl) wide3
theorem keyed3 : Keyed Tryz.prog 62 := Keyed.of_law law3
theorem cells3Ok : Tryz.prog.cellsOf 62 = 3 := by kernel_rfl
theorem cellsI3 : Tryz.prog.cellsOf 2 = 1 := by kernel_rfl
theorem keyType3 : Tryz.prog.keyType 62 = true := by kernel_rfl
theorem zeroInt (w : World) : (zeroValue 3).run Tryz.prog w = .ok (.int .i64 0) w := by kernel_rfl
theorem wf_small {n : Int} (h0 : 0 ≤ n) (h1 : n < 40) : (Lit.int .i64 n).wf = true := by
  have h2 : IntKind.i64.min = -9223372036854775808 := by decide
  have h3 : IntKind.i64.max = 9223372036854775807 := by decide
  show (decide (IntKind.i64.min ≤ n) && decide (n ≤ IntKind.i64.max)) = true
  rw [h2, h3, decide_eq_true (by omega), decide_eq_true (by omega)]
  rfl
set_option maxRecDepth 100000 in
theorem keyOf3 {q : Tri} (h : InBox q) : ∃ l, keyOf Tryz.prog 62 (key3 q) = some l := by
  obtain ⟨⟨a0, a1⟩, ⟨b0, b1⟩, c0, c1⟩ := h
  have wa := wf_small a0 a1
  have wb := wf_small b0 b1
  have wc := wf_small c0 c1
  obtain ⟨m, hm⟩ : ∃ m, Tryz.prog.types.size = m + 1 := ⟨_, Nat.succ_pred_eq_of_pos (Nat.lt_of_le_of_lt (Nat.zero_le _) row3Ok) |>.symm⟩
  refine ⟨.string (keyBytes [.int .i64 q.x, .int .i64 q.y, .int .i64 q.z]), ?_⟩
  unfold keyOf key3
  simp only [Tryz.underlying62]
  rw [if_pos (by simp [keyType3, Value.formed, Tryz.underlying62, cells3Ok]), hm]
  unfold Program.keyLits
  simp only [Tryz.underlying62, Value.cells]
  rw [if_pos (by rw [cells3Ok]; rfl), show List.range 3 = [0, 1, 2] from rfl, List.mapM_cons, List.mapM_cons, List.mapM_cons, List.mapM_nil]
  simp [cellsI3, Program.keyLits, Tryz.underlying2, wa, wb, wc]

/-- The rows from which an edge leads to each row. -/
def backs (st : Net) : List (List Value) := (List.range st.rows.length).map fun n => (backOf st.edges n).map fun (a : Nat) => Value.int .i64 (a : Int)
theorem backs_len (st : Net) : (backs st).length = st.rows.length := by simp [backs]
theorem backOf_none {edges : List (Nat × Nat)} {n : Nat} (h : ∀ e ∈ edges, e.2 < n) : backOf edges n = [] := by
  unfold backOf
  rw [List.map_eq_nil_iff, List.filter_eq_nil_iff]
  intro e he
  have := h e he
  simp
  omega
theorem backs_row {st : Net} (q : Tri) (h : ∀ e ∈ st.edges, e.2 < st.rows.length) : backs ⟨st.rows ++ [q], st.edges⟩ = backs st ++ [[]] := by
  unfold backs
  simp only [List.length_append, List.length_singleton, List.range_succ, List.map_append, List.map_cons, List.map_nil]
  rw [backOf_none h]
  rfl
theorem backs_edge {st : Net} {a b : Nat} (_ : b < st.rows.length) (hb2 : b < (backs st).length) : backs ⟨st.rows, st.edges ++ [(a, b)]⟩ = (backs st).set b ((backs st)[b] ++ [.int .i64 (a : Int)]) := by
  apply List.ext_getElem
  · simp [backs]
  · intro i h1 h2
    rw [List.getElem_set]
    simp only [backs, List.getElem_map, List.getElem_range, backOf_append]
    by_cases e : b = i
    · subst e
      simp
    · rw [if_neg e, if_neg e]

/-- The program's three fields. -/
structure SupAt (B xb mb : Nat) (st : Net) (lv bv : Value) (vs : List Value) (w : World) : Prop where
  base : B ≤ xb
  mbase : B ≤ mb
  box : Blk w xb [lv, .map (some mb), bv] 58
  list : w.ownsRow B 62 3 lv st.rows.length (st.rows.flatMap enc3)
  map : NumMap .i64 w mb (st.rows.map key3)
  back : OwnRows 61 3 B w bv vs (backs st)

theorem SupAt.below {B xb mb : Nat} {st : Net} {lv bv : Value} {vs : List Value} {w w' : World} (h : SupAt B xb mb st lv bv vs w) (hb : Below w.heap.size w w') : SupAt B xb mb st lv bv vs w' :=
  ⟨h.base, h.mbase, h.box.below hb, owns_below h.list hb, h.map.below hb, h.back.below hb⟩

theorem place_nodup {rows : List Tri} (hd : rows.Nodup) {i : Nat} (hi : i < rows.length) : place rows rows[i] = i := by
  have h1 : place rows rows[i] < rows.length := place_lt.2 (List.getElem_mem hi)
  exact nodup_get hd h1 hi (place_get h1)
theorem keys_nodup {rows : List Tri} (hd : rows.Nodup) : (rows.map key3).Nodup := by
  rw [List.nodup_iff_pairwise_ne, List.pairwise_map]
  exact List.Pairwise.imp (fun h e => h (key3_inj e)) (List.nodup_iff_pairwise_ne.1 hd)

set_option maxRecDepth 100000 in
set_option maxHeartbeats 2000000 in
theorem find_old (B xb mb : Nat) (st : Net) (q : Tri) (lv bv : Value) (vs : List Value) (w : World) (h : SupAt B xb mb st lv bv vs w) (hd : st.rows.Nodup) (hin : ∀ q ∈ st.rows, InBox q) (hq : q ∈ st.rows) :
    Calls Tryz.prog 44 #[.pointer (some ⟨xb, 0, none⟩), .agg #[.int .i64 q.x, .int .i64 q.y, .int .i64 q.z]] w fun e w' => e = .returned (.int .i64 (place st.rows q)) ∧ Below w.heap.size w w' := by
  have hpl := place_lt.2 hq
  have hpk : place st.rows q < (st.rows.map key3).length := by rw [List.length_map]; exact hpl
  have HL := Lib.hid (fun (w' : World) (hm : NumMap .i64 w' mb (st.rows.map key3)) => hm.found keyed3 underMap (fun v hv => by obtain ⟨q', hq', rfl⟩ := List.mem_map.1 hv; exact keyOf3 (hin q' hq')) (keys_nodup hd) hpk)
  have hk3 : (st.rows.map key3)[place st.rows q] = key3 q := by rw [List.getElem_map, place_get hpl]
  rw [hk3] at HL
  obtain ⟨n, hn⟩ : ∃ n, n = place st.rows q := ⟨_, rfl⟩
  rw [← hn] at HL
  have HN := Lib.hid hn
  obtain ⟨W, hW⟩ : ∃ W, W = w.alloc (.cells #[.int .i64 q.x, .int .i64 q.y, .int .i64 q.z] 62) := ⟨_, rfl⟩
  have hB0 : Below w.heap.size w W := by rw [hW]; exact box_below _ _ _
  have hbx : Blk W w.heap.size [.int .i64 q.x, .int .i64 q.y, .int .i64 q.z] 62 := by rw [hW]; exact Blk.new w _ _
  have hxl := (h.box.below hB0).lt
  have x1 := later_cell hxl ((h.box.below hB0).cell 1 rfl)
  have t0 := later_cell hbx.lt (hbx.cell 0 rfl)
  have t1 := later_cell hbx.lt (hbx.cell 1 rfl)
  have t2 := later_cell hbx.lt (hbx.cell 2 rfl)
  have HB0 := Lib.hid hB0
  have HW := Lib.hid hW
  have HM := Lib.hid (h.map.below hB0)
  obtain ⟨b0, hb0⟩ : ∃ b0, b0 = w.heap.size := ⟨_, rfl⟩
  rw [← hb0] at t0 t1 t2
  have HZ0 := Lib.hid hb0
  clear h hd hin hq hpl hpk hk3 hn hB0 hbx hW hb0
  go_enter Tryz.func44, Tryz.ntmps44
  go_wp2
  rw [← HW.out, ← HZ0.out]
  have hlk := fun (g : Later W) => HL.out g.w (HM.out.below g.h)
  unfold key3 at hlk
  refine wp_region_later (by kernel_rfl) (by kernel_rfl) ?_
  repeat (go_big_quiet_step ((fail)))
  refine wpQuiet_nil ?_
  intro _ hw9
  obtain ⟨nl, hw8⟩ := hw9
  subst hw8
  go_wp2
  go_ret
  exact ⟨by rw [← HN.out]; rfl, HB0.out.trans (nl.h.mono HB0.out.size)⟩

theorem info_tri : (Tryz.prog.info? 62).map (fun i => (i.zero, i.size, i.bytes)) = some (some (.agg #[.int .i64 0, .int .i64 0, .int .i64 0]), 3, 24) := by kernel_rfl
theorem info_ints : (Tryz.prog.info? 61).map (fun i => (i.zero, i.size, i.bytes)) = some (some (.slice none 0 0), 1, 24) := by kernel_rfl
theorem info_int : (Tryz.prog.info? 3).map (fun i => (i.zero, i.size, i.bytes)) = some (some (.int .i64 0), 1, 8) := by kernel_rfl

/-- A block of cells is elsewhere than a map. -/
theorem blk_map_ne {w : World} {b : Nat} {cs : List Value} {t : TypeId} (h : Blk w b cs t) {m : Nat} {es : Array MapEntry} {c : Nat} (hm : w.heap[m]? = some (.map es c)) : b ≠ m := by
  intro e
  subst e
  unfold Blk at h
  rw [h] at hm
  cases hm
theorem blk_own_ne {w : World} {b : Nat} {cs : List Value} {t : TypeId} (h : Blk w b cs t) {base e size n : Nat} {v : Value} {xs : List Value} (ho : w.ownsRow base e size v n xs) (he : e ≠ t) : some b ≠ v.ownBlock := by
  rcases own_type_ne ho (show w.heap[b]? = some (.cells cs.toArray t (0, 0)) from h) he with h | h
  · rw [h]; simp
  · exact fun e => h e.symm
theorem Blk.grown {w w' : World} {b : Nat} {cs : List Value} {t : TypeId} {row : Option Nat} (h : Blk w b cs t) (hg : w.grownBy w' row) (hne : some b ≠ row) : Blk w' b cs t := (hg.block b h.lt hne).trans h

/-- Of what was there, blocks in S alone may have turned. -/
structure Only (S : Nat → Prop) (w w' : World) : Prop where
  os : w'.os = w.os
  tape : w'.tape = w.tape
  output : w'.output = w.output
  size : w.heap.size ≤ w'.heap.size
  block : ∀ k, k < w.heap.size → ¬ S k → w'.heap[k]? = w.heap[k]?
theorem Only.trans {S : Nat → Prop} {a b c : World} (h : Only S a b) (k : Only S b c) : Only S a c :=
  ⟨k.os.trans h.os, k.tape.trans h.tape, k.output.trans h.output, Nat.le_trans h.size k.size, fun i hi hn => (k.block i (Nat.lt_of_lt_of_le hi h.size) hn).trans (h.block i hi hn)⟩
theorem Only.below {S : Nat → Prop} {w w' : World} (hb : Below w.heap.size w w') : Only S w w' := ⟨hb.os, hb.tape, hb.output, hb.size, fun k hk _ => hb.block k hk⟩
theorem Only.grown {S : Nat → Prop} {w w' : World} {row : Option Nat} (hg : w.grownBy w' row) (h : ∀ k, row = some k → S k) : Only S w w' :=
  ⟨hg.os, hg.tape, hg.output, hg.size, fun k hk hn => hg.block k hk (fun e => hn (h k e.symm))⟩
theorem Only.under {S : Nat → Prop} {w w' : World} {B : Nat} (h : Only S w w') (hB : B ≤ w.heap.size) (hS : ∀ k, S k → B ≤ k) : Below B w w' :=
  ⟨h.os, h.tape, h.output, h.size, fun k hk => h.block k (Nat.lt_of_lt_of_le hk hB) (fun hs => by have := hS k hs; omega)⟩
theorem Blk.only {S : Nat → Prop} {w w' : World} {b : Nat} {cs : List Value} {t : TypeId} (h : Blk w b cs t) (ho : Only S w w') (hn : ¬ S b) : Blk w' b cs t := (ho.block b h.lt hn).trans h
/-- The blocks of the program's three fields. -/
def SupBlk (xb mb : Nat) (lv bv : Value) (k : Nat) : Prop := k = xb ∨ k = mb ∨ lv.ownBlock = some k ∨ bv.ownBlock = some k
/-- The old block or a new one. -/
def Near (w : World) (v v' : Value) : Prop := v'.ownBlock = v.ownBlock ∨ ∃ k, v'.ownBlock = some k ∧ w.heap.size ≤ k

/-- The list has grown, and its new value is in its field. -/
theorem sup_step1 {B xb mb : Nat} {q : Tri} {lv bv lv' : Value} {n : Nat} {ls : List Value} {ks : List Value} {vs : List Value} {xss : List (List Value)} {w2 wX w3 : World} (hbx : B ≤ xb) (X : Blk w2 xb [lv, .map (some mb), bv] 58)
    (L : w2.ownsRow B 62 3 lv n ls) (M : NumMap .i64 w2 mb ks) (K : OwnRows 61 3 B w2 bv vs xss) (hB : B ≤ w2.heap.size) (hb : Below w2.heap.size w2 wX) (hg : wX.grownBy w3 lv.ownBlock)
    (ho : w3.ownsRow B 62 3 lv' (n + 1) (ls ++ enc3 q)) :
    Blk (w3.setCell ⟨xb, 0, none⟩ lv') xb [lv', .map (some mb), bv] 58 ∧ (w3.setCell ⟨xb, 0, none⟩ lv').ownsRow B 62 3 lv' (n + 1) (ls ++ enc3 q) ∧ NumMap .i64 (w3.setCell ⟨xb, 0, none⟩ lv') mb ks
      ∧ OwnRows 61 3 B (w3.setCell ⟨xb, 0, none⟩ lv') bv vs xss ∧ Below B w2 (w3.setCell ⟨xb, 0, none⟩ lv') ∧ Only (SupBlk xb mb lv bv) w2 (w3.setCell ⟨xb, 0, none⟩ lv') := by
  have Xx := X.below hb
  have Lx := owns_below L hb
  have Mx := M.below hb
  have Kx := K.below hb
  have X3 := Xx.grown hg (blk_own_ne Xx Lx (by decide))
  have M3 := Mx.kept hg (fun e => by
    rcases own_map_ne Lx Mx with h | h
    · rw [h] at e; cases e
    · exact h e.symm)
  have hrow : ∀ (i : Nat) (h : i < vs.length), ∃ ys : List Value, wX.ownsRow B 3 1 vs[i] ys.length ys := fun i hi => ⟨_, Kx.2.2.1 i hi (by rw [← Kx.1]; exact hi)⟩
  have K3 := Kx.kept hg (own_types Kx.2.1 Lx (by decide)) (fun i hi => by obtain ⟨ys, h⟩ := hrow i hi; exact own_types h Lx (by decide))
  have hs := grown_setCell w3 ⟨xb, 0, none⟩ lv'
  have hrow3 : ∀ (i : Nat) (h : i < vs.length), ∃ ys : List Value, w3.ownsRow B 3 1 vs[i] ys.length ys := fun i hi => ⟨_, K3.2.2.1 i hi (by rw [← K3.1]; exact hi)⟩
  refine ⟨X3.set 0 lv', ho.kept hs (own_type_ne ho X3 (by decide)), M3.kept hs (fun e => blk_map_ne X3 M3 (Option.some.inj e).symm), K3.kept hs (own_type_ne K3.2.1 X3 (by decide)) (fun i hi => by obtain ⟨ys, h⟩ := hrow3 i hi; exact own_type_ne h X3 (by decide)), ?_⟩
  refine ⟨((hb.mono hB).grown hg (Nat.le_trans hB hb.size) (fun k e => (Lx.lt k e).1)).setCell hbx _, ?_⟩
  exact ((Only.below hb).trans (Only.grown hg (fun k e => .inr (.inr (.inl e))))).trans (Only.grown hs (fun k e => .inl (Option.some.inj e).symm))

/-- The list of lists has grown by an empty one, and its new value is in its field. -/
theorem sup_step2 {B xb mb : Nat} {st : Net} {q : Tri} {lv bv bv' : Value} {n : Nat} {vs : List Value} {w4 wY w5 : World} (hbx : B ≤ xb) (hbm : B ≤ mb) (hn : n = st.rows.length) (hv : vs.length = n) (hends : ∀ e ∈ st.edges, e.2 < st.rows.length) (X : Blk w4 xb [lv, .map (some mb), bv] 58)
    (L : w4.ownsRow B 62 3 lv (n + 1) (st.rows.flatMap enc3 ++ enc3 q)) (M : NumMap .i64 w4 mb (st.rows.map key3 ++ [key3 q])) (K : OwnRows 61 3 B w4 bv vs (backs st)) (hB : B ≤ w4.heap.size) (hb : Below w4.heap.size w4 wY) (hg : wY.grownBy w5 bv.ownBlock)
    (ho : w5.ownsRow B 61 1 bv' (n + 1) (vs ++ [.slice none 0 0])) :
    SupAt B xb mb ⟨st.rows ++ [q], st.edges⟩ lv bv' (vs ++ [.slice none 0 0]) (w5.setCell ⟨xb, 2, none⟩ bv') ∧ Below B w4 (w5.setCell ⟨xb, 2, none⟩ bv') ∧ ∀ lv0, Only (SupBlk xb mb lv0 bv) w4 (w5.setCell ⟨xb, 2, none⟩ bv') := by
  have Xy := X.below hb
  have Ly := owns_below L hb
  have My := M.below hb
  have Ky := K.below hb
  have X5 := Xy.grown hg (blk_own_ne Xy Ky.2.1 (by decide))
  have M5 := My.kept hg (fun e => by
    rcases own_map_ne Ky.2.1 My with h | h
    · rw [h] at e; cases e
    · exact h e.symm)
  have L5 := Ly.kept hg (own_types Ly Ky.2.1 (by decide))
  have K5 := Ky.push (by decide) hg (by rw [hv]; exact ho)
  have hs := grown_setCell w5 ⟨xb, 2, none⟩ bv'
  have hrow5 : ∀ (i : Nat) (h : i < (vs ++ [Value.slice none 0 0]).length), ∃ ys : List Value, w5.ownsRow B 3 1 (vs ++ [Value.slice none 0 0])[i] ys.length ys := fun i hi => ⟨_, K5.2.2.1 i hi (by rw [← K5.1]; exact hi)⟩
  refine ⟨⟨hbx, hbm, X5.set 2 bv', ?_, ?_, ?_⟩, ((hb.mono hB).grown hg (Nat.le_trans hB hb.size) (fun k e => (Ky.2.1.lt k e).1)).setCell hbx _, fun lv0 => ((Only.below hb).trans (Only.grown hg (fun k e => .inr (.inr (.inr e))))).trans (Only.grown hs (fun k e => .inl (Option.some.inj e).symm))⟩
  · have := L5.kept hs (own_type_ne L5 X5 (by decide))
    simpa [hn] using this
  · have := M5.kept hs (fun e => blk_map_ne X5 M5 (Option.some.inj e).symm)
    simpa using this
  · rw [backs_row q hends]
    exact K5.kept hs (own_type_ne K5.2.1 X5 (by decide)) (fun i hi => by obtain ⟨ys, h⟩ := hrow5 i hi; exact own_type_ne h X5 (by decide))

set_option maxRecDepth 100000 in
set_option maxHeartbeats 4000000 in
theorem find_new (B xb mb : Nat) (st : Net) (q : Tri) (lv bv : Value) (vs : List Value) (w : World) (hB : B ≤ w.heap.size) (h : SupAt B xb mb st lv bv vs w) (hin : ∀ q ∈ st.rows, InBox q) (hiq : InBox q) (hq : q ∉ st.rows) (hfew : st.rows.length ≤ 64000) (hends : ∀ e ∈ st.edges, e.2 < st.rows.length) :
    Calls Tryz.prog 44 #[.pointer (some ⟨xb, 0, none⟩), .agg #[.int .i64 q.x, .int .i64 q.y, .int .i64 q.z]] w fun e w' => e = .returned (.int .i64 st.rows.length) ∧ Below B w w' ∧ ∃ lv' bv' vs', SupAt B xb mb ⟨st.rows ++ [q], st.edges⟩ lv' bv' vs' w' ∧ Only (SupBlk xb mb lv bv) w w' ∧ Near w lv lv' ∧ Near w bv bv' := by
  have hks : ∀ v ∈ st.rows.map key3, ∃ l, keyOf Tryz.prog 62 v = some l := fun v hv => by obtain ⟨q', hq', rfl⟩ := List.mem_map.1 hv; exact keyOf3 (hin q' hq')
  obtain ⟨kl, hkl⟩ := keyOf3 hiq
  have hkn : key3 q ∉ st.rows.map key3 := fun hm => by obtain ⟨q', hq', e⟩ := List.mem_map.1 hm; rw [key3_inj e] at hq'; exact hq hq'
  have HL := Lib.hid (fun (w' : World) (hm : NumMap .i64 w' mb (st.rows.map key3)) => hm.missing keyed3 underMap hks (zeroInt w') hkl hkn)
  have HU := Lib.hid (fun (w' : World) (hm : NumMap .i64 w' mb (st.rows.map key3)) => hm.store keyed3 underMap hks hkl hkn (by rw [List.length_map]; unfold maxLen; omega))
  rw [List.length_map] at HU
  obtain ⟨N, hN⟩ : ∃ N, N = st.rows.length := ⟨_, rfl⟩
  rw [← hN] at HU hfew
  have HNN := Lib.hid hN
  obtain ⟨W, hW⟩ : ∃ W, W = w.alloc (.cells #[.int .i64 q.x, .int .i64 q.y, .int .i64 q.z] 62) := ⟨_, rfl⟩
  have hB0 : Below w.heap.size w W := by rw [hW]; exact box_below _ _ _
  have hbx : Blk W w.heap.size [.int .i64 q.x, .int .i64 q.y, .int .i64 q.z] 62 := by rw [hW]; exact Blk.new w _ _
  have hne2 : some w.heap.size ≠ lv.ownBlock := fun e => by have := (h.list.lt _ e.symm).2; omega
  have HS := Lib.hid (h.below hB0)
  have hxl := HS.out.box.lt
  obtain ⟨al, cl, hlv, -, -⟩ := owns_slice HS.out.list
  obtain ⟨ab, cb, hbv, -, -⟩ := owns_slice HS.out.back.2.1
  have HBW := Lib.hid (show Below B w W from hB0.mono hB)
  have HW0 := Lib.hid hB0
  have HW := Lib.hid hW
  have HT := Lib.hid hbx
  obtain ⟨b0, hb0⟩ : ∃ b0, b0 = w.heap.size := ⟨_, rfl⟩
  rw [← hb0] at HT hne2
  have HZ0 := Lib.hid hb0
  have HEND := Lib.hid hends
  have HBB := Lib.hid hB
  subst hlv hbv
  have ne2 : some b0 ≠ (Value.slice al st.rows.length cl).ownBlock := hne2
  clear hne2
  have hvl : vs.length = N := by rw [HS.out.back.1, backs_len, hN]
  rw [← hN, hvl] at HS
  rw [← hN] at ne2
  clear h hin hiq hq hB0 hbx hW hb0 hks hkl hkn hN hends hB
  have x1 := later_cell hxl (HS.out.box.cell 1 rfl)
  have t0 := later_cell HT.out.lt (HT.out.cell 0 rfl)
  have t1 := later_cell HT.out.lt (HT.out.cell 1 rfl)
  have t2 := later_cell HT.out.lt (HT.out.cell 2 rfl)
  have hlk := fun (g : Later W) => HL.out g.w (HS.out.map.below g.h)
  unfold key3 at hlk
  go_enter Tryz.func44, Tryz.ntmps44
  go_wp2
  rw [← HW.out, ← HZ0.out]
  refine wp_region_later (by kernel_rfl) (by kernel_rfl) ?_
  repeat (go_big_quiet_step ((fail)))
  refine wpQuiet_nil ?_
  intro _ hw9
  obtain ⟨nl, hw8⟩ := hw9
  subst hw8
  obtain ⟨wA, hwA⟩ : ∃ wA, wA = nl.w := ⟨_, rfl⟩
  have hbA : Below W.heap.size W wA := by rw [hwA]; exact nl.h
  rw [← hwA]
  have SA := Lib.hid (HS.out.below hbA)
  have TA := Lib.hid (HT.out.below hbA)
  have HBA := Lib.hid (HBW.out.trans (hbA.mono (Nat.le_trans HBB.out HBW.out.size)))
  have x0 := SA.out.box.cell 0 rfl
  have hbAl := hbA
  have hsAl := hbA.size
  have HAl := Lib.hid hbAl
  clear x1 t0 t1 t2 hlk hwA hbA hbAl
  go_wp2
  clear x0
  have hxA := SA.out.box.lt
  have x1 := later_cell hxA (SA.out.box.cell 1 rfl)
  have t0 := later_cell TA.out.lt (TA.out.cell 0 rfl)
  have t1 := later_cell TA.out.lt (TA.out.cell 1 rfl)
  have t2 := later_cell TA.out.lt (TA.out.cell 2 rfl)
  refine wp_region_later_tail 6 (by kernel_rfl) (by kernel_rfl) ?_
  simp only [List.take_succ_cons, List.take_zero, List.drop_succ_cons, List.drop_zero]
  repeat (go_big_quiet_step ((fail)))
  refine wpQuiet_nil ?_
  intro _ hw9
  obtain ⟨nl, hw8⟩ := hw9
  subst hw8
  have SB := Lib.hid (SA.out.below nl.h)
  have TB := Lib.hid (TA.out.below nl.h)
  obtain ⟨w2, hup, hm2, hg2⟩ := HU.out nl.w SB.out.map
  unfold key3 at hup
  have hsA : B ≤ wA.heap.size := Nat.le_trans HBB.out HBA.out.size
  have HBl := Lib.hid (HBA.out.trans (nl.h.mono hsA))
  have hsl : B ≤ nl.w.heap.size := Nat.le_trans HBB.out HBl.out.size
  have O2 : Hid (Only (SupBlk xb mb (.slice al N cl) (.slice ab N cb)) w w2) := ((Only.below (HW0.out.trans ((HAl.out.trans (nl.h.mono hsAl)).mono HW0.out.size))).trans (Only.grown hg2 (fun k e => .inr (.inl (Option.some.inj e).symm))))
  have HB2 := Lib.hid (HBl.out.grown hg2 hsl (fun k e => by cases e; exact SB.out.mbase))
  have X2 := Lib.hid (SB.out.box.grown hg2 (fun e => blk_map_ne SB.out.box SB.out.map (Option.some.inj e)))
  have L2 : Hid (w2.ownsRow B 62 3 (.slice al N cl) N (st.rows.flatMap enc3)) := by
    have := SB.out.list.kept hg2 (own_map_ne SB.out.list SB.out.map)
    rw [← HNN.out] at this
    exact this
  have K2 := Lib.hid (SB.out.back.kept hg2 (own_map_ne SB.out.back.2.1 SB.out.map) (fun i hi => own_map_ne (SB.out.back.2.2.1 i hi (by rw [← SB.out.back.1]; exact hi)) SB.out.map))
  have T2 := Lib.hid (TB.out.grown hg2 (fun e => blk_map_ne TB.out SB.out.map (Option.some.inj e)))
  have M2 := Lib.hid hm2
  clear x1 t0 t1 t2
  go_wp2
  clear hup hg2 hm2
  obtain ⟨i0, hi, hz0, hz1, hz2⟩ := info_parts info_tri
  have hx2 := X2.out.lt
  have ht2 := T2.out.lt
  have y0 := X2.out.cell 0 rfl
  have t0 := T2.out.cell 0 rfl
  have t1 := T2.out.cell 1 rfl
  have t2 := T2.out.cell 2 rfl
  have ne1 : some xb ≠ (Value.slice al N cl).ownBlock := blk_own_ne X2.out L2.out (by decide)
  have hs2 : B ≤ w2.heap.size := Nat.le_trans HBB.out HB2.out.size
  have f0 := X2.out.frozen 0
  have HSA : Hid (∀ o, ((w2.alloc o).drew).frozen? ⟨xb, 0, none⟩ = false ∧ ((w2.alloc o).drew).cell? ⟨xb, 0, none⟩ = some (.slice al N cl) ∧ ((w2.alloc o).drew).cell? ⟨b0, 0, none⟩ = some (.int .i64 q.x) ∧ ((w2.alloc o).drew).cell? ⟨b0, 1, none⟩ = some (.int .i64 q.y) ∧ ((w2.alloc o).drew).cell? ⟨b0, 2, none⟩ = some (.int .i64 q.z)) := fun o => by
    have hb : Below w2.heap.size w2 ((w2.alloc o).drew) := ((Below.refl _ _).alloc (Nat.le_refl _) _).drew
    exact ⟨(hb.frozen (p := ⟨xb, 0, none⟩) hx2).trans f0, keeps hb hx2 y0, keeps hb ht2 t0, keeps hb ht2 t1, keeps hb ht2 t2⟩
  go_region_law
    ((refine step_append_lies _ (by rfl) _ _ _ (by rfl) B 62 i0 _ 3 24 Tryz.underlying55 hi hz0 hz1 hz2 rfl (by omega) (.slice al N cl) N _ (by rfl) ((L2.out.alloc _).drew)
                        ⟨w2.heap.size, 0, none⟩ 1 1 [.int .i64 q.x, .int .i64 q.y, .int .i64 q.z] (by rfl) (by rfl) (World.news_of_block (cs := #[.int .i64 q.x, .int .i64 q.y, .int .i64 q.z]) (t := 62) (fr := (0, 0)) (heap_alloc_new _ _)) (by simp [Value.oneCell'])
                        (by omega) (by simp [maxLen]; omega) (by omega) (by simp; omega) (w2.heap.size + 1) (by simp) ?_; intro gg cap w3 hown3 hgrow hat hlt; have z0 := (hgrow.frozen_far ⟨xb, 0, none⟩ (by simp; omega) ne1).trans (HSA.out _).1; have z1 := (hgrow.cell_far ⟨xb, 0, none⟩ (by simp; omega) ne1).trans (HSA.out _).2.1))
  all_goals (
    obtain ⟨lv4, hlv4⟩ : ∃ lv4, lv4 = Value.slice (some ⟨gg, 0, none⟩) (N + 1) cap := ⟨_, rfl⟩
    have hbd : Below w2.heap.size w2 ((w2.alloc (.cells #[.int .i64 q.x, .int .i64 q.y, .int .i64 q.z] 62)).drew) := ((Below.refl _ _).alloc (Nat.le_refl _) _).drew
    rw [← hlv4] at hown3 ⊢
    have HAT : Hid (Near w (.slice al N cl) lv4) := by
      have hz1 := O2.out.size
      rcases hat with h | h
      · exact .inl (by rw [hlv4]; exact h.symm)
      · exact .inr ⟨gg, by rw [hlv4]; rfl, by omega⟩
    have H4 := Lib.hid (sup_step1 (q := q) SB.out.base X2.out L2.out M2.out K2.out hs2 hbd hgrow hown3)
    obtain ⟨w4, hw4⟩ : ∃ w4, w4 = w3.setCell ⟨xb, 0, none⟩ lv4 := ⟨_, rfl⟩
    rw [← hw4] at H4 ⊢
    clear hown3 hgrow hat hlt z0 z1 hlv4 hw4 hbd
    obtain ⟨ii, hii, hiz0, hiz1, hiz2⟩ := info_parts info_ints
    have X4 := Lib.hid H4.out.1
    have c2 := X4.out.cell 2 rfl
    have hx4 := X4.out.lt
    have hs4 : B ≤ w4.heap.size := Nat.le_trans hs2 H4.out.2.2.2.2.1.size
    have K4 : Hid (w4.ownsRow B 61 1 (.slice ab N cb) N vs) := by
      have := H4.out.2.2.2.1.2.1
      rw [hvl] at this
      exact this
    go_wp2_with (at_builtin; refine wpList_append_own_at _ rfl _ _ 56 rfl B 61 ii (.slice none 0 0) 1 24 Tryz.underlying56 hii hiz0 hiz1 hiz2 rfl (by decide) _ _ _ rfl (K4.out.alloc _) ⟨w4.heap.size, 0, none⟩ 1 1 [.slice none 0 0] rfl rfl ?c1 ?c2 ?c3 ?c4 ?c5 ?_)
    try (case c1 => exact (cell_one_new _ _ _))
    try (case c2 => first | rfl | (intro u hu; simp at hu; subst hu; rfl) | simp [Value.oneCell'])
    try (case c3 => first | omega | (simp [maxLen]; omega))
    try (case c4 => first | omega | (simp; omega))
    try (case c5 => first | omega | (simp; omega))
    intro v5 w5 ho5 hg5 _ hat5
    obtain ⟨a5, cc5, rfl, -, -⟩ := owns_slice ho5
    have hbd5 : Below w4.heap.size w4 (w4.alloc (.cells #[.slice none 0 0] 61)) := (Below.refl _ _).alloc (Nat.le_refl _) _
    have H6 := Lib.hid (sup_step2 SB.out.base SB.out.mbase HNN.out hvl HEND.out X4.out H4.out.2.1 H4.out.2.2.1 H4.out.2.2.2.1 hs4 hbd5 hg5 ho5)
    have HAT5 : Hid (Near w (.slice ab N cb) (.slice a5 (N + 1) cc5)) := by
      have hz1 := O2.out.size
      have hz2 := H4.out.2.2.2.2.2.size
      rcases hat5 with h | h
      · exact .inl h
      · exact .inr ⟨_, h, by first | omega | (simp; omega)⟩
    have ne5 : some xb ≠ (Value.slice ab N cb).ownBlock := blk_own_ne X4.out K4.out (by decide)
    have z2 : w5.frozen? ⟨xb, 2, none⟩ = false := (hg5.frozen_far ⟨xb, 2, none⟩ (by simp; omega) ne5).trans ((hbd5.frozen (p := ⟨xb, 2, none⟩) hx4).trans (X4.out.frozen 2))
    have z3 : w5.cell? ⟨xb, 2, none⟩ = some (.slice ab N cb) := (hg5.cell_far ⟨xb, 2, none⟩ (by simp; omega) ne5).trans (keeps hbd5 hx4 c2)
    clear ho5 hg5 hbd5 c2
    go_wp2
    go_ret
    exact ⟨by rw [← HNN.out]; rfl, HB2.out.trans ((H4.out.2.2.2.2.1.mono (Nat.le_refl _)).trans H6.out.2.1), lv4, _, _, H6.out.1, by rw [← HNN.out, hvl]; exact (O2.out.trans H4.out.2.2.2.2.2).trans (H6.out.2.2 _), by rw [← HNN.out]; exact HAT.out, by rw [hvl]; exact HAT5.out⟩)

end Go.Proofs.YtkffdamgekoifaaGreatDoor
