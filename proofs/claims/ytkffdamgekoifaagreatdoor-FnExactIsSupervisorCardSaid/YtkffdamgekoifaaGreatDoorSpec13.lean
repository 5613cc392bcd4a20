/-
  How the net of triples lies in the reference's memory.
-/
import Derived.Test.YtkffdamgekoifaaGreatDoorSpec12
import Derived.Test.YtkffdamgekoifaaGreatDoorTri
import Derived.Maps.AppendAt
namespace Go.Proofs.YtkffdamgekoifaaGreatDoor
open Go Go.RowKit

theorem info_int64s : (Tryz.prog.info? 26).map (fun i => (i.zero, i.size, i.bytes)) = some (some (.slice none 0 0), 1, 24) := by kernel_rfl
theorem info_bool : (Tryz.prog.info? 4).map (fun i => (i.zero, i.size, i.bytes)) = some (some (.bool false), 1, 1) := by kernel_rfl

def row3 (q : Tri) : List Int := [q.x, q.y, q.z]
def edgeOf (e : Nat × Nat) : Edge := ⟨(e.1 : Int), 0, (e.2 : Int)⟩

theorem row3_eq (a b : Tri) : (row3 a == row3 b) = (a == b) := by
  obtain ⟨x, y, z⟩ := a
  obtain ⟨u, v, w⟩ := b
  rw [Bool.eq_iff_iff, beq_iff_eq, beq_iff_eq]
  simp [row3]
theorem rowAt_place (rows : List Tri) (q : Tri) : rowAt (rows.map row3) (row3 q) = if place rows q < rows.length then (place rows q : Int) else -1 := by
  have h : (rows.map row3).findIdx (fun ys => ys == row3 q) = place rows q := by
    unfold place
    rw [List.findIdx_map]
    congr 1
    funext a
    exact row3_eq a q
  unfold rowAt
  rw [h, List.length_map]

/-- The reference's two lists. -/
def NetMem (B : Nat) (st : Net) (vr ve : Value) (w : World) : Prop :=
  (∃ vs, OwnIntss 26 2 B w vr vs (st.rows.map row3)) ∧ w.ownsRow B 73 3 ve st.edges.length ((st.edges.map edgeOf).flatMap encE)
theorem NetMem.below {B : Nat} {st : Net} {vr ve : Value} {w w' : World} (h : NetMem B st vr ve w) (hb : Below w.heap.size w w') : NetMem B st vr ve w' := by
  obtain ⟨⟨vs, h1⟩, h2⟩ := h
  exact ⟨⟨vs, h1.below hb⟩, owns_below h2 hb⟩

theorem OwnIntss.kept {eo ei lo : Nat} {w w' : World} {v : Value} {vs : List Value} {xss : List (List Int)} {row : Option Nat} (h : OwnIntss eo ei lo w v vs xss) (hg : w.grownBy w' row) (h0 : v.ownBlock = none ∨ v.ownBlock ≠ row)
    (hr : ∀ (i : Nat) (h : i < vs.length), vs[i].ownBlock = none ∨ vs[i].ownBlock ≠ row) : OwnIntss eo ei lo w' v vs xss := by
  obtain ⟨h1, h2, h3, h4, h5⟩ := h
  exact ⟨h1, h2.kept hg h0, fun i hi hi' => (h3 i hi hi').kept hg (hr i hi), h4, h5⟩

theorem NetMem.start (W : World) (B : Nat) (hB : B ≤ W.heap.size) (a b c : Int) :
    NetMem B ⟨[⟨a, b, c⟩], []⟩ (.slice (some ⟨W.heap.size + 1, 0, none⟩) 1 1) (.slice (some ⟨W.heap.size + 1 + 1, 0, none⟩) 0 0)
      (((W.alloc (.cells #[.int .i64 a, .int .i64 b, .int .i64 c] 2)).alloc (.cells #[.slice (some ⟨W.heap.size, 0, none⟩) 3 3] 26)).alloc (.cells #[] 73)) := by
  obtain ⟨W1, hW1⟩ : ∃ W1, W1 = W.alloc (.cells #[.int .i64 a, .int .i64 b, .int .i64 c] 2) := ⟨_, rfl⟩
  have hs1 : W1.heap.size = W.heap.size + 1 := by rw [hW1]; simp
  have r1 : W1.ownsRow B 2 1 (.slice (some ⟨W.heap.size, 0, none⟩) 3 3) 3 [.int .i64 a, .int .i64 b, .int .i64 c] := by
    rw [hW1]; exact World.ownsRow_lit (size := 1) W #[.int .i64 a, .int .i64 b, .int .i64 c] 3 hB (by decide) rfl
  rw [← hW1]
  clear hW1
  obtain ⟨W2, hW2⟩ : ∃ W2, W2 = W1.alloc (.cells #[.slice (some ⟨W.heap.size, 0, none⟩) 3 3] 26) := ⟨_, rfl⟩
  have hs2 : W2.heap.size = W1.heap.size + 1 := by rw [hW2]; simp
  have r2 : W2.ownsRow B 26 1 (.slice (some ⟨W1.heap.size, 0, none⟩) 1 1) 1 [.slice (some ⟨W.heap.size, 0, none⟩) 3 3] := by
    rw [hW2]; exact World.ownsRow_lit (size := 1) W1 #[.slice (some ⟨W.heap.size, 0, none⟩) 3 3] 1 (by omega) (by decide) rfl
  have r1' : W2.ownsRow B 2 1 (.slice (some ⟨W.heap.size, 0, none⟩) 3 3) 3 [.int .i64 a, .int .i64 b, .int .i64 c] := by
    rw [hW2]; exact r1.alloc _
  rw [← hW2]
  rw [← hs1, show W1.heap.size + 1 = W2.heap.size from by omega]
  clear hW2
  refine ⟨⟨[.slice (some ⟨W.heap.size, 0, none⟩) 3 3], rfl, r2.alloc _, ?_, ?_, ?_⟩, World.ownsRow_lit (size := 3) W2 #[] 0 (by omega) (by decide) rfl⟩
  · intro i hi hi'
    obtain rfl : i = 0 := by simp at hi; omega
    simpa [row3] using r1'.alloc _
  · intro i j hi hj hij
    simp at hi hj
    omega
  · intro i hi
    obtain rfl : i = 0 := by simp at hi; omega
    refine .inr ?_
    simp [Value.ownBlock]
    omega

theorem net_push_row {B : Nat} {st : Net} {q : Tri} {vr ve v' rv : Value} {wC wF w1 : World} {vs : List Value} (hr : OwnIntss 26 2 B wC vr vs (st.rows.map row3)) (he : wC.ownsRow B 73 3 ve st.edges.length ((st.edges.map edgeOf).flatMap encE))
    (hb : Below wC.heap.size wC wF) (hrow : wF.ownsRow wC.heap.size 2 1 rv 3 ((row3 q).map (Value.int .i64))) (hB : B ≤ wC.heap.size) (hg : wF.grownBy w1 vr.ownBlock) (hv : w1.ownsRow B 26 1 v' (vs.length + 1) (vs ++ [rv])) :
    NetMem B ⟨st.rows ++ [q], st.edges⟩ v' ve w1 := by
  refine ⟨⟨vs ++ [rv], ?_⟩, ?_⟩
  · have := OwnIntss.push (B := wC.heap.size) (xs := row3 q) (by decide) hr (Nat.le_refl _) hb hrow hB hg hv
    simpa using this
  · exact (owns_below he hb).kept hg (own_types (owns_below he hb) (owns_below hr.2.1 hb) (by decide))

theorem net_push_edge {B : Nat} {st : Net} {a b : Nat} {vr ve v' : Value} {wE wF w1 : World} (h : NetMem B st vr ve wE) (hb : Below wE.heap.size wE wF) (hg : wF.grownBy w1 ve.ownBlock)
    (hv : w1.ownsRow B 73 3 v' (st.edges.length + 1) ((st.edges.map edgeOf).flatMap encE ++ encE (edgeOf (a, b)))) : NetMem B ⟨st.rows, st.edges ++ [(a, b)]⟩ vr v' w1 := by
  obtain ⟨⟨vs, h1⟩, h2⟩ := h.below hb
  refine ⟨⟨vs, h1.kept hg (own_types h1.2.1 h2 (by decide)) (fun i hi => ?_)⟩, ?_⟩
  · exact own_types (h1.2.2.1 i hi (by rw [← h1.1]; exact hi)) h2 (by decide)
  · simpa using hv

/-- One row's cells. -/
theorem OwnIntss.cells3 {eo ei lo : Nat} {w : World} {v : Value} {vs : List Value} {rows : List Tri} {n : Nat} (h : OwnIntss eo ei lo w v vs (rows.map row3)) (hn : n < rows.length) :
    ∃ b c g d, v = .slice (some ⟨b, 0, none⟩) rows.length c ∧ b < w.heap.size ∧ w.cell? ⟨b, n, none⟩ = some (.slice (some ⟨g, 0, none⟩) 3 d) ∧ g < w.heap.size ∧ 3 ≤ d ∧ d ≤ 9223372036854775807
      ∧ w.cell? ⟨g, 0, none⟩ = some (.int .i64 rows[n].x) ∧ w.cell? ⟨g, 1, none⟩ = some (.int .i64 rows[n].y) ∧ w.cell? ⟨g, 2, none⟩ = some (.int .i64 rows[n].z) := by
  obtain ⟨h1, h2, h3, -, -⟩ := h
  rw [List.length_map] at h1
  have hnv : n < vs.length := by omega
  have h4 := h3 n hnv (by simpa using hn)
  have e9 : ((rows.map row3)[n]'(by simpa using hn)) = row3 rows[n] := by simp
  rw [e9] at h4
  rcases h2.2 with ⟨-, h⟩ | ⟨b, c, cur, rfl, -, hg, -⟩
  · omega
  · have hl := (Array.getElem?_eq_some_iff.1 hg).1
    have c1 := h2.cellAt n (by omega)
    rw [List.getElem?_eq_getElem hnv] at c1
    generalize vs[n] = u at *
    rcases h4.2 with ⟨-, h⟩ | ⟨g, d, cur2, rfl, -, hg2, k1, k2, -⟩
    · simp [row3] at h
    · have hl2 := (Array.getElem?_eq_some_iff.1 hg2).1
      have d0 := h4.cellAt 0 (by simp [row3])
      have d1 := h4.cellAt 1 (by simp [row3])
      have d2 := h4.cellAt 2 (by simp [row3])
      simp [row3] at d0 d1 d2
      refine ⟨b, c, g, d, by rw [h1], hl, by simpa [row3] using c1, hl2, by simpa [row3] using k1, by simpa [maxLen] using k2, d0, d1, d2⟩

/-- One edge's cells, of a row of the call's own. -/
theorem own_edge {w : World} {lo : Nat} {ty : TypeId} {a : Option Addr} {c : Nat} {xs : List Edge} (h : w.ownsRow lo ty 3 (.slice a xs.length c) xs.length (xs.flatMap encE)) {i : Nat} (hi : i < xs.length) :
    ∃ b, a = some ⟨b, 0, none⟩ ∧ b < w.heap.size ∧ w.cell? ⟨b, i * 3, none⟩ = some (.int .i64 xs[i].src) ∧ w.cell? ⟨b, i * 3 + 1, none⟩ = some (.int .i64 xs[i].lab) ∧ w.cell? ⟨b, i * 3 + 2, none⟩ = some (.int .i64 xs[i].dst) := by
  have hs : SliceK 3 encE lo w (.slice a xs.length c) xs := SliceK.of_owns encE_len rfl h
  obtain ⟨a2, c2, e2, -, -, hrow⟩ := hs
  simp only [Value.slice.injEq, true_and] at e2
  obtain ⟨rfl, rfl⟩ := e2
  obtain ⟨b, o, rfl, -, hb, e1, e2, e3⟩ := hrow.edge hi
  rcases h.2 with ⟨e, -⟩ | ⟨g, cap, cur, e, -⟩
  · simp at e
  · simp only [Value.slice.injEq, Option.some.injEq, Addr.mk.injEq, and_true, true_and] at e
    obtain ⟨⟨rfl, rfl⟩, rfl⟩ := e
    rw [Nat.zero_add] at e1 e2 e3
    exact ⟨b, rfl, hb, e1, e2, e3⟩

theorem edgeStep_go {p s r : Lts} {ctl : ByteArray → Bool} {n : Nat} {cur : Tri} {st : Net} {e : Edge} (h1 : alongB s cur.y (labAt p e) = true) (h2 : alongB r cur.z (labAt p e) = true) :
    edgeStep p s r ctl n cur st e = some ⟨addRow st.rows ⟨e.dst, alongV s cur.y (labAt p e), alongV r cur.z (labAt p e)⟩, st.edges ++ [(n, place st.rows ⟨e.dst, alongV s cur.y (labAt p e), alongV r cur.z (labAt p e)⟩)]⟩ := by
  unfold edgeStep; rw [if_pos h1, if_pos h2]
theorem edgeStep_may {p s r : Lts} {ctl : ByteArray → Bool} {n : Nat} {cur : Tri} {st : Net} {e : Edge} (h1 : alongB s cur.y (labAt p e) = true) (h2 : alongB r cur.z (labAt p e) = false) : edgeStep p s r ctl n cur st e = none := by
  unfold edgeStep; rw [if_pos h1, if_neg (by simp [h2])]
theorem edgeStep_ctl {p s r : Lts} {ctl : ByteArray → Bool} {n : Nat} {cur : Tri} {st : Net} {e : Edge} (h1 : alongB s cur.y (labAt p e) = false) (h2 : ctl (labAt p e) = true) : edgeStep p s r ctl n cur st e = some st := by
  unfold edgeStep; rw [if_neg (by simp [h1]), if_pos h2]
theorem edgeStep_free {p s r : Lts} {ctl : ByteArray → Bool} {n : Nat} {cur : Tri} {st : Net} {e : Edge} (h1 : alongB s cur.y (labAt p e) = false) (h2 : ctl (labAt p e) = false) : edgeStep p s r ctl n cur st e = none := by
  unfold edgeStep; rw [if_neg (by simp [h1]), if_neg (by simp [h2])]

theorem mid_fail {p s r : Lts} {ctl : ByteArray → Bool} {n j : Nat} {cur : Tri} {st : Net} {L : List Edge} (hL : L = outOf p cur.x) (h : Mid p s r ctl n cur j st) (hj : j < L.length) (he : edgeStep p s r ctl n cur st L[j] = none) : FailAt p s r ctl n := by
  subst hL; exact h.fail hj he
theorem mid_next {p s r : Lts} {ctl : ByteArray → Bool} {n j : Nat} {cur : Tri} {st st' : Net} {L : List Edge} (hL : L = outOf p cur.x) (h : Mid p s r ctl n cur j st) (hp : Valid p) (hs : Valid s) (hr : Valid r) (hj : j < L.length)
    (he : edgeStep p s r ctl n cur st L[j] = some st') : Mid p s r ctl n cur (j + 1) st' := by
  subst hL; exact h.next hp hs hr hj he
theorem mid_done {p s r : Lts} {ctl : ByteArray → Bool} {n : Nat} {cur : Tri} {st : Net} {L : List Edge} (hL : L = outOf p cur.x) (h : Mid p s r ctl n cur L.length st) (hp : Valid p) : At p s r ctl (n + 1) st := by
  subst hL; exact h.done hp
theorem edgeStep_old {p s r : Lts} {ctl : ByteArray → Bool} {n : Nat} {cur : Tri} {st : Net} {e : Edge} {l : ByteArray} {y z : Int} (hl : l = labAt p e) (h1 : alongB s cur.y l = true) (h2 : alongB r cur.z l = true) (hy : y = alongV s cur.y l) (hz : z = alongV r cur.z l)
    (hp : place st.rows ⟨e.dst, y, z⟩ < st.rows.length) : edgeStep p s r ctl n cur st e = some ⟨st.rows, st.edges ++ [(n, place st.rows ⟨e.dst, y, z⟩)]⟩ := by
  subst hl hy hz
  rw [edgeStep_go h1 h2]
  unfold addRow
  rw [if_pos hp]
theorem edgeStep_new {p s r : Lts} {ctl : ByteArray → Bool} {n : Nat} {cur : Tri} {st : Net} {e : Edge} {l : ByteArray} {y z : Int} (hl : l = labAt p e) (h1 : alongB s cur.y l = true) (h2 : alongB r cur.z l = true) (hy : y = alongV s cur.y l) (hz : z = alongV r cur.z l)
    (hp : ¬ place st.rows ⟨e.dst, y, z⟩ < st.rows.length) : edgeStep p s r ctl n cur st e = some ⟨st.rows ++ [⟨e.dst, y, z⟩], st.edges ++ [(n, st.rows.length)]⟩ := by
  subst hl hy hz
  rw [edgeStep_go h1 h2]
  obtain ⟨k1, k2⟩ := addRow_new (fun h => hp (place_lt.2 h))
  rw [k1, k2]

theorem flat_encB (xs : List Bool) : xs.flatMap encB = xs.map Value.bool := by
  induction xs with
  | nil => rfl
  | cons a r ih => simp [encB, ih]

/-- What holds of the good rows ahead of a sweep. -/
structure GoodRel (edges : List (Nat × Nat)) (mk : Nat → Bool) (N G : Nat) (wM wr : World) (gk : Nat) (good : List Bool) (b : Bool) : Prop where
  len : good.length = N
  ok : CoOk edges mk good
  done : b = false → CoDone edges good
  left : 2 * falses good + b.toNat ≤ gk
  below : Below wM.heap.size wM wr
  own : wr.ownsRow G 4 1 (.slice (some ⟨G, 0, none⟩) N N) N (good.map Value.bool)

theorem getD_some {l : List Bool} {i : Nat} {b : Bool} (h : i < l.length) (hb : l.getD i false = b) : l[i]? = some b := by
  rw [List.getElem?_eq_getElem h]
  rw [List.getD_eq_getElem?_getD, List.getElem?_eq_getElem h] at hb
  exact congrArg some hb

/-- The marks of the rows. -/
def marksOf (p : Plant) (rows : List Tri) : List Bool := (List.range rows.length).map (markOf p rows)
theorem marksOf_len (p : Plant) (rows : List Tri) : (marksOf p rows).length = rows.length := by simp [marksOf]
theorem marksOf_get {p : Plant} {rows : List Tri} {k : Nat} (h : k < rows.length) (h' : k < (marksOf p rows).length) : (marksOf p rows)[k] = p.marks.contains rows[k].x := by
  simp only [marksOf, List.getElem_map, List.getElem_range, markOf, List.getElem?_eq_getElem h]
theorem marksOf_ok (p : Plant) (st : Net) : CoOk st.edges (markOf p st.rows) (marksOf p st.rows) where
  sound i hi := by
    obtain ⟨hlt, h⟩ := List.getElem?_eq_some_iff.1 hi
    refine .here ?_
    simpa [marksOf] using h
  marked i hi := by
    have hlt : i < st.rows.length := by
      unfold markOf at hi
      cases h : st.rows[i]? with
      | none => rw [h] at hi; cases hi
      | some q => exact (List.getElem?_eq_some_iff.1 h).1
    rw [List.getElem?_eq_getElem (by rw [marksOf_len]; exact hlt)]
    simpa [marksOf] using hi

theorem ctl_iff {p : Plant} {l : ByteArray} : textAt p.names (l.extract 0 (openAt l.data.toList)) < 0 ↔ ctlOf p l = false := by
  rw [textAt_neg]
  unfold ctlOf labName
  have : (fun t : ByteArray => t.toList == (l.extract 0 (openAt l.data.toList)).toList) = fun s => s.data.toList == List.take (openAt l.data.toList) l.data.toList := by
    funext t
    rw [Lib.toList_data, Lib.toList_data, extract_data']
    simp
  rw [this]

end Go.Proofs.YtkffdamgekoifaaGreatDoor
