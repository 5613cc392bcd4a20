/-
  Laws on the program's memory for the walk of reach: what stays where it is.
-/
import Derived.Test.YtkffdamgekoifaaGreatDoorSup3
import Derived.Test.YtkffdamgekoifaaGreatDoorSpec13
namespace Go.Proofs.YtkffdamgekoifaaGreatDoor
open Go Go.RowKit

theorem sup_apart {B xb mb : Nat} {st : Net} {lv bv : Value} {vs : List Value} {w : World} (h : SupAt B xb mb st lv bv vs w) {k : Nat} {cs : List Value} {t : TypeId} (hb : Blk w k cs t) (h1 : 58 ≠ t) (h2 : 62 ≠ t ∨ lv.ownBlock ≠ some k) (h3 : 61 ≠ t) : ¬ SupBlk xb mb lv bv k := by
  rintro (e | e | e | e)
  · subst e
    have h4 := h.box
    unfold Blk at h4 hb
    rw [hb] at h4
    simp only [Option.some.injEq, Obj.cells.injEq] at h4
    exact h1 h4.2.1.symm
  · exact blk_map_ne hb h.map e
  · rcases h2 with h2 | h2
    · exact blk_own_ne hb h.list h2 e.symm
    · exact h2 e
  · exact blk_own_ne hb h.back.2.1 h3 e.symm

/-- The boxes of the arguments. -/
structure Box3 (b : Nat) (c1 c2 c3 : List Value) (w : World) : Prop where
  one : Blk w b c1 36
  two : Blk w (b + 1) c2 34
  three : Blk w (b + 1 + 1) c3 34
theorem Box3.below {b : Nat} {c1 c2 c3 : List Value} {w w' : World} (h : Box3 b c1 c2 c3 w) (hb : Below w.heap.size w w') : Box3 b c1 c2 c3 w' := ⟨h.one.below hb, h.two.below hb, h.three.below hb⟩
theorem Box3.sup {B xb mb : Nat} {st : Net} {lv bv : Value} {vs : List Value} {b : Nat} {c1 c2 c3 : List Value} {w w' : World} (h : Box3 b c1 c2 c3 w) (hs : SupAt B xb mb st lv bv vs w) (ho : Only (SupBlk xb mb lv bv) w w') : Box3 b c1 c2 c3 w' :=
  ⟨h.one.only ho (sup_apart hs h.one (by decide) (.inl (by decide)) (by decide)), h.two.only ho (sup_apart hs h.two (by decide) (.inl (by decide)) (by decide)), h.three.only ho (sup_apart hs h.three (by decide) (.inl (by decide)) (by decide))⟩

theorem owns_only {S : Nat → Prop} {w w' : World} {base e size n : Nat} {v : Value} {xs : List Value} (h : w.ownsRow base e size v n xs) (ho : Only S w w') (hn : ∀ k, v.ownBlock = some k → ¬ S k) : w'.ownsRow base e size v n xs := by
  refine ⟨h.1, ?_⟩
  rcases h.2 with hn' | ⟨g, cap, cur, rfl, hb, hgg, rest⟩
  · exact .inl hn'
  · exact .inr ⟨g, cap, cur, rfl, hb, by rw [ho.block g (Array.getElem?_eq_some_iff.1 hgg).1 (hn g rfl)]; exact hgg, rest⟩
/-- A row of edges is not among the blocks of the three fields. -/
theorem sup_row {B xb mb : Nat} {st : Net} {lv bv : Value} {vs : List Value} {w : World} (h : SupAt B xb mb st lv bv vs w) {base n : Nat} {v : Value} {xs : List Value} (ho : w.ownsRow base 73 3 v n xs) : ∀ k, v.ownBlock = some k → ¬ SupBlk xb mb lv bv k := by
  intro k hk
  rcases ho.2 with ⟨rfl, -⟩ | ⟨g, cap, cur, rfl, -, hg, -⟩
  · cases hk
  · simp only [Value.ownBlock, Option.some.injEq] at hk
    subst hk
    exact sup_apart h (cs := cur.toList) (t := 73) (by unfold Blk; simpa using hg) (by decide) (.inl (by decide)) (by decide)

theorem flat3_get (rows : List Tri) : ∀ (n j : Nat) (h : n < rows.length), j < 3 → (rows.flatMap enc3)[n * 3 + j]? = (enc3 rows[n])[j]? := by
  induction rows with
  | nil => intro n j h; simp at h
  | cons q r ih =>
    intro n j h hj
    rw [List.flatMap_cons]
    cases n with
    | zero => rw [Nat.zero_mul, Nat.zero_add, List.getElem?_append_left (by simpa [enc3] using hj)]; rfl
    | succ n =>
      rw [List.getElem?_append_right (by simp [enc3, Nat.succ_mul]; omega), enc3_len, show (n + 1) * 3 + j - 3 = n * 3 + j from by omega]
      exact ih n j (by simpa using h) hj
/-- One triple's cells. -/
theorem own_tri {w : World} {B N c : Nat} {a : Option Addr} {rows : List Tri} (h : w.ownsRow B 62 3 (.slice a N c) rows.length (rows.flatMap enc3)) {n : Nat} (hn : n < rows.length) :
    ∃ b, a = some ⟨b, 0, none⟩ ∧ b < w.heap.size ∧ w.cell? ⟨b, n * 3, none⟩ = some (.int .i64 rows[n].x) ∧ w.cell? ⟨b, n * 3 + 1, none⟩ = some (.int .i64 rows[n].y) ∧ w.cell? ⟨b, n * 3 + 2, none⟩ = some (.int .i64 rows[n].z) := by
  rcases h.2 with ⟨-, h0⟩ | ⟨g, cap, cur, e, -, hg, -⟩
  · omega
  · simp only [Value.slice.injEq] at e
    obtain ⟨rfl, rfl, rfl⟩ := e
    have hl := (Array.getElem?_eq_some_iff.1 hg).1
    refine ⟨g, rfl, hl, ?_, ?_, ?_⟩
    · rw [show n * 3 = n * 3 + 0 from rfl, h.cellAt _ (by omega), flat3_get rows n 0 hn (by omega)]; rfl
    · rw [h.cellAt _ (by omega), flat3_get rows n 1 hn (by omega)]; rfl
    · rw [h.cellAt _ (by omega), flat3_get rows n 2 hn (by omega)]; rfl

theorem net_inbox {p s r : Lts} {st : Net} (h : NetOk p s r st) (hp : Valid p) (hs : Valid s) (hr : Valid r) : ∀ q ∈ st.rows, InBox q := by
  intro q hq
  have h1 := h.inside q hq
  have h2 := hp.st1
  have h3 := hs.st1
  have h4 := hr.st1
  unfold InBox
  omega

/-- A row of one list has grown by one number, and its new value is in its place. -/
theorem sup_edge {B xb mb : Nat} {st : Net} {lv rv : Value} {bb cb N H gg a b : Nat} {vs : List Value} {w wX w3 : World} (h : SupAt B xb mb st lv (.slice (some ⟨bb, 0, none⟩) N cb) vs w) (hb : b < st.rows.length) (hbv : b < vs.length) (hX : Below w.heap.size w wX) (hg : wX.grownBy w3 vs[b].ownBlock)
    (ho : w3.ownsRow B 3 1 rv ((backOf st.edges b).length + 1) (((backOf st.edges b).map fun (a : Nat) => Value.int .i64 (a : Int)) ++ [.int .i64 (a : Int)])) (hat : vs[b].ownBlock = some gg ∨ gg = H) (hH : wX.heap.size ≤ H) (hrv : rv.ownBlock = some gg) (hB : B ≤ w.heap.size) :
    SupAt B xb mb ⟨st.rows, st.edges ++ [(a, b)]⟩ lv (.slice (some ⟨bb, 0, none⟩) N cb) (vs.set b rv) (w3.setCell ⟨bb, b, none⟩ rv) ∧ Only (fun k => bb = k ∨ vs[b].ownBlock = some k) w (w3.setCell ⟨bb, b, none⟩ rv) ∧ Below B w (w3.setCell ⟨bb, b, none⟩ rv)
      ∧ (∀ (k : Nat) (cs : List Value) (t : TypeId), Blk w k cs t → 61 ≠ t → 3 ≠ t → Blk (w3.setCell ⟨bb, b, none⟩ rv) k cs t)
      ∧ ∀ (base n : Nat) (v : Value) (xs : List Value), w.ownsRow base 73 3 v n xs → (w3.setCell ⟨bb, b, none⟩ rv).ownsRow base 73 3 v n xs := by
  have hN : N = vs.length := by
    rcases h.back.2.1.2 with ⟨e, -⟩ | ⟨g, c, cur, e, -⟩
    · cases e
    · simp only [Value.slice.injEq] at e
      exact e.2.1
  subst hN
  have hx := h.below hX
  have hrow := hx.back.2.2.1 b hbv (by rw [backs_len]; exact hb)
  have hs := grown_setCell w3 ⟨bb, b, none⟩ rv
  have hbk : (backs st)[b]'(by rw [backs_len]; exact hb) = (backOf st.edges b).map fun (a : Nat) => Value.int .i64 (a : Int) := by simp [backs]
  have hback3 : w3.ownsRow B 61 1 (.slice (some ⟨bb, 0, none⟩) vs.length cb) vs.length vs := hx.back.2.1.kept hg (own_types hx.back.2.1 hrow (by decide))
  have hst := (hback3.stored b rv).1
  have hbb : B ≤ bb := (hx.back.2.1.lt bb rfl).1
  have only : Only (fun k => bb = k ∨ vs[b].ownBlock = some k) w (w3.setCell ⟨bb, b, none⟩ rv) := ((Only.below hX).trans (Only.grown hg (fun k e => .inr e))).trans (Only.grown hs (fun k e => .inl (Option.some.inj e)))
  have n1 : ∀ {k : Nat} {cs : List Value} {t : TypeId}, Blk w k cs t → 61 ≠ t → 3 ≠ t → ¬ (bb = k ∨ vs[b].ownBlock = some k) := by
    intro k cs t hk e1 e2 e
    rcases e with e | e
    · exact blk_own_ne hk h.back.2.1 e1 (by rw [← e]; rfl)
    · exact blk_own_ne hk (h.back.2.2.1 b hbv (by rw [backs_len]; exact hb)) e2 e.symm
  refine ⟨⟨h.base, h.mbase, h.box.only only (n1 h.box (by decide) (by decide)), ?_, ?_, ?_⟩, only, ?_, fun k cs t hk e1 e2 => hk.only only (n1 hk e1 e2), fun base n v xs hw => ?_⟩
  · refine owns_only h.list only (fun k hk e => ?_)
    rcases h.list.2 with ⟨rfl, -⟩ | ⟨g, cap, cur, rfl, -, hgg, -⟩
    · cases hk
    · simp only [Value.ownBlock, Option.some.injEq] at hk
      subst hk
      exact n1 (k := g) (cs := cur.toList) (t := 62) (by unfold Blk; simpa using hgg) (by decide) (by decide) e
  · have hm := h.map
    unfold NumMap at hm ⊢
    rw [only.block mb (Array.getElem?_eq_some_iff.1 hm).1 ?_]
    · exact hm
    · rintro (e | e)
      · rcases own_map_ne h.back.2.1 h.map with h9 | h9
        · cases h9
        · exact h9 (by rw [e]; rfl)
      · rcases own_map_ne (h.back.2.2.1 b hbv (by rw [backs_len]; exact hb)) h.map with h9 | h9
        · rw [h9] at e; cases e
        · exact h9 e
  · rw [backs_edge hb (by rw [backs_len]; exact hb), hbk]
    refine OwnRows.grow (ys := ((backOf st.edges b).map fun (a : Nat) => Value.int .i64 (a : Int)) ++ [.int .i64 (a : Int)]) (by decide) hx.back b hbv hg (by simpa using ho) ?_ (by simpa [Value.ownBlock] using hs) hst
    intro k hk
    rw [hrv] at hk
    simp only [Option.some.injEq] at hk
    subst hk
    rcases hat with h9 | h9
    · exact .inl h9
    · exact .inr (by omega)
  · exact only.under hB (fun k e => by
      rcases e with e | e
      · omega
      · exact ((h.back.2.2.1 b hbv (by rw [backs_len]; exact hb)).lt k e).1)
  · refine owns_only hw only (fun k hk e => ?_)
    rcases hw.2 with ⟨rfl, -⟩ | ⟨g, cap, cur, rfl, -, hgg, -⟩
    · cases hk
    · simp only [Value.ownBlock, Option.some.injEq] at hk
      subst hk
      exact n1 (k := g) (cs := cur.toList) (t := 73) (by unfold Blk; simpa using hgg) (by decide) (by decide) e

end Go.Proofs.YtkffdamgekoifaaGreatDoor
