/-
  A queue whose elements take k cells each: the rest of a row of the call's own, behind what was taken off its front.
  A pile of rows of the call's own, no two in one block; a slice of such rows.
  Lists of texts and lists of such lists of the call's own: how they lie in memory.
  Traces with their states, how they lie in the program's memory; what both texts return as traces.
  The net of sets in memory: its rows and its edges, of the call's own.
  What the implementation's functions on lists of values and on labels compute.
  What the implementation's readNumbers computes.
  What the implementation's joined computes.
  What the implementation's labelOf computes.
-/
import Derived.Test.YtpoleaekcjjedaaGreatDoorD1
import Derived.ArgAppend
import Derived.Deep.AppendLies
import Derived.Test.YtpoleaekcjjedaaGreatDoorD3
import Derived.Test.YtpoleaekcjjedaaGreatDoorD5
import Derived.Test.YtpoleaekcjjedaaGreatDoorD7
namespace Go.Proofs.YtpoleaekcjjedaaGreatDoor
open Go Go.RowKit

def TailK (w : World) (base : Nat) (e : TypeId) (k : Nat) (v : Value) (n : Nat) (xs : List Value) : Prop :=
  xs.length = n * k ∧ ((v = .slice none 0 0 ∧ n = 0) ∨
  ∃ g o cap cur, v = .slice (some ⟨g, o, none⟩) n cap ∧ base ≤ g ∧ w.heap[g]? = some (.cells cur e (0, 0)) ∧ n ≤ cap ∧ cap ≤ maxLen ∧ o + cap * k ≤ cur.size ∧ ∀ j (h : j < xs.length), cur[o + j]? = some xs[j])
theorem TailK.of_owns {w : World} {base : Nat} {e : TypeId} {k n : Nat} {v : Value} {xs : List Value} (h : w.ownsRow base e k v n xs) : TailK w base e k v n xs := by
  refine ⟨h.1, ?_⟩
  rcases h.2 with h1 | ⟨g, cap, cur, h1, h2, h3, h4, h5, h6, h7⟩
  · exact .inl h1
  · refine .inr ⟨g, 0, cap, cur, h1, h2, h3, h4, h5, by omega, fun j hj => ?_⟩
    have h8 : (cur.toList.take (n * k))[j]? = xs[j]? := by rw [h7]
    rw [List.getElem?_take, if_pos (by rw [← h.1]; exact hj), List.getElem?_eq_getElem hj] at h8
    rw [Nat.zero_add]
    simpa using h8
theorem TailK.kept {w w' : World} {base : Nat} {e : TypeId} {k n : Nat} {v : Value} {xs : List Value} {row : Option Nat} (h : TailK w base e k v n xs) (hg : w.grownBy w' row) (hne : v.ownBlock = none ∨ v.ownBlock ≠ row) : TailK w' base e k v n xs := by
  refine ⟨h.1, ?_⟩
  rcases h.2 with h | ⟨g, o, cap, cur, rfl, h2, h3, rest⟩
  · exact .inl h
  · refine .inr ⟨g, o, cap, cur, rfl, h2, ?_, rest⟩
    rw [hg.block g (Array.getElem?_eq_some_iff.1 h3).1 (by simpa [Value.ownBlock] using hne)]
    exact h3
theorem TailK.below {w w' : World} {base : Nat} {e : TypeId} {k n : Nat} {v : Value} {xs : List Value} (h : TailK w base e k v n xs) (hb : Below w.heap.size w w') : TailK w' base e k v n xs := by
  refine ⟨h.1, ?_⟩
  rcases h.2 with h | ⟨g, o, cap, cur, rfl, h2, h3, rest⟩
  · exact .inl h
  · exact .inr ⟨g, o, cap, cur, rfl, h2, (hb.block g (Array.getElem?_eq_some_iff.1 h3).1).trans h3, rest⟩
theorem TailK.lt {w : World} {base : Nat} {e : TypeId} {k n : Nat} {v : Value} {xs : List Value} (h : TailK w base e k v n xs) : ∀ b, v.ownBlock = some b → base ≤ b ∧ b < w.heap.size := by
  intro b hb
  rcases h.2 with ⟨rfl, _⟩ | ⟨g, o, cap, cur, rfl, h2, h3, _⟩
  · simp [Value.ownBlock] at hb
  · simp [Value.ownBlock] at hb
    subst hb
    exact ⟨h2, (Array.getElem?_eq_some_iff.1 h3).1⟩
/-- The first element's cells, and the slice's form. -/
theorem TailK.head {w : World} {base : Nat} {e : TypeId} {k n : Nat} {v : Value} {xs : List Value} (h : TailK w base e k v (n + 1) xs) :
    ∃ g o cap, v = .slice (some ⟨g, o, none⟩) (n + 1) cap ∧ base ≤ g ∧ g < w.heap.size ∧ n + 1 ≤ cap ∧ cap ≤ maxLen ∧ ∀ j, j < xs.length → w.cell? ⟨g, o + j, none⟩ = xs[j]? := by
  rcases h.2 with ⟨_, h⟩ | ⟨g, o, cap, cur, rfl, h2, h3, h4, h5, h6, h7⟩
  · omega
  · refine ⟨g, o, cap, rfl, h2, (Array.getElem?_eq_some_iff.1 h3).1, h4, h5, fun j hj => ?_⟩
    rw [cell_of_row w g (o + j) cur e (0, 0) h3, h7 j hj, List.getElem?_eq_getElem hj]
/-- Popped. -/
theorem TailK.pop {w : World} {base : Nat} {e : TypeId} {g o k n cap : Nat} {xs : List Value} (h : TailK w base e k (.slice (some ⟨g, o, none⟩) (n + 1) cap) (n + 1) xs) :
    TailK w base e k (.slice (some ⟨g, o + k, none⟩) n (cap - 1)) n (xs.drop k) := by
  have hl := h.1
  refine ⟨by rw [List.length_drop, hl, Nat.add_mul, Nat.one_mul, Nat.add_sub_cancel], ?_⟩
  rcases h.2 with ⟨_, h⟩ | ⟨g', o', cap', cur, h1, h2, h3, h4, h5, h6, h7⟩
  · omega
  · simp only [Value.slice.injEq, Option.some.injEq, Addr.mk.injEq, and_true, true_and] at h1
    obtain ⟨⟨rfl, rfl⟩, rfl⟩ := h1
    have h8 : k + (cap - 1) * k = cap * k := by
      obtain ⟨c, rfl⟩ : ∃ c, cap = c + 1 := ⟨cap - 1, by omega⟩
      rw [Nat.add_sub_cancel, Nat.add_mul, Nat.one_mul, Nat.add_comm]
    refine .inr ⟨g, o + k, cap - 1, cur, rfl, h2, h3, by omega, by omega, by omega, fun j hj => ?_⟩
    rw [List.length_drop] at hj
    have := h7 (k + j) (by omega)
    rw [List.getElem_drop, show o + k + j = o + (k + j) from by omega]
    exact this
/-- Popped empty: the slice's address may have stayed. -/
theorem TailK.empty {w : World} {base : Nat} {e : TypeId} {g o k cap : Nat} {xs : List Value} (h : TailK w base e k (.slice (some ⟨g, o, none⟩) 0 cap) 0 xs) (o' : Nat) (ho : o' ≤ o) : TailK w base e k (.slice (some ⟨g, o', none⟩) 0 0) 0 [] := by
  refine ⟨by simp, ?_⟩
  rcases h.2 with ⟨h, _⟩ | ⟨g', o2, cap', cur, h1, h2, h3, h4, h5, h6, h7⟩
  · simp at h
  · simp only [Value.slice.injEq, Option.some.injEq, Addr.mk.injEq, and_true, true_and] at h1
    obtain ⟨⟨rfl, rfl⟩, rfl⟩ := h1
    exact .inr ⟨g, o', 0, cur, rfl, h2, h3, by omega, by simp [maxLen], by omega, fun j hj => by simp at hj⟩

theorem setCells_row {e : TypeId} (b : Nat) : ∀ (vs : List Value) (o : Nat) (w : World) (cur : Array Value), w.heap[b]? = some (.cells cur e (0, 0)) → o + vs.length ≤ cur.size →
    ∃ cur', (w.setCells b o vs).heap[b]? = some (.cells cur' e (0, 0)) ∧ cur'.size = cur.size ∧ (∀ j, j < o → cur'[j]? = cur[j]?) ∧ (∀ j (h : j < vs.length), cur'[o + j]? = some vs[j]) ∧ w.grownBy (w.setCells b o vs) (some b)
  | [], o, w, cur, h, hs => ⟨cur, h, rfl, fun _ _ => rfl, fun j hj => by simp at hj, grown_refl w _⟩
  | v :: vs, o, w, cur, h, hs => by
    have h1 := heap_setCell_same w b o cur e v h
    obtain ⟨cur', k1, k2, k3, k4, k5⟩ := setCells_row b vs (o + 1) (w.setCell ⟨b, o, none⟩ v) (cur.setIfInBounds o v) h1 (by rw [List.length_cons] at hs; rw [Array.size_setIfInBounds]; omega)
    rw [List.length_cons] at hs
    refine ⟨cur', k1, by rw [k2, Array.size_setIfInBounds], fun j hj => ?_, fun j hj => ?_, grown_trans (grown_setCell w ⟨b, o, none⟩ v) k5⟩
    · rw [k3 j (by omega), Array.getElem?_setIfInBounds_ne (by omega)]
    · cases j with
      | zero =>
        rw [Nat.add_zero, k3 o (by omega), Array.getElem?_setIfInBounds_self_of_lt (by omega)]
        rfl
      | succ j =>
        have := k4 j (by simpa using hj)
        rw [show o + (j + 1) = o + 1 + j from by omega]
        simpa using this

theorem run_append_tail {P : Program} (w : World) (t ty : TypeId) (base : Nat) (e : TypeId) (i : TypeInfo) (z : Value) (size bytes : Nat) (h1 : P.underlying t = some (.slice e)) (h2 : P.info? e = some i) (h3 : i.zero = some z)
    (h4 : i.size = size) (h5 : i.bytes = bytes) (h6 : z.cells.size = size) (h7 : 0 < size)
    (v : Value) (n : Nat) (xs : List Value) (hown : TailK w base e size v n xs)
    (ad : Addr) (news : List Value) (hl : news.length = size) (hnews : ∀ j u, news[j]? = some u → w.cell? (ad.add j) = some u) (hc1 : ∀ u ∈ news, u.oneCell' = true)
    (b1 : n + 1 ≤ maxLen) (b2 : (n + 1) * bytes ≤ 140737488355328) (hbase : base ≤ w.heap.size) :
    ∃ g o cap w', (Builtin.append_ #[t, t] ty #[v, .slice (some ad) 1 1]).run P w = .ok (.slice (some ⟨g, o, none⟩) (n + 1) cap) w' ∧ TailK w' base e size (.slice (some ⟨g, o, none⟩) (n + 1) cap) (n + 1) (xs ++ news) ∧ w.grownBy w' v.ownBlock ∧ (v.ownBlock = some g ∨ w.heap.size ≤ g) ∧ g < w'.heap.size := by
  have hl' : news.length = 1 * size := by rw [hl, Nat.one_mul]
  rcases hown.2 with ⟨rfl, rfl⟩ | ⟨g, off, cap, cur, rfl, k2, k3, k4, k5, k6, k7⟩
  · have hx : xs = [] := List.eq_nil_of_length_eq_zero (by rw [hown.1]; simp)
    subst hx
    obtain ⟨g, cap, w', r1, r2, r3, r4, r5⟩ := run_append_lies (P := P) w t ty base e i z size bytes h1 h2 h3 h4 h5 h6 h7 (.slice none 0 0) 0 [] (World.ownsRow_nil w base e size) ad 1 1 news hl' hnews hc1 (by omega) b1 b2 hbase w.heap.size rfl
    refine ⟨g, 0, cap, w', r1, TailK.of_owns r2, r3, ?_, r5⟩
    rcases r4 with r4 | r4
    · simp [Value.ownBlock] at r4
    · exact .inr (Nat.le_of_eq r4.symm)
  · have hxl := hown.1
    have hcell : ∀ j u, xs[j]? = some u → w.cell? ⟨g, off + j, none⟩ = some u := by
      intro j u hj
      obtain ⟨hlt, rfl⟩ := List.getElem?_eq_some_iff.1 hj
      rw [cell_of_row w g (off + j) cur e (0, 0) k3]
      exact k7 j hlt
    have hg := (Array.getElem?_eq_some_iff.1 k3).1
    by_cases hr : n + 1 ≤ cap
    · subst h4
      have hfit : off + n * i.size + news.length ≤ cur.size := by
        have h8 : n * i.size + i.size ≤ cap * i.size := by
          have := Nat.mul_le_mul_right i.size hr
          rwa [Nat.add_mul, Nat.one_mul] at this
        omega
      have hrun := run_append_room_cells (P := P) w t ty e i h1 h2 g off n cap ad 1 1 news hl' hnews hc1 hr
        (fun j hj => by rw [cell_of_row w g _ cur e (0, 0) k3, Array.getElem?_eq_getElem (by omega)]; rfl) (fun j hj => by simp [World.frozen?, k3])
      obtain ⟨cur', c1, c2, c3, c4, c5⟩ := setCells_row g news (off + n * i.size) w cur k3 hfit
      refine ⟨g, off, cap, _, hrun, ⟨by rw [List.length_append, hxl, hl, Nat.add_mul, Nat.one_mul], .inr ⟨g, off, cap, cur', rfl, k2, c1, hr, k5, by rw [c2]; exact k6, fun j hj => ?_⟩⟩, by simpa [Value.ownBlock] using c5, .inl rfl, Nat.lt_of_lt_of_le hg c5.size⟩
      rw [List.length_append] at hj
      by_cases e1 : j < xs.length
      · rw [List.getElem_append_left e1, c3 _ (by omega)]
        exact k7 j e1
      · rw [List.getElem_append_right (by omega)]
        have := c4 (j - xs.length) (by omega)
        rw [show off + n * i.size + (j - xs.length) = off + j from by omega] at this
        exact this
    · obtain ⟨v', w', r1, r2, r3⟩ := run_append_arg_grows (P := P) w t ty e i z size bytes h1 h2 h3 h4 h5 h6 h7 ⟨g, off, none⟩ n cap xs hxl (fun j u hj => by rw [Addr.add_lit]; exact hcell j u hj) ad 1 1 news hl' hnews (by omega) b1 b2
      obtain ⟨g', cap', rfl, q1, q2⟩ := r2.form (by omega)
      exact ⟨g', 0, cap', w', r1, TailK.of_owns (own_lower r2 hbase), ⟨r3.os, r3.tape, r3.output, r3.size, fun k hk _ => r3.block k hk (by simp)⟩, .inr q1, q2⟩

/-- At a step of a region that draws. -/
theorem step_append_tail {P : Program} (w : World) {ops : Array Oper} {o : Oper} {a : Act} {K : Act → World → Prop} {Q : Exit → Act → World → Prop} {E : Prop} (hgd : o.guard = none) (s x : Operand) (t : TypeId)
    (ho : o.op = .call { callee := .builtin .append, args := #[s, x], argTypes := #[t, t] })
    (base : Nat) (e : TypeId) (i : TypeInfo) (z : Value) (size bytes : Nat) (ht : P.underlying t = some (.slice e)) (hi : P.info? e = some i) (hz : i.zero = some z)
    (hsize : i.size = size) (hby : i.bytes = bytes) (hzs : z.cells.size = size) (hsz : 0 < size)
    (v : Value) (n : Nat) (xs : List Value) (hs : a.eval s = v) (hown : TailK w base e size v n xs)
    (ad : Addr) (news : List Value) (hx : a.eval x = .slice (some ad) 1 1) (hl : news.length = size) (hnews : ∀ j u, news[j]? = some u → w.cell? (ad.add j) = some u) (h1 : ∀ u ∈ news, u.oneCell' = true)
    (h63 : n + 1 ≤ maxLen) (hbytes : (n + 1) * bytes ≤ 140737488355328) (hbase : base ≤ w.heap.size)
    (h : ∀ g off cap w', TailK w' base e size (.slice (some ⟨g, off, none⟩) (n + 1) cap) (n + 1) (xs ++ news) → w.grownBy w' v.ownBlock → (v.ownBlock = some g ∨ w.heap.size ≤ g) → g < w'.heap.size → K (a.put o.dst (.slice (some ⟨g, off, none⟩) (n + 1) cap)) w') :
    if Region.wanted o (yielded ops a.tmps) = true then Oper.wp P o a w K Q else E := by
  have hw : Region.wanted o (yielded ops a.tmps) = true := by simp [Region.wanted, hgd]
  rw [if_pos hw]
  obtain ⟨g, off, cap, w', hr, h2, h3, h4, h5⟩ := run_append_tail (P := P) w t o.type base e i z size bytes ht hi hz hsize hby hzs hsz v n xs hown ad news hl hnews h1 h63 hbytes hbase
  unfold Oper.wp execOp
  simp only [ho, resolve, invoke, builtin, Sem.run_bind, Sem.run_pure, Result.andThen_ok, List.map_toArray, List.map_cons, List.map_nil, hs, hx, hr]
  exact h g off cap w' h2 h3 h4 h5

end Go.Proofs.YtpoleaekcjjedaaGreatDoor

namespace Go.Proofs.YtpoleaekcjjedaaGreatDoor
open Go Go.RowKit

/-- Rows of the call's own, no two in one block. -/
structure Pile (ei lo : Nat) (w : World) (vs : List Value) (css : List (List Value)) : Prop where
  len : vs.length = css.length
  row : ∀ (i : Nat) (h : i < vs.length) (h' : i < css.length), w.ownsRow lo ei 1 vs[i] css[i].length css[i]
  far : ∀ (i j : Nat) (h : i < vs.length) (h' : j < vs.length), i ≠ j → vs[i].ownBlock = none ∨ vs[i].ownBlock ≠ vs[j].ownBlock
theorem Pile.nil (ei lo : Nat) (w : World) : Pile ei lo w [] [] := ⟨rfl, fun _ h => absurd h (Nat.not_lt_zero _), fun _ _ h => absurd h (Nat.not_lt_zero _)⟩
theorem Pile.below {ei lo : Nat} {w w' : World} {vs : List Value} {css : List (List Value)} (h : Pile ei lo w vs css) (hb : Below w.heap.size w w') : Pile ei lo w' vs css :=
  ⟨h.len, fun i hi hi' => owns_below (h.row i hi hi') hb, h.far⟩
theorem Pile.lower {ei lo lo' : Nat} {w : World} {vs : List Value} {css : List (List Value)} (h : Pile ei lo w vs css) (hl : lo' ≤ lo) : Pile ei lo' w vs css :=
  ⟨h.len, fun i hi hi' => own_lower (h.row i hi hi') hl, h.far⟩
theorem Pile.turns {ei base lo hi : Nat} {w w' : World} {vs : List Value} {css : List (List Value)} (h : Pile ei base w vs css) (ht : Turns lo hi w w') (hb : hi ≤ base) : Pile ei base w' vs css :=
  ⟨h.len, fun i hi hi' => owns_turns (h.row i hi hi') ht (fun b e => .inr (Nat.le_trans hb ((h.row i hi hi').lt b e).1)), h.far⟩
theorem Pile.kept {ei lo : Nat} {w w' : World} {vs : List Value} {css : List (List Value)} {row : Option Nat} (h : Pile ei lo w vs css) (hg : w.grownBy w' row) (hr : ∀ (i : Nat) (h : i < vs.length), vs[i].ownBlock = none ∨ vs[i].ownBlock ≠ row) : Pile ei lo w' vs css :=
  ⟨h.len, fun i hi hi' => (h.row i hi hi').kept hg (hr i hi), h.far⟩
/-- A row of another type was written. -/
theorem Pile.other {ei eo lo lo2 size n : Nat} {w w' : World} {vs : List Value} {css : List (List Value)} {v : Value} {xs : List Value} (h : Pile ei lo w vs css) (he : ei ≠ eo) (ho : w.ownsRow lo2 eo size v n xs) (hg : w.grownBy w' v.ownBlock) : Pile ei lo w' vs css :=
  h.kept hg fun i hi => own_types (h.row i hi (by rw [← h.len]; exact hi)) ho he
theorem own_type_far {w : World} {base e size n b : Nat} {v : Value} {xs : List Value} (ho : w.ownsRow base e size v n xs) {a : Array Value} {t : TypeId} {fr : Nat × Nat} (hb : w.heap[b]? = some (.cells a t fr)) (he : e ≠ t) : v.ownBlock = none ∨ v.ownBlock ≠ some b := by
  rcases ho.2 with ⟨rfl, -⟩ | ⟨g, c, u, rfl, -, hg, -⟩
  · exact .inl rfl
  · refine .inr fun e2 => ?_
    simp only [Value.ownBlock, Option.some.injEq] at e2
    subst e2
    rw [hg] at hb
    simp only [Option.some.injEq, Obj.cells.injEq] at hb
    exact he hb.2.1
/-- A cell of a block of another type was written. -/
theorem Pile.set {ei lo : Nat} {w : World} {vs : List Value} {css : List (List Value)} (h : Pile ei lo w vs css) {b : Nat} {cs : List Value} {t : TypeId} (hb : Blk w b cs t) (he : ei ≠ t) (i : Nat) (u : Value) : Pile ei lo (w.setCell ⟨b, i, none⟩ u) vs css :=
  h.kept (grown_setCell w ⟨b, i, none⟩ u) fun j hj => own_type_far (h.row j hj (by rw [← h.len]; exact hj)) hb he
/-- One row is written. -/
theorem Pile.put {ei lo : Nat} {w w' : World} {vs : List Value} {css : List (List Value)} (h : Pile ei lo w vs css) (j : Nat) (hj : j < vs.length) (ys : List Value) (hg : w.grownBy w' vs[j].ownBlock) (ho : w'.ownsRow lo ei 1 vs[j] ys.length ys) : Pile ei lo w' vs (css.set j ys) := by
  refine ⟨by simpa using h.len, fun i hi hi' => ?_, h.far⟩
  by_cases hij : j = i
  · subst hij
    simpa using ho
  · rw [List.getElem_set_ne hij]
    exact (h.row i hi (by simpa using hi')).kept hg (h.far i j hi hj (fun e => hij e.symm))
/-- One row more, which lies behind all that was there. -/
theorem Pile.push {ei lo B : Nat} {w0 w : World} {rv : Value} {vs : List Value} {css : List (List Value)} {ys : List Value} (h : Pile ei lo w0 vs css) (hB : w0.heap.size ≤ B) (hb : Below w0.heap.size w0 w) (hr : w.ownsRow B ei 1 rv ys.length ys) (hlo : lo ≤ B) :
    Pile ei lo w (vs ++ [rv]) (css ++ [ys]) := by
  have hk := h.below hb
  have hl := h.len
  refine ⟨by simp [hl], fun i hi hi' => ?_, fun i j hi hj hij => ?_⟩
  · by_cases hlt : i < vs.length
    · rw [List.getElem_append_left hlt]
      simp only [List.getElem_append_left (show i < css.length by omega)]
      exact hk.row i hlt (by omega)
    · have e : i = vs.length := by simp at hi; omega
      subst e
      rw [List.getElem_concat_length rfl]
      have : (css ++ [ys])[vs.length] = ys := by simp [hl]
      rw [this]
      exact own_lower hr hlo
  · have hold : ∀ (i : Nat) (h : i < vs.length) b, vs[i].ownBlock = some b → b < w0.heap.size := fun i hi b e => ((h.row i hi (by omega)).lt b e).2
    have hnb : ∀ b, rv.ownBlock = some b → B ≤ b := fun b e => (hr.lt b e).1
    by_cases h1' : i < vs.length <;> by_cases h2' : j < vs.length
    · rw [List.getElem_append_left h1', List.getElem_append_left h2']
      exact h.far i j h1' h2' hij
    · have e : j = vs.length := by simp at hj; omega
      subst e
      rw [List.getElem_append_left h1', List.getElem_concat_length rfl]
      cases hb1 : vs[i].ownBlock with
      | none => exact .inl rfl
      | some b => exact .inr fun e => by have := hold i h1' b hb1; have := hnb b e.symm; omega
    · have e : i = vs.length := by simp at hi; omega
      subst e
      rw [List.getElem_append_left h2', List.getElem_concat_length rfl]
      cases hb1 : rv.ownBlock with
      | none => exact .inl rfl
      | some b => exact .inr fun e => by have := hold j h2' b e.symm; have := hnb b hb1; omega
    · simp at hi hj; omega
theorem Pile.one {ei lo B : Nat} {w : World} {rv : Value} {ys : List Value} (hr : w.ownsRow B ei 1 rv ys.length ys) (hlo : lo ≤ B) : Pile ei lo w [rv] [ys] := by
  refine ⟨rfl, fun i hi hi' => ?_, fun i j hi hj hij => ?_⟩
  · obtain rfl : i = 0 := by simp at hi; omega
    exact own_lower hr hlo
  · simp at hi hj; omega
theorem Pile.old {ei lo : Nat} {w : World} {vs : List Value} {css : List (List Value)} (h : Pile ei lo w vs css) {i : Nat} (hi : i < vs.length) {b : Nat} (e : vs[i].ownBlock = some b) : lo ≤ b ∧ b < w.heap.size :=
  (h.row i hi (by rw [← h.len]; exact hi)).lt b e

/-- Blocks of types other than these are as they were. -/
def Only (Ts : List TypeId) (w w' : World) : Prop := ∀ (b : Nat) (a : Array Value) (T : TypeId) (fr : Nat × Nat), w.heap[b]? = some (.cells a T fr) → T ∉ Ts → w'.heap[b]? = some (.cells a T fr)
theorem Only.refl (Ts : List TypeId) (w : World) : Only Ts w w := fun _ _ _ _ h _ => h
theorem Only.trans {Ts Us : List TypeId} {a b c : World} (h : Only Ts a b) (k : Only Us b c) : Only (Ts ++ Us) a c := fun x y T fr hx hT => by
  rw [List.mem_append] at hT
  exact k x y T fr (h x y T fr hx (fun e => hT (.inl e))) (fun e => hT (.inr e))
theorem Only.step {Ts : List TypeId} {a b c : World} (h : Only Ts a b) (k : Only Ts b c) : Only Ts a c := fun x y T fr hx hT => k x y T fr (h x y T fr hx hT) hT
theorem Only.below {w w' : World} (Ts : List TypeId) (hb : Below w.heap.size w w') : Only Ts w w' := fun b _ _ _ h _ => (hb.block b (Array.getElem?_eq_some_iff.1 h).1).trans h
theorem Only.grown {base e size n : Nat} {w w' : World} {v : Value} {xs : List Value} (ho : w.ownsRow base e size v n xs) (hg : w.grownBy w' v.ownBlock) : Only [e] w w' := fun b a T fr h hT => by
  refine (hg.block b (Array.getElem?_eq_some_iff.1 h).1 ?_).trans h
  intro e2
  rcases own_type_far ho h (fun e3 => hT (by rw [e3]; simp)) with h1 | h1
  · rw [h1] at e2; cases e2
  · exact h1 e2.symm
theorem Only.own {Ts : List TypeId} {w w' : World} (h : Only Ts w w') {base e size n : Nat} {v : Value} {xs : List Value} (ho : w.ownsRow base e size v n xs) (he : e ∉ Ts) : w'.ownsRow base e size v n xs := by
  refine ⟨ho.1, ?_⟩
  rcases ho.2 with hn | ⟨g, cap, cur, rfl, hb, hgg, rest⟩
  · exact .inl hn
  · exact .inr ⟨g, cap, cur, rfl, hb, h g _ _ _ hgg he, rest⟩
theorem Only.blk {Ts : List TypeId} {w w' : World} (h : Only Ts w w') {b : Nat} {cs : List Value} {t : TypeId} (hb : Blk w b cs t) (he : t ∉ Ts) : Blk w' b cs t := h b _ _ _ hb he
theorem Only.mono {Ts Us : List TypeId} {w w' : World} (h : Only Ts w w') (hs : ∀ T ∈ Ts, T ∈ Us) : Only Us w w' := fun b a T fr hb hT => h b a T fr hb (fun e => hT (hs T e))
theorem Only.pile {Ts : List TypeId} {w w' : World} (h : Only Ts w w') {ei lo : Nat} {vs : List Value} {css : List (List Value)} (ho : Pile ei lo w vs css) (he : ei ∉ Ts) : Pile ei lo w' vs css :=
  ⟨ho.len, fun i hi hi' => h.own (ho.row i hi hi') he, ho.far⟩

end Go.Proofs.YtpoleaekcjjedaaGreatDoor

namespace Go.Proofs.YtpoleaekcjjedaaGreatDoor
open Go Go.RowKit

/-- A slice of slices of texts. -/
def StrssAt (lo : Nat) (w : World) (v : Value) (xss : List (List ByteArray)) : Prop :=
  ∃ vs : List Value, vs.length = xss.length ∧ SliceK 1 encV lo w v vs ∧ ∀ i (h : i < vs.length) (h' : i < xss.length), SliceK 1 encS lo w vs[i] xss[i]
theorem StrssAt.below {lo : Nat} {w w' : World} {v : Value} {xss : List (List ByteArray)} (h : StrssAt lo w v xss) (hb : Below w.heap.size w w') : StrssAt lo w' v xss := by
  obtain ⟨vs, h1, h2, h3⟩ := h
  exact ⟨vs, h1, h2.below hb, fun i hi hi' => (h3 i hi hi').below hb⟩
def txts (xs : List ByteArray) : List Value := xs.map Value.string
/-- A slice of slices of texts of the call's own. -/
structure OwnStrss (lo : Nat) (w : World) (v : Value) (vs : List Value) (xss : List (List ByteArray)) : Prop where
  out : w.ownsRow lo 22 1 v vs.length vs
  rows : Pile 9 lo w vs (xss.map txts)
theorem OwnStrss.len {lo : Nat} {w : World} {v : Value} {vs : List Value} {xss : List (List ByteArray)} (h : OwnStrss lo w v vs xss) : vs.length = xss.length := by have := h.rows.len; simpa using this
theorem OwnStrss.none (lo : Nat) (w : World) : OwnStrss lo w (.slice none 0 0) [] [] := ⟨World.ownsRow_nil _ _ _ _, Pile.nil _ _ _⟩
theorem OwnStrss.below {lo : Nat} {w w' : World} {v : Value} {vs : List Value} {xss : List (List ByteArray)} (h : OwnStrss lo w v vs xss) (hb : Below w.heap.size w w') : OwnStrss lo w' v vs xss := ⟨owns_below h.out hb, h.rows.below hb⟩
theorem OwnStrss.lower {lo lo' : Nat} {w : World} {v : Value} {vs : List Value} {xss : List (List ByteArray)} (h : OwnStrss lo w v vs xss) (hl : lo' ≤ lo) : OwnStrss lo' w v vs xss := ⟨own_lower h.out hl, h.rows.lower hl⟩
theorem OwnStrss.turns {base lo hi : Nat} {w w' : World} {v : Value} {vs : List Value} {xss : List (List ByteArray)} (h : OwnStrss base w v vs xss) (ht : Turns lo hi w w') (hb : hi ≤ base) : OwnStrss base w' v vs xss :=
  ⟨owns_turns h.out ht (fun b e => .inr (Nat.le_trans hb (h.out.lt b e).1)), h.rows.turns ht hb⟩
theorem Only.strss {Ts : List TypeId} {w w' : World} (h : Only Ts w w') {lo : Nat} {v : Value} {vs : List Value} {xss : List (List ByteArray)} (ho : OwnStrss lo w v vs xss) (h1 : 22 ∉ Ts) (h2 : 9 ∉ Ts) : OwnStrss lo w' v vs xss :=
  ⟨h.own ho.out h1, h.pile ho.rows h2⟩
theorem OwnStrss.rowAt {lo : Nat} {w : World} {v : Value} {vs : List Value} {xss : List (List ByteArray)} (h : OwnStrss lo w v vs xss) (i : Nat) (hi : i < vs.length) (hi' : i < xss.length) : w.ownsRow lo 9 1 vs[i] xss[i].length (txts xss[i]) := by
  have := h.rows.row i hi (by simpa using hi')
  simpa [txts] using this
theorem OwnStrss.at {lo : Nat} {w : World} {v : Value} {vs : List Value} {xss : List (List ByteArray)} (h : OwnStrss lo w v vs xss) : StrssAt lo w v xss :=
  ⟨vs, h.len, SliceK.of_owns encV_len rfl (by rw [flat_encV]; exact h.out), fun i hi hi' => SliceK.of_owns (e := 9) encS_len rfl (by rw [flat_encS]; exact h.rowAt i hi hi')⟩

/-- A list of texts of the call's own. -/
def OwnStrs (lo : Nat) (w : World) (v : Value) (xs : List ByteArray) : Prop := w.ownsRow lo 9 1 v xs.length (txts xs)
theorem OwnStrs.below {lo : Nat} {w w' : World} {v : Value} {xs : List ByteArray} (h : OwnStrs lo w v xs) (hb : Below w.heap.size w w') : OwnStrs lo w' v xs := owns_below h hb
theorem OwnStrs.lower {lo lo' : Nat} {w : World} {v : Value} {xs : List ByteArray} (h : OwnStrs lo w v xs) (hl : lo' ≤ lo) : OwnStrs lo' w v xs := own_lower h hl
theorem OwnStrs.turns {base lo hi : Nat} {w w' : World} {v : Value} {xs : List ByteArray} (h : OwnStrs base w v xs) (ht : Turns lo hi w w') (hb : hi ≤ base) : OwnStrs base w' v xs := owns_turns h ht (fun b e => .inr (Nat.le_trans hb (World.ownsRow.lt h b e).1))
theorem OwnStrs.at {lo : Nat} {w : World} {v : Value} {xs : List ByteArray} (h : OwnStrs lo w v xs) : SliceK 1 encS lo w v xs := SliceK.of_owns (e := 9) encS_len rfl (by rw [flat_encS]; exact h)
theorem Only.strs {Ts : List TypeId} {w w' : World} (h : Only Ts w w') {lo : Nat} {v : Value} {xs : List ByteArray} (ho : OwnStrs lo w v xs) (h2 : 9 ∉ Ts) : OwnStrs lo w' v xs := h.own ho h2

theorem txts_len (xs : List ByteArray) : (txts xs).length = xs.length := by simp [txts]
def totalS : List (List ByteArray) → Nat
  | [] => 0
  | xs :: r => xs.length + totalS r
theorem totalS_append (a b : List (List ByteArray)) : totalS (a ++ b) = totalS a + totalS b := by
  induction a with
  | nil => simp [totalS]
  | cons x r ih => simp [totalS, ih]; omega
theorem totalS_take (xss : List (List ByteArray)) (j : Nat) (h : j < xss.length) : totalS (xss.take (j + 1)) = totalS (xss.take j) + xss[j].length := by
  rw [List.take_succ_eq_append_getElem h, totalS_append]; simp [totalS]
theorem totalS_take_le (xss : List (List ByteArray)) (j : Nat) : totalS (xss.take j) ≤ totalS xss := by
  conv => rhs; rw [← List.take_append_drop j xss, totalS_append]
  omega
theorem totalS_few {n : Nat} : ∀ {l : List (List ByteArray)}, (∀ r ∈ l, r.length ≤ n) → totalS l ≤ n * l.length
  | [], _ => by simp [totalS]
  | a :: l, h => by
    have h1 := h a (by simp)
    have h2 := totalS_few (l := l) (fun r hr => h r (List.mem_cons_of_mem _ hr))
    simp only [totalS, List.length_cons, Nat.mul_add, Nat.mul_one]
    omega

end Go.Proofs.YtpoleaekcjjedaaGreatDoor

namespace Go.Proofs.YtpoleaekcjjedaaGreatDoor
open Go Go.RowKit

def encN (p : TNode × Value) : List Value := [.int .i64 p.1.at_, .int .i64 0, p.2]
theorem encN_len (p : TNode × Value) : (encN p).length = 3 := rfl
/-- The traces found, in a slice of the call's own, each trace in a row of its own. -/
structure OwnAll (B : Nat) (w : World) (v : Value) (ns : List (TNode × Value)) : Prop where
  all : w.ownsRow B 200 3 v ns.length (ns.flatMap encN)
  rows : Pile 9 B w (ns.map Prod.snd) (ns.map fun p => txts p.1.tr)
theorem OwnAll.below {B : Nat} {w w' : World} {v : Value} {ns : List (TNode × Value)} (h : OwnAll B w v ns) (hb : Below w.heap.size w w') : OwnAll B w' v ns := ⟨owns_below h.all hb, h.rows.below hb⟩
theorem OwnAll.row {B : Nat} {w : World} {v : Value} {ns : List (TNode × Value)} (h : OwnAll B w v ns) {i : Nat} (hi : i < ns.length) : w.ownsRow B 9 1 ns[i].2 ns[i].1.tr.length (txts ns[i].1.tr) := by
  have := h.rows.row i (by simpa using hi) (by simpa using hi)
  simpa [txts_len] using this
theorem OwnAll.cells {B : Nat} {w : World} {v : Value} {ns : List (TNode × Value)} (h : OwnAll B w v ns) {i : Nat} (hi : i < ns.length) :
    ∃ b c, v = .slice (some ⟨b, 0, none⟩) ns.length c ∧ B ≤ b ∧ b < w.heap.size ∧ w.cell? ⟨b, i * 3, none⟩ = some (.int .i64 ns[i].1.at_) ∧ w.cell? ⟨b, i * 3 + 1, none⟩ = some (.int .i64 0) ∧ w.cell? ⟨b, i * 3 + 2, none⟩ = some ns[i].2 := by
  have hs : SliceK 3 encN B w v ns := SliceK.of_owns encN_len rfl h.all
  obtain ⟨a, c, rfl, -, -, hrow⟩ := hs
  rcases hrow with h0 | ⟨b, o, rfl, h1, h2, h3⟩
  · omega
  · obtain ⟨rfl, -⟩ : o = 0 ∧ B ≤ b := by
      rcases h.all.2 with ⟨e, -⟩ | ⟨g, cap, cur, e, hg, -⟩
      · simp at e
      · simp only [Value.slice.injEq, Option.some.injEq, Addr.mk.injEq, and_true, true_and] at e
        exact ⟨e.1.2, h1⟩
    refine ⟨b, c, rfl, h1, h2, ?_, ?_, ?_⟩
    · have := h3 i hi 0 (by omega); simpa [encN] using this
    · have := h3 i hi 1 (by omega); simpa [encN] using this
    · have := h3 i hi 2 (by omega); simpa [encN] using this
/-- One trace more: its row lies behind all that was there, the slice was appended to. -/
theorem OwnAll.push {B GE : Nat} {w wA w6 : World} {v v' tv : Value} {ns : List (TNode × Value)} {p : TNode} (h : OwnAll B w v ns) (hGE : w.heap.size ≤ GE) (hB : B ≤ GE) (hb : Below w.heap.size w wA) (hr : wA.ownsRow GE 9 1 tv p.tr.length (txts p.tr))
    (hg : wA.grownBy w6 v.ownBlock) (ho : w6.ownsRow B 200 3 v' (ns.length + 1) (ns.flatMap encN ++ [.int .i64 p.at_, .int .i64 0, tv])) : OwnAll B w6 v' (ns ++ [(p, tv)]) := by
  refine ⟨?_, ?_⟩
  · rw [List.length_append, List.flatMap_append]
    simpa [encN] using ho
  · have h1 := h.rows.push hGE hb (by rw [txts_len]; exact hr) hB
    have h2 := h1.other (by decide) (owns_below h.all hb) hg
    simpa using h2

def RetTrc (t : Lts) (q : Int) (w : World) (e : Ending) (w' : World) : Prop :=
  Below w.heap.size w w' ∧ ∃ (xss : List (List ByteArray)) (code : Int) (v : Value) (vs : List Value), e = .returned (.tuple #[v, .int .i64 code]) ∧ TracesIs t q xss code ∧ OwnStrss w.heap.size w' v vs xss
theorem trc_none {t : Lts} {q code : Int} {w w' : World} (hb : Below w.heap.size w w') (h : TracesIs t q [] code) : RetTrc t q w (.returned (.tuple #[.slice none 0 0, .int .i64 code])) w' :=
  ⟨hb, [], code, _, [], rfl, h, OwnStrss.none _ _⟩
theorem TracesIs.few2 {t : Lts} {q code : Int} {xs : List (List ByteArray)} (h : TracesIs t q xs code) : totalS xs ≤ 2400 := by
  have h1 := h.few
  have h2 := totalS_few h1.2
  omega
end Go.Proofs.YtpoleaekcjjedaaGreatDoor

namespace Go.Proofs.YtpoleaekcjjedaaGreatDoor
open Go Go.RowKit

/-- The two lists of the net. -/
def DMem (B : Nat) (st : DNet) (vr ve : Value) (w : World) : Prop :=
  (∃ vs, OwnIntss 83 2 B w vr vs st.rows) ∧ w.ownsRow B 135 3 ve st.edges.length (st.edges.flatMap encE)
theorem DMem.below {B : Nat} {st : DNet} {vr ve : Value} {w w' : World} (h : DMem B st vr ve w) (hb : Below w.heap.size w w') : DMem B st vr ve w' := by
  obtain ⟨⟨vs, h1⟩, h2⟩ := h
  exact ⟨⟨vs, h1.below hb⟩, owns_below h2 hb⟩

theorem DMem.start {W : World} {B B2 : Nat} {rv : Value} {xs : List Int} (hB : B ≤ B2) (hB2 : B ≤ W.heap.size) (hr : W.ownsRow B2 2 1 rv xs.length (xs.map (Value.int .i64))) :
    DMem B ⟨[xs], []⟩ (.slice (some ⟨W.heap.size, 0, none⟩) 1 1) (.slice (some ⟨W.heap.size + 1, 0, none⟩) 0 0) ((W.alloc (.cells #[rv] 83)).alloc (.cells #[] 135)) := by
  have hlt := hr.lt
  obtain ⟨W2, hW2⟩ : ∃ W2, W2 = W.alloc (.cells #[rv] 83) := ⟨_, rfl⟩
  have hs2 : W2.heap.size = W.heap.size + 1 := by rw [hW2]; simp
  have r2 : W2.ownsRow B 83 1 (.slice (some ⟨W.heap.size, 0, none⟩) 1 1) 1 [rv] := by
    rw [hW2]; exact World.ownsRow_lit (size := 1) W #[rv] 1 hB2 (by decide) rfl
  have r1 : W2.ownsRow B 2 1 rv xs.length (xs.map (Value.int .i64)) := by
    rw [hW2]; exact own_lower (hr.alloc _) hB
  rw [← hW2, ← hs2]
  clear hW2
  refine ⟨⟨[rv], rfl, r2.alloc _, ?_, ?_, ?_⟩, World.ownsRow_lit (size := 3) W2 #[] 0 (by omega) (by decide) rfl⟩
  · intro i hi hi'
    obtain rfl : i = 0 := by simp at hi; omega
    simpa using r1.alloc _
  · intro i j hi hj hij
    simp at hi hj
    omega
  · intro i hi
    obtain rfl : i = 0 := by simp at hi; omega
    show rv.ownBlock = none ∨ rv.ownBlock ≠ some W.heap.size
    cases hb : rv.ownBlock with
    | none => exact .inl rfl
    | some b =>
      refine .inr fun e => ?_
      have := (hlt b hb).2
      have := Option.some.inj e
      omega

theorem DMem.push_row {B B2 : Nat} {st : DNet} {xs : List Int} {vr ve v' rv : Value} {wC wF w1 : World} {vs : List Value} (hr : OwnIntss 83 2 B wC vr vs st.rows) (he : wC.ownsRow B 135 3 ve st.edges.length (st.edges.flatMap encE))
    (hb : Below wC.heap.size wC wF) (hrow : wF.ownsRow B2 2 1 rv xs.length (xs.map (Value.int .i64))) (hB2 : wC.heap.size ≤ B2) (hB : B ≤ wC.heap.size) (hg : wF.grownBy w1 vr.ownBlock) (hv : w1.ownsRow B 83 1 v' (vs.length + 1) (vs ++ [rv])) :
    DMem B ⟨st.rows ++ [xs], st.edges⟩ v' ve w1 := by
  refine ⟨⟨vs ++ [rv], ?_⟩, ?_⟩
  · exact OwnIntss.push (B := B2) (xs := xs) (by decide) hr hB2 hb hrow (Nat.le_trans hB hB2) hg hv
  · exact (owns_below he hb).kept hg (own_types (owns_below he hb) (owns_below hr.2.1 hb) (by decide))

theorem DMem.push_edge {B : Nat} {st : DNet} {e : Edge} {vr ve v' : Value} {wE wF w1 : World} (h : DMem B st vr ve wE) (hb : Below wE.heap.size wE wF) (hg : wF.grownBy w1 ve.ownBlock)
    (hv : w1.ownsRow B 135 3 v' (st.edges.length + 1) (st.edges.flatMap encE ++ encE e)) : DMem B ⟨st.rows, st.edges ++ [e]⟩ vr v' w1 := by
  obtain ⟨⟨vs, h1⟩, h2⟩ := h.below hb
  refine ⟨⟨vs, h1.kept hg (own_types h1.2.1 h2 (by decide)) (fun i hi => ?_)⟩, ?_⟩
  · exact own_types (h1.2.2.1 i hi (by rw [← h1.1]; exact hi)) h2 (by decide)
  · simpa using hv

/-- One row as a slice. -/
theorem OwnIntss.rowAt {eo ei lo : Nat} {w : World} {v : Value} {vs : List Value} {rows : List (List Int)} (h : OwnIntss eo ei lo w v vs rows) {n : Nat} (hn : n < rows.length) :
    ∃ b c u, v = .slice (some ⟨b, 0, none⟩) rows.length c ∧ b < w.heap.size ∧ w.cell? ⟨b, n, none⟩ = some u ∧ w.ownsRow lo ei 1 u rows[n].length (rows[n].map (Value.int .i64)) ∧ SliceK 1 encI lo w u rows[n] := by
  obtain ⟨h1, h2, h3, -, -⟩ := h
  have hnv : n < vs.length := by omega
  have h4 := h3 n hnv hn
  rcases h2.2 with ⟨-, h⟩ | ⟨b, c, cur, rfl, -, hg, -⟩
  · omega
  · have hl := (Array.getElem?_eq_some_iff.1 hg).1
    have c1 := h2.cellAt n (by omega)
    rw [List.getElem?_eq_getElem hnv] at c1
    exact ⟨b, c, vs[n], by rw [h1], hl, c1, h4, SliceK.of_owns (enc := encI) encI_len rfl (by rw [flat_encI]; exact h4)⟩

end Go.Proofs.YtpoleaekcjjedaaGreatDoor

namespace Go.Proofs.YtpoleaekcjjedaaGreatDoor
open Go Go.RowKit

def isVal (n : Int) : Bool := decide (0 ≤ n) && decide (n ≤ 63)

theorem areValues1_any (n : Int) (w : World) : Calls Tryz.prog 366 #[.int .i64 n] w fun e w' => e = .returned (.bool (!isVal n)) ∧ w = w' := by
  go_enter Tryz.func366, Tryz.ntmps366
  go_wp2_with fail
  refine (isValue_any _ _).mono ?_
  rintro e w' ⟨rfl, rfl⟩
  have HF : Hid ((!decide (0 ≤ n) || !decide (n ≤ 63)) = !isVal n) := by unfold Hid isVal; rw [Bool.not_and]
  go_wp2_with fail
  go_ret
  exact ⟨ret_bool HF.out, rfl⟩

set_option maxHeartbeats 1000000 in
theorem IndexFunc_vals (lo : Nat) (v : Value) (xs : List Int) (w : World) (hv : SliceK 1 encI lo w v xs) :
    Calls Tryz.prog 130 #[v, .func (.func 366) #[] #[]] w fun e w' => ∃ r : Int, e = .returned (.int .i64 r) ∧ decide (0 ≤ r) = !xs.all isVal ∧ w = w' := by
  obtain ⟨a, c, rfl, hcn, hcc, hrow⟩ := hv
  go_enter Tryz.func130, Tryz.ntmps130
  go_wp2_with fail
  go_loop [8] (fun i => ∃ k : Nat, k ≤ xs.length ∧ i = .int .i64 k ∧ ∀ j (h : j < xs.length), j < k → isVal xs[j] = true) (fun i => xs.length - (intOf i).toNat)
  case atStart => exact ⟨0, Nat.zero_le _, rfl, fun _ _ h => by omega⟩
  case round =>
    obtain ⟨k, hk, rfl, ha⟩ := hrel
    have HA := Lib.hid ha
    clear ha
    by_cases hlt : k < xs.length
    · obtain ⟨b1, o1, rfl, -, hbs, c1⟩ := hrow.one hlt
      simp only [encI, List.getElem?_cons_zero] at c1
      clear hrow
      obtain ⟨b, hb⟩ : ∃ b, isVal xs[k] = b := ⟨_, rfl⟩
      have HB := Lib.hid hb
      clear hb
      go_wp2_with fail
      refine (areValues1_any _ _).mono ?_
      rintro e w' ⟨rfl, rfl⟩
      rw [HB.out]
      cases b
      · go_wp2_with fail
        go_ret
        refine ⟨_, rfl, ?_, rfl⟩
        have h1 : xs.all isVal = false := by
          rw [List.all_eq_false]
          exact ⟨xs[k], List.getElem_mem _, by rw [HB.out]; simp⟩
        rw [h1]; simp
      · go_wp2_with fail
        go_round
        case rel => exact ⟨k + 1, by omega, by go_num, fun j h hj => by
          by_cases e : j = k
          · subst e; exact HB.out
          · exact HA.out j h (by omega)⟩
        case measure => simp [intOf]; omega
    · clear hrow
      go_wp2_with fail
      go_ret
      refine ⟨_, rfl, ?_, rfl⟩
      have h1 : xs.all isVal = true := by
        rw [List.all_eq_true]
        intro x hxm
        obtain ⟨j, hj, rfl⟩ := List.mem_iff_getElem.1 hxm
        exact HA.out j hj (by omega)
      rw [h1]; simp

theorem ContainsFunc_vals (lo : Nat) (v : Value) (xs : List Int) (w : World) (hv : SliceK 1 encI lo w v xs) :
    Calls Tryz.prog 69 #[v, .func (.func 366) #[] #[]] w fun e w' => e = .returned (.bool (!xs.all isVal)) ∧ w = w' := by
  have HV := Lib.hid hv
  clear hv
  go_enter Tryz.func69, Tryz.ntmps69
  go_wp2_with fail
  refine (IndexFunc_vals lo v xs _ HV.out).mono ?_
  rintro e w' ⟨r, rfl, hr, rfl⟩
  have HR := Lib.hid hr
  clear hr
  go_wp2_with fail
  go_ret
  exact ⟨ret_bool HR.out, rfl⟩

theorem areValues_any (lo : Nat) (v : Value) (xs : List Int) (w : World) (hv : SliceK 1 encI lo w v xs) :
    Calls Tryz.prog 317 #[v] w fun e w' => e = .returned (.bool (xs.all isVal)) ∧ w = w' := by
  have HV := Lib.hid hv
  clear hv
  go_enter Tryz.func317, Tryz.ntmps317
  go_wp2_with fail
  refine (ContainsFunc_vals lo v xs _ HV.out).mono ?_
  rintro e w' ⟨rfl, rfl⟩
  go_wp2_with fail
  go_ret
  exact ⟨ret_bool (by simp), rfl⟩

end Go.Proofs.YtpoleaekcjjedaaGreatDoor

namespace Go.Proofs.YtpoleaekcjjedaaGreatDoor
open Go Go.RowKit

/-- Words read as numbers. -/
def decs (ss : List ByteArray) : List Int := ss.map fun s => (readDec s.data.toList).getD 0
def decsOk (ss : List ByteArray) : Bool := ss.all fun s => (readDec s.data.toList).isSome
def RetNums (ss : List ByteArray) (w : World) (e : Ending) (w' : World) : Prop :=
  ∃ v, e = .returned (.tuple #[v, .bool (decsOk ss)]) ∧ Below w.heap.size w w' ∧ (decsOk ss = true → w'.ownsRow w.heap.size 2 1 v (decs ss).length ((decs ss).map (Value.int .i64)))

theorem decsOk_none {ss : List ByteArray} {j : Nat} (h : j < ss.length) (hn : readDec ss[j].data.toList = none) : decsOk ss = false := by
  unfold decsOk
  rw [List.all_eq_false]
  exact ⟨ss[j], List.getElem_mem _, by rw [hn]; simp⟩

set_option maxRecDepth 100000 in
set_option maxHeartbeats 2000000 in
theorem readNumbers_any (lo : Nat) (v : Value) (ss : List ByteArray) (w : World) (hs : ∀ i (h : i < ss.length), ss[i].size ≤ 1073741824) (hl : ss.length ≤ 1073741824) (hv : SliceK 1 encS lo w v ss) (g : Glob w) :
    Calls Tryz.prog 261 #[v] w (RetNums ss w) := by
  obtain ⟨a, c, rfl, hcn, hcc, hrow⟩ := hv
  obtain ⟨i0, hi, hz0, hz1, hz2⟩ := info_parts info_int64
  have G := Lib.hid g
  have HSZ := Lib.hid hs
  clear g hs
  go_enter Tryz.func261, Tryz.ntmps261
  go_wp2_with fail
  go_loopw [4, 11] (fun v i wr => ∃ k : Nat, k ≤ ss.length ∧ i = .int .i64 k ∧ Below w.heap.size w wr ∧ wr.ownsRow w.heap.size 2 1 v k ((decs (ss.take k)).map (Value.int .i64)) ∧ ∀ q (h : q < ss.length), q < k → (readDec ss[q].data.toList).isSome = true) (fun _ i _ => ss.length - (intOf i).toNat)
  case atStart => exact ⟨0, Nat.zero_le _, rfl, Below.refl _ _, World.ownsRow_nil _ _ _ _, fun _ _ h => by omega⟩
  case round =>
    obtain ⟨k, hk, rfl, hb, ho, ha⟩ := hrel
    have HA := Lib.hid ha
    have HB := Lib.hid hb
    have HO := Lib.hid ho
    have hsz := hb.size
    clear ha hb ho
    by_cases hlt : k < ss.length
    · obtain ⟨b1, o1, rfl, -, hbs, c1⟩ := (hrow.below HB.out).one hlt
      simp only [encS, List.getElem?_cons_zero] at c1
      clear hrow
      obtain ⟨p, hp⟩ : ∃ p, p = ss[k] := ⟨_, rfl⟩
      rw [← hp] at c1
      have HP := Lib.hid hp
      have hpz : p.size ≤ 1073741824 := by rw [hp]; exact HSZ.out k hlt
      clear hp
      obtain ⟨o, hd⟩ : ∃ o, readDec p.data.toList = o := ⟨_, rfl⟩
      have HD := Lib.hid hd
      clear hd
      go_wp2_with fail
      refine (ReadDecimal_any _ _ hpz (G.out.below HB.out)).mono ?_
      rintro e w1 ⟨rfl, hb1⟩
      have HB1 := Lib.hid hb1
      have hs1 := hb1.size
      clear hb1
      rw [HD.out]
      cases o with
      | none =>
        simp only [Option.isSome_none, Option.getD_none]
        go_wp2_with fail
        go_ret2
        have hf : decsOk ss = false := decsOk_none hlt (by rw [← HP.out]; exact HD.out)
        exact ⟨.slice none 0 0, by rw [hf]; rfl, HB.out.trans (HB1.out.mono hsz), fun h => by rw [hf] at h; cases h⟩
      | some n =>
        simp only [Option.isSome_some, Option.getD_some]
        have HO1 := Lib.hid (owns_below HO.out HB1.out)
        have HBB := Lib.hid (HB.out.trans (HB1.out.mono hsz))
        clear c1
        go_wp2_with (at_builtin; refine wpList_append_own _ rfl _ _ 83 rfl w.heap.size 2 i0 (.int .i64 0) 1 8 Tryz.underlying83 hi hz0 hz1 hz2 rfl (by decide) _ _ _ rfl (HO1.out.alloc _) ⟨w1.heap.size, 0, none⟩ 1 1 [.int .i64 n] rfl rfl ?c1 ?c2 ?c3 ?c4 ?c5 ?_)
        case c1 => exact (cell_one_new _ _ _)
        case c2 => intro u hu; simp at hu; subst hu; rfl
        case c3 => simp [maxLen]; omega
        case c4 => omega
        case c5 => simp; omega
        intro v' w3 ho1 hg1 _
        have HO2 : Hid (w3.ownsRow w.heap.size 2 1 v' (k + 1) ((decs (ss.take (k + 1))).map (Value.int .i64))) := by
          have e : (decs (ss.take (k + 1))).map (Value.int .i64) = (decs (ss.take k)).map (Value.int .i64) ++ [.int .i64 n] := by
            unfold decs
            rw [List.take_succ_eq_append_getElem hlt, List.map_append, List.map_append, ← HP.out]
            simp [HD.out]
          unfold Hid
          rw [e]
          exact ho1
        have HBX : Hid (Below w.heap.size w w3) := (HBB.out.alloc (by omega) _).grown hg1 (by simp; omega) (fun b e => (HO1.out.lt b e).1)
        clear ho1 hg1
        go_wp2
        go_roundw
        case rel => exact ⟨k + 1, by omega, by go_num, HBX.out, HO2.out, fun q h h' => by
          by_cases e : q = k
          · subst e; rw [← HP.out, HD.out]; rfl
          · exact HA.out q h (by omega)⟩
        case measure => simp [intOf]; omega
    · obtain rfl : k = ss.length := by omega
      have HF : Hid (decsOk ss = true) := by
        unfold Hid decsOk
        rw [List.all_eq_true]
        intro x hx
        obtain ⟨q, hq, rfl⟩ := List.mem_iff_getElem.1 hx
        exact HA.out q hq hq
      have HO2 : Hid (wr.ownsRow w.heap.size 2 1 u4 (decs ss).length ((decs ss).map (Value.int .i64))) := by
        have := HO.out
        rw [List.take_length] at this
        unfold Hid
        rw [show (decs ss).length = ss.length from by simp [decs]]
        exact this
      clear hrow HO
      go_wp2_with fail
      go_ret2
      exact ⟨_, by rw [HF.out]; rfl, HB.out, fun _ => HO2.out⟩

end Go.Proofs.YtpoleaekcjjedaaGreatDoor

namespace Go.Proofs.YtpoleaekcjjedaaGreatDoor
open Go Go.RowKit

def wordsOf (xs : List Int) : List ByteArray := xs.map fun n => ⟨(Lib.itoa n).toArray⟩

set_option maxHeartbeats 1000000 in
theorem joined_any (v : Value) (sep : ByteArray) (lo : Nat) (xs : List Int) (w : World) (hn : xs.length ≤ 1048576) (hb : ∀ i (h : i < xs.length), -9223372036854775808 ≤ xs[i] ∧ xs[i] ≤ 9223372036854775807) (hv : SliceK 1 encI lo w v xs) (g : Glob w)
    (hlen : (Lib.join ((wordsOf xs).map (·.data.toList)) sep.data.toList).length ≤ 1073741824) :
    Calls Tryz.prog 150 #[v, .string sep] w fun e w' => e = .returned (.string ⟨(Lib.join ((wordsOf xs).map (·.data.toList)) sep.data.toList).toArray⟩) ∧ Below w.heap.size w w' := by
  obtain ⟨a, ca, rfl, hna, hca, ha⟩ := hv
  obtain ⟨i0, hi, hz0, hz1, hz2⟩ := info_parts info_str
  have HBD := Lib.hid hb
  have G := Lib.hid g
  have HLEN := Lib.hid hlen
  clear hb g hlen
  go_enter Tryz.func150, Tryz.ntmps150
  go_wp2_with (at_make; refine wpList_make_full _ rfl _ _ 22 rfl w.heap.size 9 i0 _ 1 Tryz.underlying22 hi hz0 hz1 .i64 .i64 _ _ xs.length rfl rfl rfl rfl ?_ ?_ ?_ ?_)
  · rw [hz2]; omega
  · simp [maxLen]; omega
  · exact Nat.le_refl _
  · intro w1 ho hg
    rw [toList_madeCells_one] at ho
    have hb1 : Below w.heap.size w w1 := (Below.refl _ w).grown hg (Nat.le_refl _) (fun _ h => by cases h)
    clear hi hz0 hz1 hz2 i0
    have HO := Lib.hid ho
    clear ho hg
    go_wp2_with fail
    have hwl : (wordsOf xs).length = xs.length := by simp [wordsOf]
    go_loopw [13] (fun i wr => ∃ k : Nat, k ≤ xs.length ∧ i = .int .i64 k ∧ Below w.heap.size w wr ∧ w.heap.size < wr.heap.size ∧ wr.ownsRow w.heap.size 9 1 (.slice (some ⟨w.heap.size, 0, none⟩) xs.length xs.length) xs.length (((wordsOf xs).take k).map .string ++ List.replicate ((wordsOf xs).length - k) (.string ⟨#[]⟩))) (fun i _ => xs.length - (intOf i).toNat)
    case atStart => exact ⟨0, Nat.zero_le _, rfl, hb1, (HO.out.lt _ rfl).2, by simpa [hwl] using HO.out⟩
    case round =>
      obtain ⟨k, hk, rfl, hbl, hsl, ho⟩ := hrel
      clear HO hb1
      have HBL := Lib.hid hbl
      have HO1 := Lib.hid ho
      have hsz := hbl.size
      clear ho hbl
      by_cases hlt : k < xs.length
      · obtain ⟨b1, o1, rfl, -, h1, c1⟩ := (ha.below HBL.out).one hlt
        simp only [encI, List.getElem?_cons_zero] at c1
        clear ha
        go_wp2_with fail
        refine (Decimal_any _ _ (HBD.out k hlt).1 (HBD.out k hlt).2 (G.out.below HBL.out)).mono ?_
        rintro e w2 ⟨rfl, hb2⟩
        have hlt' : k < (wordsOf xs).length := by omega
        have ho3 := owns_below HO1.out hb2
        have c2 := ho3.cellAt k (by omega)
        rw [filled_get _ _ _ _ hlt'] at c2
        have c3 := ho3.frozenAt k
        have ho2 := ho3.stored k (.string (wordsOf xs)[k])
        rw [filled_set _ _ _ _ hlt'] at ho2
        have hwk : (wordsOf xs)[k] = ⟨(Lib.itoa xs[k]).toArray⟩ := by simp [wordsOf]
        rw [hwk] at ho2
        have HO := Lib.hid ho2
        have HB2 := Lib.hid (HBL.out.trans (hb2.mono hsz))
        have hs2 := hb2.size
        clear ho2 ho3 hb2 HO1 HBL c1
        go_wp2
        go_roundw
        case rel => exact ⟨k + 1, by omega, by go_num, HB2.out.setCell (by exact Nat.le_refl _) _, by simp; omega, HO.out.1⟩
        case measure => simp [intOf]; omega
      · clear ha
        obtain rfl : k = xs.length := by omega
        have ho4 : wr.ownsRow w.heap.size 9 1 (.slice (some ⟨w.heap.size, 0, none⟩) (wordsOf xs).length (wordsOf xs).length) (wordsOf xs).length ((wordsOf xs).flatMap encS) := by
          have := HO1.out
          rw [flat_encS, hwl]
          rw [hwl, ← hwl, List.take_length, Nat.sub_self, List.replicate_zero, List.append_nil, hwl] at this
          exact this
        have HC : Hid (∀ (j : Nat) x, (wordsOf xs)[j]? = some x → wr.cell? ⟨w.heap.size, 0 + j, none⟩ = some (.string x)) := by
          intro j x hx
          obtain ⟨hj, rfl⟩ := List.getElem?_eq_some_iff.1 hx
          have := ho4.cellAt j (by omega)
          rw [Nat.zero_add, this, flat_encS]
          simp [hj]
        clear ho4
        have HJ := Tryz.strings_Join w.heap.size 0 xs.length (wordsOf xs) sep wr HC.out hsl (by omega) (by omega) (Nat.le_trans HLEN.out (by decide))
        rw [hwl] at HJ
        have HJJ := Lib.hid HJ
        clear HJ
        go_wp2_with fail
        refine Calls.mono HJJ.out ?_
        rintro e w2 ⟨rfl, hb2⟩
        have HB2 := Lib.hid (HBL.out.trans (hb2.mono hsz))
        clear hb2
        go_wp2_with fail
        go_ret
        exact ⟨rfl, HB2.out⟩

end Go.Proofs.YtpoleaekcjjedaaGreatDoor

namespace Go.Proofs.YtpoleaekcjjedaaGreatDoor
open Go Go.RowKit

def labB (name : List UInt8) (xs : List Int) : Bool := if name = tauL then xs.isEmpty else isAction name && decide (xs.length ≤ 2) && xs.all isVal
def labTxt (name : List UInt8) (xs : List Int) : List UInt8 := if xs.isEmpty then name else name ++ 40 :: (Lib.join ((wordsOf xs).map (·.data.toList)) [44] ++ [41])
def RetLab (name : List UInt8) (xs : List Int) (w : World) (e : Ending) (w' : World) : Prop :=
  ∃ t : ByteArray, e = .returned (.tuple #[.string t, .bool (labB name xs)]) ∧ Below w.heap.size w w' ∧ (labB name xs = true → t.data.toList = labTxt name xs)

theorem two_digits : ∀ n : Nat, n < 64 → (Lib.decDigits n).length ≤ 2 := by
  intro n hn
  rw [Lib.decDigits_length]
  by_cases h : n < 10
  · rw [Lib.nDigits_small h]; decide
  · rw [Lib.nDigits_big h, Lib.nDigits_small (by omega)]; decide
theorem itoa_short {n : Int} (h : isVal n = true) : (Lib.itoa n).length ≤ 2 := by
  unfold isVal at h
  simp at h
  unfold Lib.itoa
  rw [if_neg (by omega)]
  exact two_digits _ (by omega)
theorem join_short {xs : List Int} (h2 : xs.length ≤ 2) (h : xs.all isVal = true) : (Lib.join ((wordsOf xs).map (·.data.toList)) [44]).length ≤ 5 := by
  match xs, h2, h with
  | [], _, _ => simp [wordsOf, Lib.join]
  | [x], _, h =>
    have hx := itoa_short (List.all_eq_true.1 h x (by simp))
    simp [wordsOf, Lib.join_length, Lib.lens]; omega
  | [x, y], _, h =>
    have hx := itoa_short (List.all_eq_true.1 h x (by simp))
    have hy := itoa_short (List.all_eq_true.1 h y (by simp))
    simp [wordsOf, Lib.join_length, Lib.lens]; omega

set_option maxRecDepth 100000 in
set_option maxHeartbeats 1000000 in
theorem labelOf_any (v : Value) (s : ByteArray) (lo : Nat) (xs : List Int) (w : World) (hs : s.size ≤ 1073741824) (hn : xs.length ≤ 1073741824) (hv : SliceK 1 encI lo w v xs) (g : Glob w) :
    Calls Tryz.prog 264 #[.string s, v] w (RetLab s.data.toList xs w) := by
  have HV := Lib.hid hv
  obtain ⟨a, ca, rfl, -, -, -⟩ := hv
  by_cases ht : s.toList = tauL
  · have hb : Hid (labB s.data.toList xs = ((xs.length : Int) == 0)) := by
      unfold Hid labB
      rw [if_pos (by rw [← Lib.toList_data]; exact ht)]
      cases xs with
      | nil => rfl
      | cons x r =>
        have : (((x :: r).length : Int) == 0) = false := by rw [beq_eq_false_iff_ne]; simp; omega
        rw [this]; rfl
    have ht' : (s.toList == tauL) = true := by simpa using ht
    unfold tauL at ht ht'
    go_enter Tryz.func264, Tryz.ntmps264
    go_wp2_with fail
    go_ret2
    refine ⟨⟨#[116, 97, 117]⟩, by rw [hb.out]; rfl, Below.refl _ _, fun h => ?_⟩
    rw [hb.out] at h
    have h0 : xs = [] := List.eq_nil_of_length_eq_zero (by simpa using h)
    subst h0
    unfold labTxt
    have e : s.data.toList = [116, 97, 117] := by rw [← Lib.toList_data]; exact ht
    rw [e]
    rfl
  · have hnt : ¬ s.data.toList = tauL := by rw [← Lib.toList_data]; exact ht
    have ht' : (s.toList == tauL) = false := by simpa using ht
    have HL : Hid (labB s.data.toList xs = (isAction s.data.toList && decide (xs.length ≤ 2) && xs.all isVal)) := by unfold Hid labB; rw [if_neg hnt]
    unfold tauL at ht ht' hnt
    obtain ⟨b, hb⟩ : ∃ b, isAction s.data.toList = b := ⟨_, rfl⟩
    have HB := Lib.hid hb
    clear hb
    cases b
    · have HF : Hid (labB s.data.toList xs = false) := by unfold Hid; rw [HL.out, HB.out]; rfl
      go_enter Tryz.func264, Tryz.ntmps264
      go_wp2_with fail
      refine (IsAction_any _ _ hs).mono ?_
      rintro e w' ⟨rfl, rfl⟩
      rw [HB.out]
      go_wp2_with fail
      go_ret2
      exact ⟨⟨#[]⟩, by rw [HF.out]; rfl, Below.refl _ _, fun h => by rw [HF.out] at h; cases h⟩
    · by_cases h2 : 2 < (xs.length : Int)
      · have HF : Hid (labB s.data.toList xs = false) := by unfold Hid; rw [HL.out, decide_eq_false (by omega)]; simp
        go_enter Tryz.func264, Tryz.ntmps264
        go_wp2_with fail
        refine (IsAction_any _ _ hs).mono ?_
        rintro e w' ⟨rfl, rfl⟩
        rw [HB.out]
        go_wp2_with fail
        go_ret2
        exact ⟨⟨#[]⟩, by rw [HF.out]; rfl, Below.refl _ _, fun h => by rw [HF.out] at h; cases h⟩
      · cases hall : xs.all isVal
        · have HF : Hid (labB s.data.toList xs = false) := by unfold Hid; rw [HL.out, hall]; simp
          have HALL := Lib.hid hall
          clear hall
          go_enter Tryz.func264, Tryz.ntmps264
          go_wp2_with fail
          refine (IsAction_any _ _ hs).mono ?_
          rintro e w' ⟨rfl, rfl⟩
          rw [HB.out]
          go_wp2_with fail
          refine (areValues_any lo _ xs _ HV.out).mono ?_
          rintro e w' ⟨rfl, rfl⟩
          rw [HALL.out]
          go_wp2_with fail
          go_ret2
          exact ⟨⟨#[]⟩, by rw [HF.out]; rfl, Below.refl _ _, fun h => by rw [HF.out] at h; cases h⟩
        · have HF : Hid (labB s.data.toList xs = true) := by unfold Hid; rw [HL.out, hall, HB.out, decide_eq_true (by omega)]; rfl
          have HALL := Lib.hid hall
          clear hall
          by_cases h0 : xs.length = 0
          · have h0' : ((xs.length : Int) == 0) = true := by rw [beq_iff_eq]; omega
            have HT : Hid (labTxt s.data.toList xs = s.data.toList) := by unfold Hid labTxt; rw [if_pos (by rw [List.eq_nil_of_length_eq_zero h0]; rfl)]
            have HV0 : Hid (SliceK 1 encI lo w (.slice a 0 ca) xs) := by have := HV.out; rw [h0] at this; exact this
            go_enter Tryz.func264, Tryz.ntmps264
            go_wp2_with fail
            refine (IsAction_any _ _ hs).mono ?_
            rintro e w' ⟨rfl, rfl⟩
            rw [HB.out]
            go_wp2_with fail
            refine (areValues_any lo _ xs _ HV0.out).mono ?_
            rintro e w' ⟨rfl, rfl⟩
            rw [HALL.out]
            go_wp2_with fail
            go_ret2
            exact ⟨s, by rw [HF.out]; rfl, Below.refl _ _, fun _ => HT.out.symm⟩
          · have h0' : ((xs.length : Int) == 0) = false := by rw [beq_eq_false_iff_ne]; omega
            have HT : Hid (labTxt s.data.toList xs = s.data.toList ++ 40 :: (Lib.join ((wordsOf xs).map (·.data.toList)) [44] ++ [41])) := by
              unfold Hid labTxt; rw [if_neg (by rw [List.isEmpty_iff_length_eq_zero]; exact h0)]
            have HLEN : Hid ((Lib.join ((wordsOf xs).map (·.data.toList)) (⟨#[44]⟩ : ByteArray).data.toList).length ≤ 1073741824) := Nat.le_trans (join_short (by omega) HALL.out) (by decide)
            have HBD : Hid (∀ i (h : i < xs.length), -9223372036854775808 ≤ xs[i] ∧ xs[i] ≤ 9223372036854775807) := by
              intro i hi
              have := List.all_eq_true.1 HALL.out xs[i] (List.getElem_mem _)
              unfold isVal at this
              simp at this
              omega
            have hlen : (Lib.join (List.map (fun x => x.data.toList) (wordsOf xs)) [44]).length ≤ 1073741824 := HLEN.out
            have hq1 : ¬ 9223372036854775807 < s.size + 1 + (Lib.join (List.map (fun x => x.data.toList) (wordsOf xs)) [44]).length := by omega
            have hq2 : ¬ 9223372036854775807 < s.size + 1 + (Lib.join (List.map (fun x => x.data.toList) (wordsOf xs)) [44]).length + 1 := by omega
            clear hlen
            go_enter Tryz.func264, Tryz.ntmps264
            go_wp2_with fail
            refine (IsAction_any _ _ hs).mono ?_
            rintro e w' ⟨rfl, rfl⟩
            rw [HB.out]
            go_wp2_with fail
            refine (areValues_any lo _ xs _ HV.out).mono ?_
            rintro e w' ⟨rfl, rfl⟩
            rw [HALL.out]
            go_wp2_with fail
            refine (joined_any _ ⟨#[44]⟩ lo xs _ (by omega) HBD.out HV.out g HLEN.out).mono ?_
            rintro e w2 ⟨rfl, hb2⟩
            have HB2 := Lib.hid hb2
            clear hb2
            go_wp2_with fail
            go_ret2
            refine ⟨_, by rw [HF.out]; rfl, HB2.out, fun _ => ?_⟩
            rw [HT.out]
            simp

end Go.Proofs.YtpoleaekcjjedaaGreatDoor
