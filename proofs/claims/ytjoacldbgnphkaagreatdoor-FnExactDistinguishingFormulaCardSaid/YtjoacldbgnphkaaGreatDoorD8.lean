/-
  What the reference's l14Tell goes through, plainly: the first edge that is not met, the formulas of the ends under its label.
  A pile of rows of the call's own, no two in one block; a slice of such rows.
  Marks in nodes of the call's own, and that they still stand.
  A slice of slices of one-celled elements, all in memory of the call's own: a row more, a row that grows.
  The program's teller in memory: its system, its rounds, the formulas that it knows.
  The reference's l02Norm: numbers by first sight.
-/
import Derived.Test.YtjoacldbgnphkaaGreatDoorD7
import Derived.Test.YtjoacldbgnphkaaGreatDoorD1
import Derived.Test.YtjoacldbgnphkaaGreatDoorD3
import Derived.Maps.AppendAt
namespace Go.Proofs.YtjoacldbgnphkaaGreatDoor
open Go Go.RowKit


/-- An edge from a that no edge from b meets. -/
def loneB (t : Lts) (p : List Int) (a b : Int) (e : Edge) : Bool := e.src == a && !metB t p e b
def NoneL (t : Lts) (p : List Int) (a b : Int) (i : Nat) : Prop := ∀ j (h : j < t.edges.length), j < i → loneB t p a b t.edges[j] = false
def FirstL (t : Lts) (p : List Int) (a b : Int) (n : Nat) : Prop := ∃ h : n < t.edges.length, loneB t p a b t.edges[n] = true ∧ NoneL t p a b n
theorem lone_edges (t : Lts) (p : List Int) (a b : Int) : loneE t p a b = t.edges.find? (loneB t p a b) := by
 unfold loneE outOf
 rw [List.find?_filter]
 congr 1
 funext e
 unfold loneB
 cases e.src == a <;> cases metB t p e b <;> rfl
theorem NoneL.all {t : Lts} {p : List Int} {a b : Int} (h : NoneL t p a b t.edges.length) : loneE t p a b = none := by
 rw [lone_edges, List.find?_eq_none]
 intro e he
 obtain ⟨i, hi, rfl⟩ := List.mem_iff_getElem.1 he
 rw [h i hi hi]
 simp
theorem FirstL.lone {t : Lts} {p : List Int} {a b : Int} {n : Nat} (h : FirstL t p a b n) : ∃ hn : n < t.edges.length, loneE t p a b = some t.edges[n] := by
 obtain ⟨hn, h1, h2⟩ := h
 refine ⟨hn, ?_⟩
 rw [lone_edges, List.find?_eq_some_iff_getElem]
 exact ⟨h1, n, hn, rfl, fun j hj => by rw [h2 j (by omega) hj]; rfl⟩
theorem NoneL.succ {t : Lts} {p : List Int} {a b : Int} {i : Nat} (h : NoneL t p a b i) (hi : i < t.edges.length) (h1 : loneB t p a b t.edges[i] = false) : NoneL t p a b (i + 1) := fun j hj hlt => by
 rcases Nat.lt_succ_iff_lt_or_eq.1 hlt with h2 | h2
 ·exact h j hj h2
 ·subst h2
  exact h1
/-- The formulas of the ends among the first i edges. -/
def fsK (t : Lts) (oth lab : Int) (fn : Int → List Nd) (i : Nat) : List (List Nd) := ((t.edges.take i).filter fun o => o.src == oth && o.lab == lab).map fun o => fn o.dst
theorem fsK_zero (t : Lts) (oth lab : Int) (fn : Int → List Nd) : fsK t oth lab fn 0 = [] := by simp [fsK]
theorem fsK_miss {t : Lts} {oth lab : Int} {fn : Int → List Nd} {i : Nat} (hi : i < t.edges.length) (h : (t.edges[i].src == oth && t.edges[i].lab == lab) = false) : fsK t oth lab fn (i + 1) = fsK t oth lab fn i := by
 unfold fsK
 rw [List.take_succ_eq_append_getElem hi, List.filter_append]
 simp [h]
theorem fsK_hit {t : Lts} {oth lab : Int} {fn : Int → List Nd} {i : Nat} (hi : i < t.edges.length) (h : (t.edges[i].src == oth && t.edges[i].lab == lab) = true) : fsK t oth lab fn (i + 1) = fsK t oth lab fn i ++ [fn t.edges[i].dst] := by
 unfold fsK
 rw [List.take_succ_eq_append_getElem hi, List.filter_append, List.map_append]
 simp [h]
theorem fsK_all (t : Lts) (oth lab : Int) (fn : Int → List Nd) : fsK t oth lab fn t.edges.length = (endsG t oth lab).map fn := by
 unfold fsK endsG outOf
 rw [List.take_length, List.filter_filter, List.map_map]
 congr 1
 refine List.filter_congr fun o _ => ?_
 rw [Bool.and_comm]
theorem fsK_len (t : Lts) (oth lab : Int) (fn : Int → List Nd) (i : Nat) : (fsK t oth lab fn i).length ≤ i := by
 unfold fsK
 rw [List.length_map]
 refine Nat.le_trans (List.length_filter_le _ _) ?_
 rw [List.length_take]
 omega
theorem fsK_sub {t : Lts} {oth lab : Int} {fn : Int → List Nd} {i : Nat} {f : List Nd} (h : f ∈ fsK t oth lab fn i) : f ∈ (endsG t oth lab).map fn := by
 rw [← fsK_all]
 unfold fsK at *
 obtain ⟨o, ho, rfl⟩ := List.mem_map.1 h
 rw [List.mem_filter] at ho
 refine List.mem_map.2 ⟨o, List.mem_filter.2 ⟨?_, ho.2⟩, rfl⟩
 rw [List.take_length]
 exact List.mem_of_mem_take ho.1
theorem diffL_len : ∀ (fs : List (List Nd)), (diffL fs).length ≤ fs.length := by
 have h : ∀ (m acc : List (List Nd)), (m.foldl (fun acc f => if f ∈ acc then acc else acc ++ [f]) acc).length ≤ acc.length + m.length := by
  intro m
  induction m with
  | nil => intro acc; simp
  | cons y m ih =>
   intro acc
   rw [List.foldl_cons, List.length_cons]
   refine Nat.le_trans (ih _) ?_
   by_cases h : y ∈ acc
   ·rw [if_pos h]; omega
   ·rw [if_neg h, List.length_append, List.length_singleton]; omega
 intro fs
 have := h fs []
 unfold diffL
 simpa using this

theorem place_inj {S a b x y : Nat} (hb : b < S) (hy : y < S) (h : a * S + b = x * S + y) : a = x ∧ b = y := by
 rcases Nat.lt_trichotomy a x with k | k | k
 ·have := Nat.mul_le_mul_right S (Nat.succ_le_of_lt k)
  rw [Nat.succ_mul] at this
  omega
 ·subst k
  exact ⟨rfl, by omega⟩
 ·have := Nat.mul_le_mul_right S (Nat.succ_le_of_lt k)
  rw [Nat.succ_mul] at this
  omega
theorem place_ltM {S x y : Nat} (hx : x < S) (hy : y < S) : x * S + y < S * S := by
 have := Nat.mul_le_mul_right S (Nat.succ_le_of_lt hx)
 rw [Nat.succ_mul] at this
 omega
/-- The elements of a slice, cell by cell. -/
theorem flat_cells {α : Type} {k : Nat} {enc : α → List Value} (hk : ∀ x, (enc x).length = k) {w : World} {b : Nat} : ∀ (xs : List α) (off : Nat), (∀ i (h : i < xs.length) j, j < k → w.cell? ⟨b, off + i * k + j, none⟩ = (enc xs[i])[j]?) → ∀ j u, (xs.flatMap enc)[j]? = some u → w.cell? ((⟨b, off, none⟩ : Addr).add j) = some u
 | [], _, _, j, u, hu => by simp at hu
 | x :: xs, off, h, j, u, hu => by
  rw [List.flatMap_cons] at hu
  by_cases hj : j < k
  ·rw [List.getElem?_append_left (by rw [hk]; exact hj)] at hu
   have h1 := h 0 (by simp) j hj
   rw [Nat.zero_mul, Nat.add_zero] at h1
   rw [Addr.add_lit]
   exact h1.trans hu
  ·rw [List.getElem?_append_right (by rw [hk]; omega), hk] at hu
   have h2 := flat_cells hk xs (off + k) (fun i hi j hj => by
    have h1 := h (i + 1) (by simpa using hi) j hj
    rw [show off + k + i * k + j = off + (i + 1) * k + j from by rw [Nat.succ_mul]; omega]
    exact h1) (j - k) u hu
   have e : (⟨b, off + k, none⟩ : Addr).add (j - k) = (⟨b, off, none⟩ : Addr).add j := by
    rw [Addr.add_lit, Addr.add_lit, show off + k + (j - k) = off + j from by omega]
   rw [← e]
   exact h2
theorem flatN_len : ∀ (f : List Nd), (f.flatMap encN).length = f.length * 4
 | [] => rfl
 | x :: f => by rw [List.flatMap_cons, List.length_append, flatN_len f, List.length_cons]; simp [encN]; omega
theorem flatN_one : ∀ (f : List Nd), ∀ u ∈ f.flatMap encN, u.oneCell' = true := fun f u hu => by
 obtain ⟨n, -, h⟩ := List.mem_flatMap.1 hu
 simp only [encN, List.mem_cons, List.not_mem_nil, or_false] at h
 rcases h with rfl | rfl | rfl | rfl <;> rfl
/-- A formula that lies in memory, as what an append takes. -/
theorem form_cells {lo : Nat} {w : World} {v : Value} {f : List Nd} (h : SliceK 4 encN lo w v f) (hp : f ≠ []) : ∃ b o c, v = .slice (some ⟨b, o, none⟩) f.length c ∧ lo ≤ b ∧ b < w.heap.size ∧ ∀ j u, (f.flatMap encN)[j]? = some u → w.cell? ((⟨b, o, none⟩ : Addr).add j) = some u := by
 obtain ⟨a, c, rfl, -, -, h0 | ⟨b, o, rfl, h1, h2, h3⟩⟩ := h
 ·exact absurd (List.length_eq_zero_iff.1 h0) hp
 ·exact ⟨b, o, c, rfl, h1, h2, flat_cells encN_len f o h3⟩

/-- Headers of rows that read as formulas. -/
def RowsR (w : World) (hs : List Value) (L : List (List Nd)) : Prop := hs.length = L.length ∧ ∀ (i : Nat) (h : i < hs.length) (h' : i < L.length), SliceK 4 encN 0 w hs[i] L[i]
theorem RowsR.nil (w : World) : RowsR w [] [] := ⟨rfl, fun _ h => absurd h (Nat.not_lt_zero _)⟩
theorem RowsR.snoc {w : World} {hs : List Value} {L : List (List Nd)} (h : RowsR w hs L) {v : Value} {f : List Nd} (hv : SliceK 4 encN 0 w v f) : RowsR w (hs ++ [v]) (L ++ [f]) := by
 refine ⟨by simp [h.1], fun i hi hi' => ?_⟩
 by_cases hlt : i < hs.length
 ·rw [List.getElem_append_left hlt]
  simp only [List.getElem_append_left (show i < L.length by have := h.1; omega)]
  exact h.2 i hlt _
 ·have e : i = hs.length := by simp at hi; omega
  subst e
  have e1 : (L ++ [f])[hs.length] = f := by simp [h.1]
  rw [e1]
  simpa using hv
/-- The table of the formulas, as far as pairs part in the first d rounds. -/
def TabR (w : World) (tv : Value) (S : Nat) (t : Lts) (d : Nat) : Prop :=
 ∃ (ta : Nat) (tc : Nat) (hs : List Value), tv = .slice (some ⟨ta, 0, none⟩) (S * S) tc ∧ ta < w.heap.size ∧ hs.length = S * S ∧ (∀ k (h : k < hs.length), w.cell? ⟨ta, k, none⟩ = some hs[k]) ∧
  ∀ (x y : Nat) (_ : x < S) (_ : y < S) (h : x * S + y < hs.length), 0 < sepR t x y → sepR t x y ≤ d → SliceK 4 encN 0 w hs[x * S + y] (tellT t x y)
theorem TabR.at {w : World} {ta SS tc S d : Nat} {t : Lts} (h : TabR w (.slice (some ⟨ta, 0, none⟩) SS tc) S t d) (hS : S ≤ 40) {x y : Int} (hx : 0 ≤ x ∧ x < S) (hy : 0 ≤ y ∧ y < S) (h0 : 0 < sepR t x y) (h1 : sepR t x y ≤ d) :
  ∃ (xn yn P : Nat) (v : Value), (xn : Int) = x ∧ (yn : Int) = y ∧ xn < S ∧ yn < S ∧ (xn : Int) * (S : Int) = (P : Int) ∧ P ≤ 1600 ∧ P + yn < SS ∧ ta < w.heap.size ∧ w.cell? ⟨ta, P + yn, none⟩ = some v ∧ SliceK 4 encN 0 w v (tellT t x y) := by
 obtain ⟨ta', tc', hs, he, hlt, hlen, hcell, hrow⟩ := h
 simp only [Value.slice.injEq, Option.some.injEq, Addr.mk.injEq, and_true] at he
 obtain ⟨rfl, rfl, rfl⟩ := he
 obtain ⟨xn, rfl⟩ : ∃ xn : Nat, (xn : Int) = x := ⟨x.toNat, by omega⟩
 obtain ⟨yn, rfl⟩ : ∃ yn : Nat, (yn : Int) = y := ⟨y.toNat, by omega⟩
 have hx2 : xn < S := by omega
 have hy2 : yn < S := by omega
 have hp := place_ltM hx2 hy2
 have hl : xn * S + yn < hs.length := by omega
 exact ⟨xn, yn, xn * S, hs[xn * S + yn], rfl, rfl, hx2, hy2, by simp, Nat.le_trans (Nat.mul_le_mul (show xn ≤ 40 by omega) hS) (by decide), hp, hlt, hcell _ hl, hrow xn yn hx2 hy2 hl h0 h1⟩
theorem sumN_le : ∀ {D : List (List Nd)}, (∀ f ∈ D, f.length ≤ 200) → sumN D ≤ 201 * D.length
 | [], _ => by simp [sumN]
 | f :: D, h => by
  have h1 := h f (List.mem_cons_self ..)
  have h2 := sumN_le (D := D) fun x hx => h x (List.mem_cons_of_mem _ hx)
  unfold sumN at *
  simp only [List.map_cons, List.sum_cons, List.length_cons]
  omega
/-- A source of cells, later. -/
theorem news_below {B b o : Nat} {w w' : World} {us : List Value} (hb : b < B) (h : ∀ j u, us[j]? = some u → w.cell? ((⟨b, o, none⟩ : Addr).add j) = some u) (hw : Below B w w') : ∀ j u, us[j]? = some u → w'.cell? ((⟨b, o, none⟩ : Addr).add j) = some u :=
 fun j u hu => by
  have h1 := h j u hu
  rw [Addr.add_lit] at h1 ⊢
  exact keeps hw hb h1
theorem Blk.keptM {w w' : World} {b : Nat} {cs : List Value} {t : TypeId} {row : Option Nat} (h : Blk w b cs t) (hg : w.grownBy w' row) (hne : row ≠ some b) : Blk w' b cs t := (hg.block b h.lt (fun e => hne e.symm)).trans h
theorem own_farM {w : World} {base e size n : Nat} {v : Value} {xs : List Value} (h : w.ownsRow base e size v n xs) {b : Nat} {cs : List Value} {t : TypeId} (hb : Blk w b cs t) (he : e ≠ t) : v.ownBlock ≠ some b := by
 rcases h.2 with ⟨rfl, -⟩ | ⟨g, c, u, rfl, -, hg, -⟩
 ·simp [Value.ownBlock]
 ·intro e1
  simp only [Value.ownBlock, Option.some.injEq] at e1
  subst e1
  unfold Blk at hb
  rw [hb] at hg
  simp only [Option.some.injEq, Obj.cells.injEq] at hg
  exact he hg.2.1.symm
theorem mem_takeM {D : List (List Nd)} {F : List Nd} {m : Nat} (h : m < D.length) : decide (F ∈ D.take (m + 1)) = (decide (F ∈ D.take m) || decide (D[m] = F)) := by
 rw [List.take_succ_eq_append_getElem h, Bool.eq_iff_iff, Bool.or_eq_true, decide_eq_true_iff, decide_eq_true_iff, decide_eq_true_iff, List.mem_append, List.mem_singleton]
 exact ⟨fun h => h.elim .inl fun e => .inr e.symm, fun h => h.elim .inl fun e => .inr e.symm⟩
/-- The formula up to part j. -/
def joinT (kind : Int) (D : List (List Nd)) (j : Nat) : List Nd := if j < D.length then joinP kind (D.take j) else joinD kind D
theorem joinT_zero {kind : Int} {D : List (List Nd)} (h : 0 < D.length) : joinT kind D 0 = [] := by
 unfold joinT
 rw [if_pos h, List.take_zero]
 rfl
theorem joinT_mid {kind : Int} {D : List (List Nd)} {j : Nat} (h : j + 1 < D.length) : joinT kind D (j + 1) = joinT kind D j ++ [⟨kind, ByteArray.empty⟩] ++ D[j] := by
 unfold joinT
 rw [if_pos h, if_pos (by omega), List.take_succ_eq_append_getElem (by omega), joinP_snoc, List.append_assoc]
 rfl
theorem joinT_last {kind : Int} {D : List (List Nd)} {j : Nat} (hj : j < D.length) (h : j + 1 = D.length) : joinT kind D (j + 1) = joinT kind D j ++ D[j] := by
 unfold joinT
 rw [if_neg (by omega), if_pos hj, ← joinD_snoc]
 congr 1
 rw [← List.take_succ_eq_append_getElem hj, List.take_of_length_le (by omega)]
theorem joinT_all {kind : Int} {D : List (List Nd)} : joinT kind D D.length = joinD kind D := by unfold joinT; rw [if_neg (by omega)]
theorem sumN_take (D : List (List Nd)) (j : Nat) : sumN (D.take j) ≤ sumN D := by
 have h : sumN D = sumN (D.take j) + sumN (D.drop j) := by
  unfold sumN
  rw [← List.sum_append, ← List.map_append, List.take_append_drop]
 omega
theorem joinT_len (kind : Int) (D : List (List Nd)) (j : Nat) : (joinT kind D j).length ≤ sumN D := by
 unfold joinT
 by_cases h : j < D.length
 ·rw [if_pos h, joinP_len]
  exact sumN_take D j
 ·rw [if_neg h]
  by_cases h0 : D = []
  ·subst h0; simp [joinD]
  ·have := joinD_len kind h0
   omega
theorem joinT_len2 {kind : Int} {D : List (List Nd)} {j : Nat} (h : j < D.length) : (joinT kind D j).length + D[j].length + 1 ≤ sumN D := by
 unfold joinT
 rw [if_pos h, joinP_len]
 have h1 := sumN_take D (j + 1)
 rw [List.take_succ_eq_append_getElem h, sumN_snoc] at h1
 omega
/-- A formula of the call's own. -/
def FormO (base : Nat) (w : World) (v : Value) (f : List Nd) : Prop := w.ownsRow base 55 4 v f.length (f.flatMap encN)
theorem FormO.at {base : Nat} {w : World} {v : Value} {f : List Nd} (h : FormO base w v f) : SliceK 4 encN base w v f := SliceK.of_owns (e := 55) encN_len rfl h

end Go.Proofs.YtjoacldbgnphkaaGreatDoor

namespace Go.Proofs.YtjoacldbgnphkaaGreatDoor
open Go Go.RowKit

theorem own_type_far {w : World} {base e size n b : Nat} {v : Value} {xs : List Value} (ho : w.ownsRow base e size v n xs) {a : Array Value} {t : TypeId} {fr : Nat × Nat} (hb : w.heap[b]? = some (.cells a t fr)) (he : e ≠ t) : v.ownBlock = none ∨ v.ownBlock ≠ some b := by
 rcases ho.2 with ⟨rfl, -⟩ | ⟨g, c, u, rfl, -, hg, -⟩
 ·exact .inl rfl
 ·refine .inr fun e2 => ?_
  simp only [Value.ownBlock, Option.some.injEq] at e2
  subst e2
  rw [hg] at hb
  simp only [Option.some.injEq, Obj.cells.injEq] at hb
  exact he hb.2.1
/-- Blocks of types other than these are as they were. -/
def Only (Ts : List TypeId) (w w' : World) : Prop := ∀ (b : Nat) (a : Array Value) (T : TypeId) (fr : Nat × Nat), w.heap[b]? = some (.cells a T fr) → T ∉ Ts → w'.heap[b]? = some (.cells a T fr)
theorem Only.refl (Ts : List TypeId) (w : World) : Only Ts w w := fun _ _ _ _ h _ => h
theorem Only.trans {Ts Us : List TypeId} {a b c : World} (h : Only Ts a b) (k : Only Us b c) : Only (Ts ++ Us) a c := fun x y T fr hx hT => by
 rw [List.mem_append] at hT
 exact k x y T fr (h x y T fr hx (fun e => hT (.inl e))) (fun e => hT (.inr e))
theorem Only.step {Ts : List TypeId} {a b c : World} (h : Only Ts a b) (k : Only Ts b c) : Only Ts a c := fun x y T fr hx hT => k x y T fr (h x y T fr hx hT) hT
theorem Only.below {w w' : World} (Ts : List TypeId) (hb : Below w.heap.size w w') : Only Ts w w' := fun b _ _ _ h _ => (hb.block b (Array.getElem?_eq_some_iff.1 h).1).trans h
theorem Only.grown {base e size n : Nat} {w w' : World} {v : Value} {xs : List Value} (ho : w.ownsRow base e size v n xs) (hg : w.grownBy w' v.ownBlock) : Only [e] w w' := fun b a T fr h hT => by
 refine (hg.block b (Array.getElem?_eq_some_iff.1 h).1 ?_).trans h
 intro e2
 rcases own_type_far ho h (fun e3 => hT (by rw [e3]; simp)) with h1 | h1
 ·rw [h1] at e2; cases e2
 ·exact h1 e2.symm
theorem Only.own {Ts : List TypeId} {w w' : World} (h : Only Ts w w') {base e size n : Nat} {v : Value} {xs : List Value} (ho : w.ownsRow base e size v n xs) (he : e ∉ Ts) : w'.ownsRow base e size v n xs := by
 refine ⟨ho.1, ?_⟩
 rcases ho.2 with hn | ⟨g, cap, cur, rfl, hb, hgg, rest⟩
 ·exact .inl hn
 ·exact .inr ⟨g, cap, cur, rfl, hb, h g _ _ _ hgg he, rest⟩
theorem Only.mono {Ts Us : List TypeId} {w w' : World} (h : Only Ts w w') (hs : ∀ T ∈ Ts, T ∈ Us) : Only Us w w' := fun b a T fr hb hT => h b a T fr hb (fun e => hT (hs T e))
end Go.Proofs.YtjoacldbgnphkaaGreatDoor

namespace Go.Proofs.YtjoacldbgnphkaaGreatDoor
open Go Go.RowKit


def OwnF (lo : Nat) (w : World) (v : Value) (fs : List Nf) : Prop := w.ownsRow lo 55 4 v fs.length (fs.flatMap encF)
theorem OwnF.below {lo : Nat} {w w' : World} {v : Value} {fs : List Nf} (h : OwnF lo w v fs) (hb : Below w.heap.size w w') : OwnF lo w' v fs := owns_below h hb
theorem OwnF.turns {base lo hi : Nat} {w w' : World} {v : Value} {fs : List Nf} (h : OwnF base w v fs) (ht : Turns lo hi w w') (hb : hi ≤ base) : OwnF base w' v fs := owns_turns h ht (fun b e => .inr (Nat.le_trans hb (World.ownsRow.lt h b e).1))
theorem FormO.below {lo : Nat} {w w' : World} {v : Value} {f : List Nd} (h : FormO lo w v f) (hb : Below w.heap.size w w') : FormO lo w' v f := owns_below h hb
theorem FormO.lower {lo lo' : Nat} {w : World} {v : Value} {f : List Nd} (h : FormO lo w v f) (hl : lo' ≤ lo) : FormO lo' w v f := own_lower h hl
theorem FormO.turns {base lo hi : Nat} {w w' : World} {v : Value} {f : List Nd} (h : FormO base w v f) (ht : Turns lo hi w w') (hb : hi ≤ base) : FormO base w' v f := owns_turns h ht (fun b e => .inr (Nat.le_trans hb (World.ownsRow.lt h b e).1))
theorem FormO.slice {base : Nat} {w : World} {v : Value} {f : List Nd} (h : FormO base w v f) : ∃ a c, v = .slice a f.length c := by
 obtain ⟨a, c, e, -, -⟩ := owns_slice h
 exact ⟨a, c, e⟩

set_option maxRecDepth 100000 in
set_option maxHeartbeats 1000000 in
theorem markNodeS_is (lo : Nat) (v : Value) (n : Nat) (cs : List Value) (k : Int) (w : World) (h1 : 0 ≤ k) (h2 : k + 4 * n ≤ 1000000000) (hv : w.ownsRow lo 55 4 v n cs) :
  Calls Tryz.prog 12 #[v, .int .i64 k] w (Marked w v (k + 4 * n) (fun w' => w'.ownsRow lo 55 4 v n ((mrkN k n).flatMap encF))) := by
 have HV := Lib.hid hv
 have hcl := hv.1
 rcases hv.2 with ⟨rfl, rfl⟩ | ⟨b, cap, cur, rfl, -, -, hcap, hm, -⟩
 ·clear hv
  have hcs : cs = [] := List.eq_nil_of_length_eq_zero (by omega)
  subst hcs
  go_enter Tryz.func12, Tryz.ntmps12
  go_wp2
  go_loop [1, 5] (fun q i => q = .int .i64 k ∧ i = .int .i64 0) (fun _ _ => 0)
  case atStart => exact ⟨rfl, rfl⟩
  case round =>
   obtain ⟨rfl, rfl⟩ := hrel
   go_wp2
   go_ret
   exact ⟨ret_int (by simp), grown_refl _ _, HV.out⟩
 ·clear hv
  have HCL := Lib.hid hcl
  clear hcl
  go_enter Tryz.func12, Tryz.ntmps12
  go_wp2
  go_loopw [1, 5] (fun q i wr => ∃ j : Nat, j ≤ n ∧ q = .int .i64 (k + 4 * j) ∧ i = .int .i64 j ∧ w.grownBy wr (some b) ∧ wr.ownsRow lo 55 4 (.slice (some ⟨b, 0, none⟩) n cap) n (markedN k cs j)) (fun _ i _ => n - (intOf i).toNat)
  case atStart => exact ⟨0, Nat.zero_le _, by simp, rfl, grown_refl _ _, by rw [markedN_zero]; exact HV.out⟩
  case round =>
   obtain ⟨j, hj, rfl, rfl, hg, ho⟩ := hrel
   have HG := Lib.hid hg
   clear hg HV
   by_cases hlt : j < n
   ·obtain ⟨xc0, c0⟩ := own_cell ho (j * 4) (by omega)
    have s0 := ho.stored (j * 4) (.int .i64 (k + 4 * j))
    obtain ⟨xc1, c1⟩ := own_cell ho (j * 4 + 1) (by omega)
    have s1 := s0.1.stored (j * 4 + 1) (.int .i64 (k + 4 * j + 1))
    have f0 := ho.frozenAt (j * 4)
    have f1 := ho.frozenAt (j * 4 + 1)
    have HS1 := Lib.hid s1.1
    have HG1 := Lib.hid (grown_trans (grown_trans HG.out s0.2) s1.2)
    clear ho s0 s1
    go_wp2_with fail
    refine (markText_is _ _ (by omega) (by omega)).mono ?_
    rintro e w1 ⟨rfl, hb⟩
    clear c0 c1 f0 f1
    have ho1 := owns_below HS1.out hb
    obtain ⟨xc2, c2⟩ := own_cell ho1 (j * 4 + 2) (by omega)
    obtain ⟨xc3, c3⟩ := own_cell ho1 (j * 4 + 3) (by omega)
    have f2 := ho1.frozenAt (j * 4 + 2)
    have f3 := ho1.frozenAt (j * 4 + 3)
    have s2 := ho1.stored (j * 4 + 2) (.string (mtxt (k + 4 * j + 1 + 1)))
    have s3 := s2.1.stored (j * 4 + 3) (.bool ((k + 4 * j + 1 + 1 + 1).tmod 3 == 0))
    rw [markedN_set k cs j (by have := HCL.out; omega), Int.tmod_eq_emod_of_nonneg (by omega)] at s3
    have HO := Lib.hid s3.1
    have HGG := Lib.hid (grown_trans (grown_trans (grown_trans HG1.out (grown_below hb (some b))) s2.2) s3.2)
    clear ho1 s2 s3 hb
    go_wp2
    go_roundw
    case rel => exact ⟨j + 1, by omega, by go_num, by go_num, HGG.out, HO.out⟩
    case measure => simp [intOf]; omega
   ·go_wp2
    go_ret
    obtain rfl : j = n := by omega
    refine ⟨rfl, HG.out, ?_⟩
    rw [markedN_all k cs j HCL.out] at ho
    exact ho

set_option maxRecDepth 100000 in
set_option maxHeartbeats 1000000 in
theorem heldNodeS_is (v : Value) (lo n : Nat) (k : Int) (w : World) (h1 : 0 ≤ k) (h2 : k + 4 * n ≤ 1000000000) (hv : SliceK 4 encF lo w v (mrkN k n)) :
  Calls Tryz.prog 13 #[v, .int .i64 k] w fun e w' => e = .returned (.int .i64 (k + 4 * n)) ∧ Below w.heap.size w w' := by
 obtain ⟨a, cap, rfl, hn, hcap, hr⟩ := hv
 have hl := mrkN_len k n
 rw [hl] at hn ⊢
 have HL := Lib.hid hl
 have HR := Lib.hid hr
 clear hl hr
 go_enter Tryz.func13, Tryz.ntmps13
 go_wp2
 go_loopw [1, 5] (fun q i wr => ∃ j : Nat, j ≤ n ∧ q = .int .i64 (k + 4 * j) ∧ i = .int .i64 j ∧ Below w.heap.size w wr) (fun _ i _ => n - (intOf i).toNat)
 case atStart => exact ⟨0, Nat.zero_le _, by simp, rfl, Below.refl _ _⟩
 case round =>
  obtain ⟨j, hj, rfl, rfl, hb⟩ := hrel
  have HB := Lib.hid hb
  by_cases hlt : j < n
  ·obtain ⟨b, off, rfl, -, hbl, c0, c1, c2, c3⟩ := (HR.out.below hb).node (i := j) (by rw [HL.out]; exact hlt)
   simp only [encF, List.getElem?_cons_zero, List.getElem?_cons_succ, mrkN, List.getElem_map, List.getElem_range] at c0 c1 c2 c3
   rw [Int.tmod_eq_emod_of_nonneg (by omega)] at c3
   have l2 := later_cell hbl c2
   have HM := Lib.hid (fun w' => markText_is (k + 4 * j + 1 + 1) w' (by omega) (by omega))
   clear hb
   go_wp2
   refine wp_region_later (by kernel_rfl) (by kernel_rfl) ?_
   repeat (go_big_quiet_step (((go_at_call 32; refine later_call (HM.out _)))))
   refine wpQuiet_nil ?_
   intro _ hw9
   obtain ⟨nl, hw8⟩ := hw9
   subst hw8
   have HB2 := Lib.hid (HB.out.trans (nl.h.mono HB.out.size))
   have c3' := keeps nl.h hbl c3
   clear l2 c0 c1 c2 c3
   go_wp2
   go_roundw
   case rel => exact ⟨j + 1, by omega, by go_num, by go_num, HB2.out⟩
   case measure => simp [intOf]; omega
  ·clear hb
   go_wp2
   go_ret
   obtain rfl : j = n := by omega
   exact ⟨rfl, HB.out⟩

theorem markForm_is (lo : Nat) (v : Value) (f : List Nd) (k : Int) (w : World) (h1 : 0 ≤ k) (h2 : k + 4 * (f.length : Int) ≤ 1000000000) (hlo : lo ≤ w.heap.size) (hv : FormO lo w v f) :
  Calls Tryz.prog 12 #[v, .int .i64 k] w fun e w' => e = .returned (.int .i64 (k + 4 * (f.length : Int))) ∧ Below lo w w' ∧ OwnF lo w' v (mrkN k f.length) ∧ Only [55] w w' := by
 refine (markNodeS_is lo v f.length _ k w h1 h2 hv).mono ?_
 rintro e w' ⟨rfl, hg, ho⟩
 refine ⟨rfl, below_grown hg hlo (fun b e => (World.ownsRow.lt hv b e).1), ?_, Only.grown hv hg⟩
 unfold OwnF
 rw [mrkN_len]
 exact ho
theorem OwnF.at {lo : Nat} {w : World} {v : Value} {fs : List Nf} (h : OwnF lo w v fs) : SliceK 4 encF lo w v fs := SliceK.of_owns (e := 55) encF_len rfl h
theorem heldForm_is (lo : Nat) (v : Value) (f : List Nd) (k : Int) (w : World) (h1 : 0 ≤ k) (h2 : k + 4 * (f.length : Int) ≤ 1000000000) (hv : OwnF lo w v (mrkN k f.length)) :
  Calls Tryz.prog 13 #[v, .int .i64 k] w fun e w' => e = .returned (.int .i64 (k + 4 * (f.length : Int))) ∧ Below w.heap.size w w' :=
 heldNodeS_is v lo f.length k w h1 h2 hv.at

end Go.Proofs.YtjoacldbgnphkaaGreatDoor

namespace Go.Proofs.YtjoacldbgnphkaaGreatDoor
open Go Go.RowKit

def OwnRows (eo ei lo : Nat) (w : World) (v : Value) (vs : List Value) (xss : List (List Value)) : Prop :=
 vs.length = xss.length ∧ w.ownsRow lo eo 1 v vs.length vs ∧ (∀ (i : Nat) (h : i < vs.length) (h' : i < xss.length), w.ownsRow lo ei 1 vs[i] xss[i].length xss[i])
  ∧ (∀ (i j : Nat) (h : i < vs.length) (h' : j < vs.length), i ≠ j → vs[i].ownBlock = none ∨ vs[i].ownBlock ≠ vs[j].ownBlock)

theorem OwnRows.nil (eo ei lo : Nat) (w : World) : OwnRows eo ei lo w (.slice none 0 0) [] [] := ⟨rfl, World.ownsRow_nil w lo eo 1, fun i h => by simp at h, fun i j h => by simp at h⟩

theorem OwnRows.below {eo ei lo : Nat} {w w' : World} {v : Value} {vs : List Value} {xss : List (List Value)} (h : OwnRows eo ei lo w v vs xss) (hb : Below w.heap.size w w') : OwnRows eo ei lo w' v vs xss := by
 obtain ⟨h1, h2, h3, h4⟩ := h
 exact ⟨h1, owns_below h2 hb, fun i hi hi' => owns_below (h3 i hi hi') hb, h4⟩

/-- A block elsewhere is written. -/
theorem OwnRows.kept {eo ei lo : Nat} {w w' : World} {v : Value} {vs : List Value} {xss : List (List Value)} {row : Option Nat} (h : OwnRows eo ei lo w v vs xss) (hg : w.grownBy w' row) (h0 : v.ownBlock = none ∨ v.ownBlock ≠ row)
  (hr : ∀ (i : Nat) (h : i < vs.length), vs[i].ownBlock = none ∨ vs[i].ownBlock ≠ row) : OwnRows eo ei lo w' v vs xss := by
 obtain ⟨h1, h2, h3, h4⟩ := h
 exact ⟨h1, h2.kept hg h0, fun i hi hi' => (h3 i hi hi').kept hg (hr i hi), h4⟩

/-- The rows lie in blocks of another type than t. -/
theorem own_type_ne {w : World} {base e size n : Nat} {v : Value} {xs : List Value} (h : w.ownsRow base e size v n xs) {b : Nat} {cs : Array Value} {t : TypeId} {f : Nat × Nat} (hb : w.heap[b]? = some (.cells cs t f)) (he : e ≠ t) : v.ownBlock = none ∨ v.ownBlock ≠ some b := by
 rcases h.2 with ⟨rfl, -⟩ | ⟨g, c, u, rfl, -, hg, -⟩
 ·exact .inl rfl
 ·refine .inr fun e1 => ?_
  simp only [Value.ownBlock, Option.some.injEq] at e1
  subst e1
  rw [hb] at hg
  simp only [Option.some.injEq, Obj.cells.injEq] at hg
  exact he hg.2.1.symm
theorem own_map_ne {w : World} {base e size n : Nat} {v : Value} {xs : List Value} (h : w.ownsRow base e size v n xs) {b : Nat} {es : Array MapEntry} {c : Nat} (hb : w.heap[b]? = some (.map es c)) : v.ownBlock = none ∨ v.ownBlock ≠ some b := by
 rcases h.2 with ⟨rfl, -⟩ | ⟨g, c, u, rfl, -, hg, -⟩
 ·exact .inl rfl
 ·refine .inr fun e1 => ?_
  simp only [Value.ownBlock, Option.some.injEq] at e1
  subst e1
  rw [hb] at hg
  cases hg

/-- An empty row more. -/
theorem OwnRows.push {eo ei lo : Nat} {w w' : World} {v v' : Value} {vs : List Value} {xss : List (List Value)} (he : eo ≠ ei) (h : OwnRows eo ei lo w v vs xss)
  (hg : w.grownBy w' v.ownBlock) (hv : w'.ownsRow lo eo 1 v' (vs.length + 1) (vs ++ [.slice none 0 0])) : OwnRows eo ei lo w' v' (vs ++ [.slice none 0 0]) (xss ++ [[]]) := by
 obtain ⟨h1, h2, h3, h4⟩ := h
 refine ⟨by simp [h1], by simpa using hv, fun i hi hi' => ?_, fun i j hi hj hij => ?_⟩
 ·by_cases hlt : i < vs.length
  ·rw [List.getElem_append_left hlt]
   simp only [List.getElem_append_left (show i < xss.length by omega)]
   exact (h3 i hlt (by omega)).kept hg (own_types (h3 i hlt (by omega)) h2 (fun e => he e.symm))
  ·have e : i = vs.length := by simp at hi; omega
   subst e
   simp only [List.getElem_concat_length]
   have : (xss ++ [[]])[vs.length] = [] := by simp [h1]
   rw [this]
   exact World.ownsRow_nil w' lo ei 1
 ·by_cases h1' : i < vs.length
  ·by_cases h2' : j < vs.length
   ·rw [List.getElem_append_left h1', List.getElem_append_left h2']
    exact h4 i j h1' h2' hij
   ·have e : j = vs.length := by simp at hj; omega
    subst e
    rw [List.getElem_append_left h1', List.getElem_concat_length rfl]
    cases hb1 : vs[i].ownBlock with
    | none => exact .inl rfl
    | some b => exact .inr (by simp [Value.ownBlock])
  ·have e : i = vs.length := by simp at hi; omega
   subst e
   rw [List.getElem_concat_length rfl]
   exact .inl rfl

/-- A row grows: its new value is written to its place. -/
theorem OwnRows.grow {eo ei lo : Nat} {w w1 w2 : World} {v v' : Value} {vs : List Value} {xss : List (List Value)} {ys : List Value} (he : eo ≠ ei) (h : OwnRows eo ei lo w v vs xss) (j : Nat) (hj : j < vs.length)
  (hg : w.grownBy w1 vs[j].ownBlock) (ho : w1.ownsRow lo ei 1 v' ys.length ys) (hb : ∀ b, v'.ownBlock = some b → vs[j].ownBlock = some b ∨ w.heap.size ≤ b)
  (hg2 : w1.grownBy w2 v.ownBlock) (hv : w2.ownsRow lo eo 1 v vs.length (vs.set j v')) : OwnRows eo ei lo w2 v (vs.set j v') (xss.set j ys) := by
 obtain ⟨h1, h2, h3, h4⟩ := h
 have h2' : w1.ownsRow lo eo 1 v vs.length vs := h2.kept hg (own_types h2 (h3 j hj (by omega)) he)
 have hnew : w2.ownsRow lo ei 1 v' ys.length ys := ho.kept hg2 (own_types ho h2' (fun e => he e.symm))
 have hne : ∀ (i : Nat) (hi : i < vs.length), i ≠ j → vs[i].ownBlock = none ∨ vs[i].ownBlock ≠ v'.ownBlock := by
  intro i hi hij
  cases hb1 : vs[i].ownBlock with
  | none => exact .inl rfl
  | some b =>
   refine .inr fun e => ?_
   rcases hb b e.symm with h | h
   ·rcases h4 i j hi hj hij with k | k
    ·rw [hb1] at k; cases k
    ·exact k (hb1.trans h.symm)
   ·have := ((h3 i hi (by omega)).lt b hb1).2
    omega
 refine ⟨by simpa using h1, by simpa using hv, fun i hi hi' => ?_, fun i k hi hk hik => ?_⟩
 ·by_cases hij : j = i
  ·subst hij
   simpa using hnew
  ·rw [List.getElem_set_ne hij, List.getElem_set_ne hij]
   simp only [List.length_set] at hi hi'
   have k1 := (h3 i hi hi').kept hg (h4 i j hi hj (fun e => hij e.symm))
   exact k1.kept hg2 (own_types k1 h2' (fun e => he e.symm))
 ·simp only [List.length_set] at hi hk
  by_cases e1 : j = i
  ·subst e1
   rw [List.getElem_set_self, List.getElem_set_ne hik]
   rcases hne k hk (fun e => hik e.symm) with h | h
   ·cases hb2 : v'.ownBlock with
    | none => exact .inl rfl
    | some b => exact .inr (by rw [h]; simp)
   ·exact .inr (fun e => h e.symm)
  ·by_cases e2 : j = k
   ·subst e2
    rw [List.getElem_set_self, List.getElem_set_ne e1]
    exact hne i hi hik
   ·rw [List.getElem_set_ne e1, List.getElem_set_ne e2]
    exact h4 i k hi hk hik

end Go.Proofs.YtjoacldbgnphkaaGreatDoor

namespace Go.Proofs.YtjoacldbgnphkaaGreatDoor
open Go Go.RowKit
open Go.Maps (Keyed)


theorem underTel : Tryz.prog.underlying 81 = some (.map 104 27) := Tryz.underlying81
theorem zeroTel (w : World) : (zeroValue 27).run Tryz.prog w = .ok (.slice none 0 0) w := by kernel_rfl
/-- A formula that is kept: nil where there is none. -/
def KeptV (w : World) (v : Value) (f : List Nd) : Prop := (f = [] ∧ v = .slice none 0 0) ∨ (f ≠ [] ∧ FormO 0 w v f)
theorem KeptV.below {w w' : World} {v : Value} {f : List Nd} (h : KeptV w v f) (hb : Below w.heap.size w w') : KeptV w' v f := h.elim .inl fun h => .inr ⟨h.1, h.2.below hb⟩
theorem KeptV.kept {w w' : World} {v : Value} {f : List Nd} {row : Option Nat} (h : KeptV w v f) (hg : w.grownBy w' row) (hr : ∀ {n : Nat} {xs : List Value}, w.ownsRow 0 55 4 v n xs → v.ownBlock = none ∨ v.ownBlock ≠ row) : KeptV w' v f :=
 h.elim .inl fun h => .inr ⟨h.1, World.ownsRow.kept h.2 hg (hr h.2)⟩
theorem KeptV.at {w : World} {v : Value} {f : List Nd} (h : KeptV w v f) : SliceK 4 encN 0 w v f := by
 rcases h with ⟨rfl, rfl⟩ | ⟨-, h⟩
 ·exact ⟨none, 0, rfl, Nat.le_refl _, by decide, .inl rfl⟩
 ·exact h.at
theorem KeptV.slice {w : World} {v : Value} {f : List Nd} (h : KeptV w v f) : ∃ a c, v = .slice a f.length c ∧ (a = none ↔ f = []) := by
 rcases h with ⟨rfl, rfl⟩ | ⟨hn, h⟩
 ·exact ⟨none, 0, rfl, by simp⟩
 ·obtain ⟨b, o, c, rfl, -⟩ := form_cells h.at hn
  exact ⟨_, c, rfl, by simp [hn]⟩
/-- The formulas that are known. -/
structure TelMap (w : World) (mb : Nat) (t : Lts) (ks : List ((Int × Int) × Value)) : Prop where
 map : ValMap w mb (ks.map fun k => (key2 k.1, k.2))
 nodup : (ks.map Prod.fst).Nodup
 small : ∀ k ∈ ks, Small2 k.1
 val : ∀ k ∈ ks, KeptV w k.2 (tellT t k.1.1 k.1.2)
variable {w w' : World} {mb : Nat} {t : Lts} {ks : List ((Int × Int) × Value)}
theorem TelMap.below (h : TelMap w mb t ks) (hb : Below w.heap.size w w') : TelMap w' mb t ks := ⟨h.map.below hb, h.nodup, h.small, fun k hk => (h.val k hk).below hb⟩
theorem TelMap.kept {row : Option Nat} (h : TelMap w mb t ks) (hg : w.grownBy w' row) (hm : row ≠ some mb) (hr : ∀ {v : Value} {n : Nat} {xs : List Value}, w.ownsRow 0 55 4 v n xs → v.ownBlock = none ∨ v.ownBlock ≠ row) : TelMap w' mb t ks :=
 ⟨h.map.kept hg (fun e => hm e.symm), h.nodup, h.small, fun k hk => (h.val k hk).kept hg hr⟩
theorem TelMap.fsts (ks : List ((Int × Int) × Value)) : (ks.map fun k => (key2 k.1, k.2)).map Prod.fst = (ks.map Prod.fst).map key2 := by rw [List.map_map, List.map_map]; rfl
theorem TelMap.keys (h : TelMap w mb t ks) : ∀ v ∈ (ks.map fun k => (key2 k.1, k.2)).map Prod.fst, ∃ l, keyOf Tryz.prog 104 v = some l := fun v hv => by
 rw [TelMap.fsts] at hv
 obtain ⟨q, hq, rfl⟩ := List.mem_map.1 hv
 obtain ⟨k, hk, rfl⟩ := List.mem_map.1 hq
 exact keyOf2 (h.small k hk)
theorem nodup_key2 : ∀ {l : List (Int × Int)}, l.Nodup → (l.map key2).Nodup
 | [], _ => by simp
 | x :: l, h => by
  rw [List.map_cons, List.nodup_cons]
  rw [List.nodup_cons] at h
  refine ⟨fun hm => h.1 ?_, nodup_key2 h.2⟩
  obtain ⟨y, hy, e⟩ := List.mem_map.1 hm
  rw [← key2_inj e]
  exact hy
theorem TelMap.push (h : TelMap w mb t ks) {a b : Int} (hq : Small2 (a, b)) (hn : (a, b) ∉ ks.map Prod.fst) (hroom : ks.length ≤ 1000000) {v : Value} (hv : KeptV w v (tellT t a b)) :
  ∃ w', (Instr.mapUpdate 81 (.map (some mb)) (.agg #[.int .i64 a, .int .i64 b]) v).run Tryz.prog w = .ok () w' ∧ TelMap w' mb t (ks ++ [((a, b), v)]) ∧ w.grownBy w' (some mb) := by
 obtain ⟨kl, hkl⟩ := keyOf2 hq
 have hnn : key2 (a, b) ∉ (ks.map fun k => (key2 k.1, k.2)).map Prod.fst := by
  rw [TelMap.fsts]
  exact fun hx => hn (mem_key2.1 hx)
 obtain ⟨w', h1, h2, h3⟩ := h.map.store keyed2 underTel h.keys hkl hnn (by rw [List.length_map]; unfold maxLen; omega) v
 have hmb : w.heap[mb]? = some (.map _ _) := h.map
 have hne : ∀ {v : Value} {n : Nat} {xs : List Value}, w.ownsRow 0 55 4 v n xs → v.ownBlock = none ∨ v.ownBlock ≠ some mb := fun ho => own_map_ne ho hmb
 refine ⟨w', h1, ⟨by rw [List.map_append]; exact h2, ?_, fun k hk => ?_, fun k hk => ?_⟩, h3⟩
 ·rw [List.map_append, List.nodup_append]
  refine ⟨h.nodup, by simp, fun x hx y hy e => ?_⟩
  rw [List.map_cons, List.map_nil, List.mem_singleton] at hy
  subst hy
  subst e
  exact hn hx
 ·rcases List.mem_append.1 hk with hk | hk
  ·exact h.small k hk
  ·rw [List.mem_singleton] at hk
   subst hk
   exact hq
 ·rcases List.mem_append.1 hk with hk | hk
  ·exact (h.val k hk).kept h3 hne
  ·rw [List.mem_singleton] at hk
   subst hk
   exact hv.kept h3 hne
theorem pairs_few {n : Nat} : ∀ {l : List (Int × Int)}, l.Nodup → (∀ q ∈ l, (0 ≤ q.1 ∧ q.1 < (n : Int)) ∧ 0 ≤ q.2 ∧ q.2 < (n : Int)) → l.length ≤ n * n := fun {l} hd hs => by
 have h1 : (l.map fun q => q.1.toNat * n + q.2.toNat).Nodup := by
  have key : ∀ {l : List (Int × Int)}, l.Nodup → (∀ q ∈ l, (0 ≤ q.1 ∧ q.1 < (n : Int)) ∧ 0 ≤ q.2 ∧ q.2 < (n : Int)) → (l.map fun q => q.1.toNat * n + q.2.toNat).Nodup := by
   intro l
   induction l with
   | nil => intro _ _; simp
   | cons x l ih =>
    intro hd hs
    rw [List.nodup_cons] at hd
    rw [List.map_cons, List.nodup_cons]
    refine ⟨fun hm => hd.1 ?_, ih hd.2 fun q hq => hs q (List.mem_cons_of_mem _ hq)⟩
    obtain ⟨y, hy, e⟩ := List.mem_map.1 hm
    have hx := hs x (List.mem_cons_self ..)
    have hy2 := hs y (List.mem_cons_of_mem _ hy)
    obtain ⟨e1, e2⟩ := place_inj (S := n) (by omega) (by omega) e
    have : y = x := Prod.ext (by omega) (by omega)
    rw [← this]
    exact hy
  exact key hd hs
 have h2 := List.Nodup.length_le_of_subset h1 (l₂ := List.range (n * n)) fun x hx => by
  obtain ⟨q, hq, rfl⟩ := List.mem_map.1 hx
  have := hs q hq
  exact List.mem_range.2 (place_ltM (by omega) (by omega))
 simpa using h2
theorem TelMap.few (h : TelMap w mb t ks) : ks.length ≤ 1600 := by
 have := pairs_few (n := 40) h.nodup fun q hq => by
  obtain ⟨k, hk, rfl⟩ := List.mem_map.1 hq
  exact h.small k hk
 simpa using this

/-- What lies in cells is no map. -/
theorem RowK.keptMap {α : Type} {k : Nat} {enc : α → List Value} (hk : 0 < k) (hen : ∀ x, (enc x)[0]? ≠ none) {lo : Nat} {a : Option Addr} {xs : List α} (h : RowK k enc lo w a xs) (hg : w.grownBy w' (some mb)) {es : Array MapEntry} {c : Nat} (hm : w.heap[mb]? = some (.map es c)) : RowK k enc lo w' a xs := by
 rcases h with h | ⟨b, off, ha, h1, h2, h3⟩
 ·exact .inl h
 ·by_cases h0 : xs.length = 0
  ·exact .inl h0
  ·have hne : b ≠ mb := by
    rintro rfl
    have h4 := h3 0 (by omega) 0 hk
    have h5 : w.cell? ⟨b, off + 0 * k + 0, none⟩ = none := by simp [World.cell?, hm]
    rw [h5] at h4
    exact hen _ h4.symm
   exact .inr ⟨b, off, ha, h1, Nat.lt_of_lt_of_le h2 hg.size, fun i hi j hj => by
    rw [World.cell?_of_block (w := w) (hg.block b h2 (fun e => by cases e; exact hne rfl))]; exact h3 i hi j hj⟩
theorem SliceK.keptMap {α : Type} {k : Nat} {enc : α → List Value} (hk : 0 < k) (hen : ∀ x, (enc x)[0]? ≠ none) {lo : Nat} {v : Value} {xs : List α} (h : SliceK k enc lo w v xs) (hg : w.grownBy w' (some mb)) {es : Array MapEntry} {c : Nat} (hm : w.heap[mb]? = some (.map es c)) : SliceK k enc lo w' v xs := by
 obtain ⟨a, cap, h1, h2, h4, h3⟩ := h
 exact ⟨a, cap, h1, h2, h4, h3.keptMap hk hen hg hm⟩
theorem IntssAt.keptMap {lo : Nat} {v : Value} {xss : List (List Int)} (h : IntssAt lo w v xss) (hg : w.grownBy w' (some mb)) {es : Array MapEntry} {c : Nat} (hm : w.heap[mb]? = some (.map es c)) : IntssAt lo w' v xss := by
 obtain ⟨vs, h1, h2, h3⟩ := h
 exact ⟨vs, h1, h2.keptMap (by decide) (fun x => by simp [encV]) hg hm, fun i hi hi' => (h3 i hi hi').keptMap (by decide) (fun x => by simp [encI]) hg hm⟩

/-- The teller. -/
structure Tel (w : World) (xb mb lo : Nat) (t : Lts) (lv ev rv : Value) : Prop where
 box : Blk w xb [.int .i64 t.states, .int .i64 t.initial, lv, ev, rv, .map (some mb)] 83
 labs : SliceK 1 encS lo w lv t.labels
 edgs : SliceK 3 encE lo w ev t.edges
 rnds : IntssAt lo w rv (levs t)
variable {xb lo : Nat} {lv ev rv : Value}
theorem Tel.below (h : Tel w xb mb lo t lv ev rv) (hb : Below w.heap.size w w') : Tel w' xb mb lo t lv ev rv := ⟨h.box.below hb, h.labs.below hb, h.edgs.below hb, h.rnds.below hb⟩
theorem Tel.grown (h : Tel w xb mb lo t lv ev rv) (hm : TelMap w mb t ks) (hg : w.grownBy w' (some mb)) : Tel w' xb mb lo t lv ev rv := by
 have hmb : w.heap[mb]? = some (.map _ _) := hm.map
 have hne : xb ≠ mb := by
  rintro rfl
  have h1 := h.box
  unfold Blk at h1
  rw [h1] at hmb
  cases hmb
 exact ⟨h.box.keptM hg (fun e => by cases e; exact hne rfl), h.labs.keptMap (by decide) (fun x => by simp [encS]) hg hmb, h.edgs.keptMap (by decide) (fun x => by simp [encE]) hg hmb, h.rnds.keptMap hg hmb⟩
end Go.Proofs.YtjoacldbgnphkaaGreatDoor

namespace Go.Proofs.YtjoacldbgnphkaaGreatDoor
open Go Go.RowKit

theorem info_int64N : (Tryz.prog.info? 2).map (fun i => (i.zero, i.size, i.bytes)) = some (some (.int .i64 0), 1, 8) := by kernel_rfl
theorem filled_old {α : Type} (xs : List α) (f : α → Value) (z : Value) (k j : Nat) (h : k ≤ xs.length) (hj : j < k) : ((xs.take k).map f ++ List.replicate (xs.length - k) z)[j]? = some (f (xs[j]'(by omega))) := by
 have hl : ((xs.take k).map f).length = k := by simp; omega
 rw [List.getElem?_append_left (by omega), List.getElem?_map, List.getElem?_take_of_lt hj, List.getElem?_eq_getElem (by omega)]
 rfl
theorem normL_of {xs : List Int} {j k : Nat} (hj : j < xs.length) (hk : k < xs.length) (h : xs[j] = xs[k]) : (normL xs)[j]'(by rw [normL_len]; exact hj) = (normL xs)[k]'(by rw [normL_len]; exact hk) := (normL_same hj hk).2 h
theorem normL_new {xs : List Int} {k : Nat} (hk : k < xs.length) (h : ∀ j (hj : j < xs.length), j < k → (xs[j] == xs[k]) = false) : (normL xs)[k]'(by rw [normL_len]; exact hk) = ((firsts (xs.take k)).length : Int) ∧ (firsts (xs.take (k + 1))).length = (firsts (xs.take k)).length + 1 := by
 have hm : xs[k] ∉ firsts (xs.take k) := fun hm => by
  obtain ⟨j, hj, e⟩ := List.mem_iff_getElem.1 ((firsts_mem _ _).1 hm)
  have hj2 : j < k := by rw [List.length_take] at hj; omega
  have h1 := h j (by omega) hj2
  rw [beq_eq_false_iff_ne] at h1
  exact h1 (by rw [← e, List.getElem_take])
 have h1 := normL_at hk
 rw [List.getElem?_eq_getElem (by rw [normL_len]; exact hk), fstIx_not hm] at h1
 refine ⟨Option.some.inj h1, ?_⟩
 rw [List.take_succ_eq_append_getElem hk, firsts_snoc]
 unfold addNew
 rw [if_neg hm]
 simp
theorem firsts_old {xs : List Int} {j k : Nat} (hj : j < k) (hk : k < xs.length) (h : xs[j]'(by omega) = xs[k]) : firsts (xs.take (k + 1)) = firsts (xs.take k) := by
 rw [List.take_succ_eq_append_getElem hk, firsts_snoc]
 unfold addNew
 rw [if_pos ((firsts_mem _ _).2 (by rw [← h]; exact List.mem_iff_getElem.2 ⟨j, by rw [List.length_take]; omega, by rw [List.getElem_take]⟩))]

set_option maxRecDepth 100000 in
set_option maxHeartbeats 4000000 in
theorem l02Norm_any (lo : Nat) (v : Value) (xs : List Int) (w : World) (hz : xs.length ≤ 1000000) (hv : SliceK 1 encI lo w v xs) : Calls Tryz.prog 58 #[v] w (MadeNums (normL xs) w) := by
 obtain ⟨a, cap, rfl, hn, hcap, hrow⟩ := hv
 obtain ⟨Q, hQ⟩ : ∃ Q, Q = normL xs := ⟨_, rfl⟩
 obtain ⟨N, hN⟩ : ∃ N, N = xs.length := ⟨_, rfl⟩
 have hQN : Q.length = N := by rw [hQ, normL_len, hN]
 rw [← hQ]
 rw [← hN] at hz hn ⊢
 have HN := Lib.hid hN
 have HQ := Lib.hid hQ
 have HQN := Lib.hid hQN
 have HR := Lib.hid hrow
 obtain ⟨i1, hi1, hz10, hz11, hz12⟩ := info_parts info_int64N
 clear hrow hN hQ hQN
 go_enter Tryz.func58, Tryz.ntmps58
 go_wp2_with (at_make; refine wpList_make_full _ rfl _ _ 69 rfl w.heap.size 2 i1 _ 1 Tryz.underlying69 hi1 hz10 hz11 .i64 .i64 _ _ N rfl rfl rfl rfl ?_ ?_ ?_ ?_)
 ·rw [hz12]; omega
 ·simp [maxLen]; omega
 ·exact Nat.le_refl _
 intro w1 ho hg
 rw [toList_madeCells_one] at ho
 obtain ⟨G, hG⟩ : ∃ G, G = w.heap.size := ⟨_, rfl⟩
 have HB1 : Hid (Below w.heap.size w w1) := (Below.refl _ w).grown hg (Nat.le_refl _) (fun _ h => by cases h)
 rw [← hG] at ho ⊢
 have HO : Hid (w1.ownsRow G 2 1 (.slice (some ⟨G, 0, none⟩) N N) N (List.replicate N (.int .i64 0))) := by
  unfold Hid; simpa using ho
 have HG := Lib.hid hG
 clear ho hg hG hi1 hz10 hz11 hz12
 go_wp2
 go_loopw [4, 5] (fun v4 v5 wr => ∃ k : Nat, k ≤ N ∧ v5 = .int .i64 k ∧ v4 = .int .i64 (firsts (xs.take k)).length ∧ Below w.heap.size w wr ∧ wr.ownsRow G 2 1 (.slice (some ⟨G, 0, none⟩) N N) N ((Q.take k).map (Value.int .i64) ++ List.replicate (Q.length - k) (.int .i64 0))) (fun _ v5 _ => N - (intOf v5).toNat)
 case atStart => exact ⟨0, Nat.zero_le _, rfl, by simp [firsts], HB1.out, by simpa [HQN.out] using HO.out⟩
 case round =>
  clear HO HB1
  obtain ⟨k, hk, rfl, rfl, hbl, ho⟩ := hrel
  obtain ⟨wC, rfl⟩ : ∃ wC : World, wC = wr := ⟨_, rfl⟩
  have HBL := Lib.hid hbl
  have HO := Lib.hid ho
  have hszC := hbl.size
  obtain ⟨M, hM⟩ : ∃ M, M = (firsts (xs.take k)).length := ⟨_, rfl⟩
  rw [← hM]
  have hMk : M ≤ 1000000 := by
   rw [hM]
   have h1 := firsts_len (xs.take k)
   rw [List.length_take] at h1
   omega
  have HM := Lib.hid hM
  clear hbl ho hM
  by_cases hlt : k < N
  ·have hltx : k < xs.length := by rw [← HN.out]; exact hlt
   have hltq : k < Q.length := by rw [HQN.out]; exact hlt
   go_wp2
   go_loopw [6, 7] (fun v6 v7 wr => ∃ j : Nat, j ≤ k ∧ v7 = .int .i64 j ∧ v6 = .int .i64 (-1) ∧ Below wC.heap.size wC wr ∧ ∀ i (h : i < xs.length), i < j → (xs[i] == xs[k]) = false) (fun _ v7 _ => k - (intOf v7).toNat)
   case atStart => exact ⟨0, Nat.zero_le _, rfl, rfl, Below.refl _ _, fun _ _ h => by omega⟩
   case round =>
    obtain ⟨j, hj, rfl, rfl, hbj, hx⟩ := hrel
    obtain ⟨wD, rfl⟩ : ∃ wD : World, wD = wr := ⟨_, rfl⟩
    have HX := Lib.hid hx
    have HBJ := Lib.hid hbj
    have hB2 := HBL.out.trans (hbj.mono hszC)
    have HB2 := Lib.hid hB2
    have HO2 := Lib.hid (owns_below HO.out hbj)
    have hszD := hB2.size
    have hszj := hbj.size
    clear hx hbj
    by_cases hjk : j < k
    ·have hjx : j < xs.length := by omega
     obtain ⟨b, o, rfl, -, hb, c1⟩ := (HR.out.below hB2).one hjx
     obtain ⟨b', o', e', -, hb', c2⟩ := (HR.out.below hB2).one hltx
     obtain ⟨rfl, rfl⟩ : b = b' ∧ o = o' := by simpa using e'
     simp only [encI, List.getElem?_cons_zero] at c1 c2
     replace c1 := later_cell hb c1
     replace c2 := later_cell hb c2
     clear e' hb' hB2
     cases g : (xs[j] == xs[k])
     ·have HF := Lib.hid g
      go_wp2
      refine wp_region_later (by kernel_rfl) (by kernel_rfl) ?_
      repeat (go_big_quiet_step ((fail)))
      refine wpQuiet_nil ?_
      intro _ hw9
      obtain ⟨nl, hw8⟩ := hw9
      subst hw8
      have HN2 := Lib.hid (HBJ.out.trans (nl.h.mono hszj))
      go_wp2
      go_roundw
      case rel => exact ⟨j + 1, by omega, by go_num, rfl, HN2.out, fun i h h' => by
       by_cases e : i = j
       ·subst e; exact HF.out
       ·exact HX.out i h (by omega)⟩
      case measure => simp [intOf]; omega
     ·have HEQ : Hid (xs[j] = xs[k]) := by rw [beq_iff_eq] at g; exact g
      go_wp2
      refine wp_region_later (by kernel_rfl) (by kernel_rfl) ?_
      repeat (go_big_quiet_step ((fail)))
      refine wpQuiet_nil ?_
      intro _ hw9
      obtain ⟨nl, hw8⟩ := hw9
      subst hw8
      have HB3 := Lib.hid (HB2.out.trans (nl.h.mono hszD))
      have HO3 := Lib.hid (owns_below HO2.out nl.h)
      have hgG := (HO3.out.lt G rfl).2
      have d1 := HO3.out.cellAt j (by omega)
      rw [filled_old _ _ _ _ _ (by omega) hjk] at d1
      have d2 := HO3.out.cellAt k (by omega)
      rw [filled_get _ _ _ _ hltq] at d2
      have d3 := HO3.out.frozenAt k
      have ho4 := (HO3.out.stored k (.int .i64 (Q[j]'(by omega)))).1
      have hQjk : Q[j]'(by omega) = Q[k] := by
       have h := normL_of hjx hltx HEQ.out
       simp only [← HQ.out] at h
       exact h
      have hset := filled_set Q (Value.int .i64) (.int .i64 0) k hltq
      rw [hQjk, hset] at ho4
      rw [hQjk] at d1
      have HO4 := Lib.hid ho4
      have HFO : Hid ((firsts (xs.take (k + 1))).length = M) := by unfold Hid; rw [firsts_old hjk hltx HEQ.out]; exact HM.out.symm
      clear ho4 hset hQjk c1 c2 g
      go_wp2
      go_roundw
      case rel => exact ⟨k + 1, by omega, by go_num, by rw [HFO.out], HB3.out.setCell (by rw [← HG.out]; exact Nat.le_refl _) _, HO4.out⟩
      case measure => simp [intOf]; omega
    ·obtain rfl : j = k := by omega
     have hNW := normL_new hltx HX.out
     have d2 := HO2.out.cellAt j (by omega)
     rw [filled_get _ _ _ _ hltq] at d2
     have d3 := HO2.out.frozenAt j
     have ho4 := (HO2.out.stored j (.int .i64 (M : Int))).1
     have hQM : (M : Int) = Q[j] := by
      have h := hNW.1
      simp only [← HQ.out] at h
      rw [h, HM.out]
     have hset := filled_set Q (Value.int .i64) (.int .i64 0) j hltq
     rw [← hQM] at hset
     rw [hset] at ho4
     have HO4 := Lib.hid ho4
     have HFO : Hid ((firsts (xs.take (j + 1))).length = M + 1) := by unfold Hid; rw [hNW.2, HM.out]
     clear ho4 hset hQM hNW hB2
     go_wp2
     go_roundw
     case rel => exact ⟨j + 1, by omega, by go_num, by rw [HFO.out]; go_num, HB2.out.setCell (by rw [← HG.out]; exact Nat.le_refl _) _, HO4.out⟩
     case measure => simp [intOf]; omega
  ·obtain rfl : k = N := by omega
   have HF : Hid (wC.ownsRow G 2 1 (.slice (some ⟨G, 0, none⟩) Q.length k) Q.length (Q.map (Value.int .i64))) := by
    have h := HO.out
    unfold Hid
    rw [← HQN.out] at h ⊢
    simpa using h
   go_wp2
   go_ret
   refine ⟨_, rfl, HBL.out, ?_⟩
   rw [← HG.out]
   have h := HF.out
   rw [HQN.out] at h ⊢
   exact h

end Go.Proofs.YtjoacldbgnphkaaGreatDoor
