/-
  The system of all weak steps; what WeakFormula returns. Plain, and memory notions.
  A system whose edges grow in a struct variable: how it lies in memory.
  The library's Clone at lists of texts.
  The program's saturated.
  What the implementation's functions on lists of values and on labels compute.
  What the implementation's readNumbers computes.
  What the implementation's joined computes.
  What the implementation's labelOf computes.
-/
import Derived.Test.YtjoacldbgnphkaaGreatDoorE7
import Derived.Test.YtjoacldbgnphkaaGreatDoorE9
import Derived.Deep.AppendLies
import Derived.Test.YtjoacldbgnphkaaGreatDoorE6
import Derived.Deep.RegionHeld3
import Derived.Deep.Cut
namespace Go.Proofs.YtjoacldbgnphkaaGreatDoor
open Go Go.RowKit


def labI (t : Lts) (i : Nat) : ByteArray := t.labels.getD i ByteArray.empty
theorem labI_get {t : Lts} {i : Nat} (h : i < t.labels.length) : labI t i = t.labels[i] := by
 unfold labI
 rw [List.getD_eq_getElem?_getD, List.getElem?_eq_getElem h]
 rfl
noncomputable section
/-- The weak steps from k with the label number i to states below m. -/
def satTo (t : Lts) (k i m : Nat) : List Edge := ((List.range m).filter fun (x : Nat) => tgtK 2 t k (labI t i) x).map fun (x : Nat) => ⟨(k : Int), (i : Int), (x : Int)⟩
def satR (t : Lts) (k i : Nat) : List Edge := satTo t k i t.states.toNat
/-- From k with the first n labels. -/
def satK (t : Lts) (k n : Nat) : List Edge := (List.range n).flatMap (satR t k)
/-- From the first n states. -/
def satE (t : Lts) (n : Nat) : List Edge := (List.range n).flatMap fun k => satK t k t.labels.length
def satT (t : Lts) : Lts := ⟨t.states, t.initial, t.labels, satE t t.states.toNat⟩
end
theorem satTo_zero (t : Lts) (k i : Nat) : satTo t k i 0 = [] := rfl
theorem satTo_hit {t : Lts} {k i m : Nat} (h : tgtK 2 t k (labI t i) m = true) : satTo t k i (m + 1) = satTo t k i m ++ [⟨(k : Int), (i : Int), (m : Int)⟩] := by
 unfold satTo
 rw [List.range_succ, List.filter_append, List.map_append]
 simp [h]
theorem satTo_miss {t : Lts} {k i m : Nat} (h : tgtK 2 t k (labI t i) m = false) : satTo t k i (m + 1) = satTo t k i m := by
 unfold satTo
 rw [List.range_succ, List.filter_append, List.map_append]
 simp [h]
theorem satK_zero (t : Lts) (k : Nat) : satK t k 0 = [] := rfl
theorem satK_succ (t : Lts) (k n : Nat) : satK t k (n + 1) = satK t k n ++ satR t k n := by
 unfold satK
 rw [List.range_succ, List.flatMap_append]
 simp
theorem satE_succ (t : Lts) (n : Nat) : satE t (n + 1) = satE t n ++ satK t n t.labels.length := by
 unfold satE
 rw [List.range_succ, List.flatMap_append]
 simp
theorem setL_asc (n : Int) (P : Int → Prop) : (setL n P).Pairwise (· < ·) := by
 unfold setL
 refine List.Pairwise.filter _ ?_
 rw [List.pairwise_map]
 exact List.Pairwise.imp (fun h => by omega) List.pairwise_lt_range
theorem wkL_asc (t : Lts) (y : Int) (l : ByteArray) : (wkL t y l).Pairwise (· < ·) := by
 unfold wkL
 split
 ·exact setL_asc _ _
 ·exact setL_asc _ _
theorem wkL_row {t : Lts} {k i : Nat} (hv : Valid t) (hk : (k : Int) < t.states) : (wkL t k (labI t i)).map (fun x => (⟨(k : Int), (i : Int), x⟩ : Edge)) = satR t k i := by
 have e : wkL t k (labI t i) = ((List.range t.states.toNat).filter fun (x : Nat) => tgtK 2 t k (labI t i) x).map fun (x : Nat) => (x : Int) := by
  refine asc_unique _ _ (wkL_asc _ _ _) ?_ fun x => ?_
  ·rw [List.pairwise_map]
   exact (List.Pairwise.filter _ List.pairwise_lt_range).imp fun h => by omega
  ·rw [wkL_mem hv ⟨by omega, hk⟩, List.mem_map]
   constructor
   ·rintro ⟨h1, h2, h3⟩
    refine ⟨x.toNat, List.mem_filter.2 ⟨List.mem_range.2 (by omega), ?_⟩, by omega⟩
    rw [show ((x.toNat : Nat) : Int) = x by omega]
    exact h1
   ·rintro ⟨n, hn, rfl⟩
    rw [List.mem_filter, List.mem_range] at hn
    exact ⟨hn.2, by omega, by omega⟩
 rw [e, List.map_map]
 rfl
theorem mem_satE {t : Lts} {e : Edge} {n : Nat} (h : e ∈ satE t n) : ∃ k i x : Nat, k < n ∧ i < t.labels.length ∧ x < t.states.toNat ∧ e = ⟨(k : Int), (i : Int), (x : Int)⟩ := by
 unfold satE satK satR satTo at h
 simp only [List.mem_flatMap, List.mem_map, List.mem_filter, List.mem_range] at h
 obtain ⟨k, hk, i, hi, x, ⟨hx, -⟩, rfl⟩ := h
 exact ⟨k, i, x, hk, hi, hx, rfl⟩
theorem edgeLess_dst {k i x y : Nat} (h : x < y) : edgeLess ⟨(k : Int), (i : Int), (x : Int)⟩ ⟨(k : Int), (i : Int), (y : Int)⟩ = true := by
 unfold edgeLess
 simp only [ne_eq, not_true_eq_false, if_false]
 exact decide_eq_true (by omega)
theorem edgeLess_lab {k i j x y : Nat} (h : i < j) : edgeLess ⟨(k : Int), (i : Int), (x : Int)⟩ ⟨(k : Int), (j : Int), (y : Int)⟩ = true := by
 have hn : (i : Int) ≠ (j : Int) := by omega
 unfold edgeLess
 simp only [ne_eq, not_true_eq_false, if_false, hn, not_false_eq_true, if_true]
 exact decide_eq_true (by omega)
theorem edgeLess_src {k q i j x y : Nat} (h : k < q) : edgeLess ⟨(k : Int), (i : Int), (x : Int)⟩ ⟨(q : Int), (j : Int), (y : Int)⟩ = true := by
 have hn : (k : Int) ≠ (q : Int) := by omega
 unfold edgeLess
 simp only [ne_eq, hn, not_false_eq_true, if_true]
 exact decide_eq_true (by omega)
theorem satE_pair (t : Lts) (n : Nat) : (satE t n).Pairwise fun a b => edgeLess a b = true := by
 unfold satE
 rw [List.pairwise_flatMap]
 refine ⟨fun k _ => ?_, ?_⟩
 ·unfold satK
  rw [List.pairwise_flatMap]
  refine ⟨fun i _ => ?_, ?_⟩
  ·unfold satR satTo
   rw [List.pairwise_map]
   exact (List.Pairwise.filter _ List.pairwise_lt_range).imp fun h => edgeLess_dst h
  ·refine List.pairwise_lt_range.imp fun {i j} hij a ha b hb => ?_
   unfold satR satTo at ha hb
   obtain ⟨x, -, rfl⟩ := List.mem_map.1 ha
   obtain ⟨y, -, rfl⟩ := List.mem_map.1 hb
   exact edgeLess_lab hij
 ·refine List.pairwise_lt_range.imp fun {k q} hkq a ha b hb => ?_
  unfold satK satR satTo at ha hb
  simp only [List.mem_flatMap, List.mem_map] at ha hb
  obtain ⟨i, -, x, -, rfl⟩ := ha
  obtain ⟨j, -, y, -, rfl⟩ := hb
  exact edgeLess_src hkq
theorem satT_valid {t : Lts} (hv : Valid t) (h : (satE t t.states.toNat).length ≤ 300) : Valid (satT t) where
 st0 := hv.st0
 st1 := hv.st1
 in0 := hv.in0
 in1 := hv.in1
 labels := hv.labels
 most := h
 edge i hi := by
  obtain ⟨k, j, x, hk, hj, hx, he⟩ := mem_satE (List.getElem_mem hi : (satT t).edges[i] ∈ satE t t.states.toNat)
  rw [he]
  have := hv.st0
  exact ⟨by simp, by simp only [satT]; omega, by simp, by simp only [satT]; omega, by simp, by simp only [satT]; omega⟩
 rise i hi := by
  have hp : (satT t).edges.Pairwise fun a b => edgeLess a b = true := satE_pair t t.states.toNat
  exact List.pairwise_iff_getElem.1 hp i (i + 1) (by omega) hi (by omega)

/-- Of what WeakFormula returns. -/
def WfIs (t : Lts) (a b : Int) (f : List Nd) (code : Int) : Prop :=
 (¬ Valid t ∧ f = [] ∧ code = 1) ∨ (Valid t ∧ ¬ ((0 ≤ a ∧ a < t.states) ∧ (0 ≤ b ∧ b < t.states)) ∧ f = [] ∧ code = 2) ∨
 (Valid t ∧ ((0 ≤ a ∧ a < t.states) ∧ (0 ≤ b ∧ b < t.states)) ∧ ((¬ Valid (satT t) ∧ f = [] ∧ code = 5) ∨ (Valid (satT t) ∧ DfIs (satT t) a b f code)))
theorem WfIs.unique {t : Lts} {a b : Int} {f f' : List Nd} {code code' : Int} (h : WfIs t a b f code) (h' : WfIs t a b f' code') : f = f' ∧ code = code' := by
 rcases h with ⟨h1, rfl, rfl⟩ | ⟨h1, h2, rfl, rfl⟩ | ⟨h1, h2, h3⟩
 ·rcases h' with ⟨k1, rfl, rfl⟩ | ⟨k1, -⟩ | ⟨k1, -⟩
  ·exact ⟨rfl, rfl⟩
  ·exact absurd k1 h1
  ·exact absurd k1 h1
 ·rcases h' with ⟨k1, -⟩ | ⟨k1, k2, rfl, rfl⟩ | ⟨k1, k2, -⟩
  ·exact absurd h1 k1
  ·exact ⟨rfl, rfl⟩
  ·exact absurd k2 h2
 ·rcases h' with ⟨k1, -⟩ | ⟨k1, k2, -⟩ | ⟨k1, k2, k3⟩
  ·exact absurd h1 k1
  ·exact absurd h2 k2
  ·rcases h3 with ⟨e1, rfl, rfl⟩ | ⟨e1, e2⟩
   ·rcases k3 with ⟨g1, rfl, rfl⟩ | ⟨g1, -⟩
    ·exact ⟨rfl, rfl⟩
    ·exact absurd g1 e1
   ·rcases k3 with ⟨g1, -⟩ | ⟨g1, g2⟩
    ·exact absurd e1 g1
    ·exact e2.unique g2
theorem WfIs.few {t : Lts} {a b : Int} {f : List Nd} {code : Int} (h : WfIs t a b f code) : f.length ≤ 200 := by
 rcases h with ⟨-, rfl, -⟩ | ⟨-, -, rfl, -⟩ | ⟨-, -, ⟨-, rfl, -⟩ | ⟨-, h⟩⟩
 ·simp
 ·simp
 ·simp
 ·exact h.few
def RetWf (t : Lts) (a b : Int) (w : World) (e : Ending) (w' : World) : Prop :=
 Below w.heap.size w w' ∧ ∃ (f : List Nd) (code : Int) (v : Value), e = .returned (.tuple #[v, .int .i64 code]) ∧ WfIs t a b f code ∧ FormO w.heap.size w' v f
theorem wf_none {t : Lts} {a b : Int} {code : Int} {w w' : World} (hb : Below w.heap.size w w') (h : WfIs t a b [] code) : RetWf t a b w (.returned (.tuple #[.slice none 0 0, .int .i64 code])) w' :=
 ⟨hb, [], code, _, rfl, h, World.ownsRow_nil _ _ _ _⟩

end Go.Proofs.YtjoacldbgnphkaaGreatDoor

namespace Go.Proofs.YtjoacldbgnphkaaGreatDoor
open Go Go.RowKit


theorem own_setsS {w : World} {base e size n : Nat} {v : Value} {xs : List Value} (h : w.ownsRow base e size v n xs) {b : Nat} {cs : List Value} {t : TypeId} (hb : Blk w b cs t) (he : e ≠ t) (i : Nat) (u : Value) : (w.setCell ⟨b, i, none⟩ u).ownsRow base e size v n xs :=
 h.kept (grown_setCell w ⟨b, i, none⟩ u) (own_type_ne h hb he)
theorem satTo_len (t : Lts) (k i m : Nat) : (satTo t k i m).length ≤ m := by
 unfold satTo
 rw [List.length_map]
 exact Nat.le_trans (List.length_filter_le _ _) (by simp)
theorem satK_len (t : Lts) (k : Nat) : ∀ n, (satK t k n).length ≤ n * t.states.toNat
 | 0 => by simp [satK]
 | n + 1 => by
  rw [satK_succ, List.length_append, Nat.add_mul, Nat.one_mul]
  exact Nat.add_le_add (satK_len t k n) (satTo_len t k n _)
theorem satE_len (t : Lts) : ∀ n, (satE t n).length ≤ n * (t.labels.length * t.states.toNat)
 | 0 => by simp [satE]
 | n + 1 => by
  rw [satE_succ, List.length_append, Nat.add_mul, Nat.one_mul]
  exact Nat.add_le_add (satE_len t n) (satK_len t n _)
theorem sat_few {t : Lts} (hv : Valid t) {k i m : Nat} (hk : k ≤ t.states.toNat) (hi : i ≤ t.labels.length) (hm : m ≤ t.states.toNat) : (satE t k ++ satK t k i ++ satTo t k i m).length ≤ 20000 := by
 have h1 := satE_len t k
 have h2 := satK_len t k i
 have h3 := satTo_len t k i m
 have hs : t.states.toNat ≤ 40 := by have := hv.st1; omega
 have hl := hv.labels.most
 have e1 : k * (t.labels.length * t.states.toNat) ≤ 40 * (12 * 40) := Nat.mul_le_mul (by omega) (Nat.mul_le_mul hl hs)
 have e2 : i * t.states.toNat ≤ 12 * 40 := Nat.mul_le_mul (by omega) hs
 rw [List.length_append, List.length_append]
 omega
/-- The struct variable k, and the result's box rb. -/
structure SatAt (B : Nat) (w : World) (rb k : Nat) (S I : Int) (la : Option Addr) (LN cap : Nat) (ls : List ByteArray) (es : List Edge) (EL : Nat) (p : Option Addr) (c : Nat) : Prop where
 len : EL = es.length
 res : Blk w rb [.int .i64 0, .int .i64 0, .slice none 0 0, .slice none 0 0] 32
 box : Blk w k [.int .i64 S, .int .i64 I, .slice la LN cap, .slice p EL c] 32
 lab : w.ownsRow B 9 1 (.slice la LN cap) LN (ls.map .string)
 eds : w.ownsRow B 66 3 (.slice p EL c) EL (es.flatMap encE)
variable {B rb k LN cap EL c : Nat} {w w' : World} {S I : Int} {la p : Option Addr} {ls : List ByteArray} {es : List Edge}
theorem SatAt.below (h : SatAt B w rb k S I la LN cap ls es EL p c) (hb : Below w.heap.size w w') : SatAt B w' rb k S I la LN cap ls es EL p c :=
 ⟨h.len, h.res.below hb, h.box.below hb, owns_below h.lab hb, owns_below h.eds hb⟩
theorem blk_rowS {w w' : World} {b : Nat} {cs : List Value} {T : TypeId} (hb : Blk w b cs T) {base e size n : Nat} {v : Value} {xs : List Value} (ho : w.ownsRow base e size v n xs) (hg : w.grownBy w' v.ownBlock) (he : e ≠ T) : Blk w' b cs T := by
 refine (hg.block b hb.lt ?_).trans hb
 rcases own_type_ne ho (show w.heap[b]? = some (.cells cs.toArray T (0, 0)) from hb) he with h | h
 ·rw [h]; simp
 ·exact fun e => h e.symm
theorem SatAt.push (h : SatAt B w rb k S I la LN cap ls es EL p c) (hne : rb ≠ k) {q : Edge} {w4 : World} {p4 : Option Addr} {c4 : Nat} (hg : w.grownBy w4 (Value.slice p EL c).ownBlock) (ho : w4.ownsRow B 66 3 (.slice p4 (EL + 1) c4) (EL + 1) (es.flatMap encE ++ encE q)) :
  Blk w4 k [.int .i64 S, .int .i64 I, .slice la LN cap, .slice p EL c] 32 ∧ SatAt B (w4.setCell ⟨k, 3, none⟩ (.slice p4 (EL + 1) c4)) rb k S I la LN cap ls (es ++ [q]) (EL + 1) p4 c4
   ∧ (∀ {base e size n : Nat} {v : Value} {xs : List Value}, w.ownsRow base e size v n xs → e ≠ 66 → e ≠ 32 → (w4.setCell ⟨k, 3, none⟩ (.slice p4 (EL + 1) c4)).ownsRow base e size v n xs)
   ∧ (∀ {b : Nat} {cs : List Value} {T : TypeId}, Blk w b cs T → 66 ≠ T → b ≠ k → Blk (w4.setCell ⟨k, 3, none⟩ (.slice p4 (EL + 1) c4)) b cs T) := by
 have hb4 := blk_rowS h.box h.eds hg (by decide)
 have hown : ∀ {base e size n : Nat} {v : Value} {xs : List Value}, w.ownsRow base e size v n xs → e ≠ 66 → e ≠ 32 → (w4.setCell ⟨k, 3, none⟩ (.slice p4 (EL + 1) c4)).ownsRow base e size v n xs := fun h1 h2 h3 =>
  own_setsS (h1.kept hg (own_types h1 h.eds h2)) hb4 h3 3 _
 have hblk : ∀ {b : Nat} {cs : List Value} {T : TypeId}, Blk w b cs T → 66 ≠ T → b ≠ k → Blk (w4.setCell ⟨k, 3, none⟩ (.slice p4 (EL + 1) c4)) b cs T := fun h1 h2 h3 =>
  (blk_rowS h1 h.eds hg h2).setOther _ _ h3
 refine ⟨hb4, ⟨by rw [List.length_append, List.length_singleton, h.len], hblk h.res (by decide) hne, hb4.set 3 _, hown h.lab (by decide) (by decide), ?_⟩, hown, hblk⟩
 rw [List.flatMap_append, List.flatMap_singleton]
 exact own_setsS ho hb4 (by decide) 3 _

end Go.Proofs.YtjoacldbgnphkaaGreatDoor

namespace Go.Proofs.YtjoacldbgnphkaaGreatDoor
open Go Go.RowKit

theorem CloneS_own (lo : Nat) (v : Value) (xs : List ByteArray) (w : World) (hv : SliceK 1 encS lo w v xs) (hz : xs.length ≤ 1048576) :
  Calls Tryz.prog 77 #[v] w fun e w' => ∃ v', e = .returned v' ∧ w'.ownsRow w.heap.size 9 1 v' xs.length (xs.map Value.string) ∧ Below w.heap.size w w' := by
 obtain ⟨a, c, rfl, hn, hc, hrow⟩ := hv
 cases a with
 | none =>
  have h0 : xs.length = 0 := by
   rcases hrow with h | ⟨b, o, h, -⟩
   ·exact h
   ·cases h
  have hx : xs = [] := List.eq_nil_of_length_eq_zero h0
  subst hx
  refine (Tryz.slices_Clone_string_nil _ _ w).mono ?_
  rintro e w' ⟨rfl, rfl⟩
  exact ⟨_, rfl, World.ownsRow_nil _ _ _ _, Below.refl _ _⟩
 | some a =>
  rcases hrow with h0 | ⟨b, o, h, -, hb, hcell⟩
  ·have hx : xs = [] := List.eq_nil_of_length_eq_zero h0
   subst hx
   refine (Tryz.slices_Clone_string_zero a c w).mono ?_
   rintro e w' ⟨v', rfl, ho, -, hb⟩
   exact ⟨v', rfl, ho, hb⟩
  ·cases h
   refine (Tryz.slices_Clone_string b o xs.length c xs w (Nat.le_refl _) (by omega) (fun j hj => ?_)).mono ?_
   ·have := hcell j hj 0 (by omega)
    rw [List.getD_eq_getElem?_getD, List.getElem?_eq_getElem hj]
    simpa [encS] using this
   ·rintro e w' ⟨v', rfl, ho, -, hb2⟩
    rw [List.take_length] at ho
    exact ⟨v', rfl, ho, hb2⟩

end Go.Proofs.YtjoacldbgnphkaaGreatDoor

namespace Go.Proofs.YtjoacldbgnphkaaGreatDoor
open Go Go.RowKit


theorem info_edgeP : (Tryz.prog.info? 66).map (fun i => (i.zero, i.size, i.bytes)) = some (some (.agg #[.int .i64 0, .int .i64 0, .int .i64 0]), 3, 24) := by kernel_rfl
def RetSatP (t : Lts) (w : World) (e : Ending) (w' : World) : Prop :=
 ∃ lv ev, e = .returned (.agg #[.int .i64 t.states, .int .i64 t.initial, lv, ev]) ∧ Below w.heap.size w w' ∧ OwnLts w.heap.size w' lv ev (satT t)
theorem satp_results {w : World} {b : Nat} {v0 v1 v2 v3 : Value} {tmps : Array Value} (hc : tmps.getD 2 undef = .pointer (some ⟨b, 0, none⟩)) (hb : Blk w b [v0, v1, v2, v3] 32) :
  (results Tryz.f55 tmps).run Tryz.prog w = .ok (.agg #[v0, v1, v2, v3]) w := by
 have h0 := hb.cell 0 rfl
 have h1 := hb.cell 1 rfl
 have h2 := hb.cell 2 rfl
 have h3 := hb.cell 3 rfl
 simp only [Array.getD_eq_getD_getElem?] at hc
 simp [results, Tryz.results55, go_sem, hc, h0, h1, h2, h3, Result.andThen]
/-- How the struct variable of saturated lies behind its composite literal. -/
def LitP (W wx : World) (LN : Nat) (S I : Int) (xs : List Value) (v3 : Value) : Prop := ∃ (k cap : Nat) (la : Option Addr), v3 = .pointer (some ⟨k, 0, none⟩) ∧ Below W.heap.size W wx ∧ Blk wx k [.int .i64 S, .int .i64 I, .slice la LN cap, .slice none 0 0] 32 ∧ W.heap.size ≤ k
  ∧ wx.ownsRow W.heap.size 9 1 (.slice la LN cap) LN xs
theorem litp_sets {W w8 : World} {LN k cap : Nat} {la : Option Addr} {S I : Int} {xs : List Value} (hB : Below W.heap.size W w8) (hb : Blk w8 k [.int .i64 0, .int .i64 0, .slice none 0 0, .slice none 0 0] 32) (hwk : W.heap.size ≤ k) (ho : w8.ownsRow W.heap.size 9 1 (.slice la LN cap) LN xs) :
  LitP W ((((w8.setCell ⟨k, 0, none⟩ (.int .i64 S)).setCell ⟨k, 1, none⟩ (.int .i64 I)).setCell ⟨k, 2, none⟩ (.slice la LN cap)).setCell ⟨k, 3, none⟩ (.slice none 0 0)) LN S I xs (.pointer (some ⟨k, 0, none⟩)) :=
 ⟨k, cap, la, rfl, (((hB.setCell hwk _).setCell hwk _).setCell hwk _).setCell hwk _, (((hb.set 0 _).set 1 _).set 2 _).set 3 _, hwk,
  own_setsS (own_setsS (own_setsS (own_setsS ho hb (by decide) 0 _) (hb.set 0 _) (by decide) 1 _) ((hb.set 0 _).set 1 _) (by decide) 2 _) (((hb.set 0 _).set 1 _).set 2 _) (by decide) 3 _⟩
theorem litp_new {W w8 : World} {LN cap : Nat} {la : Option Addr} {S I : Int} {xs : List Value} (hB : Below W.heap.size W w8) (ho : w8.ownsRow W.heap.size 9 1 (.slice la LN cap) LN xs) :
  LitP W (w8.alloc (.cells #[.int .i64 S, .int .i64 I, .slice la LN cap, .slice none 0 0] 32)) LN S I xs (.pointer (some ⟨w8.heap.size, 0, none⟩)) :=
 ⟨w8.heap.size, cap, la, rfl, hB.alloc hB.size _, Blk.new w8 _ _, hB.size, ho.alloc _⟩

set_option maxRecDepth 100000 in
set_option maxHeartbeats 4000000 in
theorem saturated_any (lo : Nat) (t : Lts) (lv ev : Value) (w : World) (hv : Valid t) (hl : SliceK 1 encS lo w lv t.labels) (he : SliceK 3 encE lo w ev t.edges) :
  Calls Tryz.prog 55 #[.agg #[.int .i64 t.states, .int .i64 t.initial, lv, ev]] w (RetSatP t w) := by
 obtain ⟨al, cl, rfl, hln, hlc, hlrow⟩ := id hl
 obtain ⟨N, hN⟩ : ∃ N : Nat, (N : Int) = t.states := ⟨t.states.toNat, by have := hv.st0; omega⟩
 have HV := Lib.hid hv
 have hN40 : N ≤ 40 := by have := hv.st1; omega
 have hl12 := hv.labels.most
 obtain ⟨tb, htb⟩ : ∃ tb, tb = w.heap.size := ⟨_, rfl⟩
 obtain ⟨W, hW⟩ : ∃ W, W = (w.alloc (.cells #[.int .i64 t.states, .int .i64 t.initial, .slice al t.labels.length cl, ev] 32)).alloc (.cells #[.int .i64 0, .int .i64 0, .slice none 0 0, .slice none 0 0] 32) := ⟨_, rfl⟩
 have hbW : Below w.heap.size w W := by rw [hW]; exact ((Below.refl _ _).alloc (Nat.le_refl _) _).alloc (by simp) _
 have hT : Blk W tb [.int .i64 t.states, .int .i64 t.initial, .slice al t.labels.length cl, ev] 32 := by rw [hW, htb]; exact (Blk.new w _ _).alloc _
 have hR : Blk W (tb + 1) [.int .i64 0, .int .i64 0, .slice none 0 0, .slice none 0 0] 32 := by
  have := Blk.new (w.alloc (.cells #[.int .i64 t.states, .int .i64 t.initial, .slice al t.labels.length cl, ev] 32)) [.int .i64 0, .int .i64 0, .slice none 0 0, .slice none 0 0] 32
  rw [World.size_alloc, ← htb] at this
  rw [hW]
  exact this
 have hszW : W.heap.size = tb + 1 + 1 := by rw [hW, htb]; simp
 obtain ⟨LN, hLN⟩ : ∃ LN, LN = t.labels.length := ⟨_, rfl⟩
 have HCL : Hid (∀ X, Below W.heap.size W X → Calls Tryz.prog 77 #[.slice al LN cl] X fun e w'' => ∃ la cap, e = .returned (.slice la LN cap) ∧ w''.ownsRow W.heap.size 9 1 (.slice la LN cap) LN (t.labels.map Value.string) ∧ Below X.heap.size X w'') := fun X hX => by
  have h := CloneS_own lo (.slice al t.labels.length cl) t.labels X ((hl.below hbW).below hX) (by omega)
  rw [hLN]
  refine h.mono ?_
  rintro e w'' ⟨v', rfl, ho, hb2⟩
  obtain ⟨la, cap, rfl, -, -⟩ := owns_slice ho
  exact ⟨la, cap, rfl, own_lower ho hX.size, hb2⟩
 have HWK : Hid (∀ (X : World) (x : Nat) (l : ByteArray), Below W.heap.size W X → x < N → Calls Tryz.prog 78 #[.agg #[.int .i64 t.states, .int .i64 t.initial, .slice al LN cl, ev], .int .i64 x, .string l] X (MadeNums (wkL t x l) X)) := fun X x l hX hx => by
  rw [hLN]
  exact weakly_any lo t _ _ x l X hv ⟨by omega, by omega⟩ ((hl.below hbW).below hX) ((he.below hbW).below hX)
 rw [← hLN] at hT hW hln hl12
 have HLROW : Hid (RowK 1 encS lo W al t.labels) := hlrow.below hbW
 have HSRC : Hid (∀ X, Below W.heap.size W X → X.cell? ⟨tb, 0, none⟩ = some (.int .i64 N) ∧ X.cell? ⟨tb, 1, none⟩ = some (.int .i64 t.initial) ∧ X.cell? ⟨tb, 2, none⟩ = some (.slice al LN cl)) := fun X hX => by
  rw [hN]
  exact ⟨(hT.below hX).cell 0 rfl, (hT.below hX).cell 1 rfl, (hT.below hX).cell 2 rfl⟩
 have HNS := Lib.hid hN
 have HLN := Lib.hid hLN
 have HT := Lib.hid hT
 have HR := Lib.hid hR
 have HBW := Lib.hid hbW
 have HW := Lib.hid hW
 have HTB := Lib.hid htb
 have HSZ := Lib.hid hszW
 have hsW := hbW.size
 have htW : tb < W.heap.size := hT.lt
 have HSN : Hid (t.states.toNat = N) := by unfold Hid; omega
 have q0W := (HSRC.out W (Below.refl _ _)).1
 have q1W := (HSRC.out W (Below.refl _ _)).2.1
 have q2W := (HSRC.out W (Below.refl _ _)).2.2
 obtain ⟨i3, hi3, hz30, hz31, hz32⟩ := info_parts info_edgeP
 clear hv hl he hlrow hN htb hW hbW hT hR hszW hlc
 rw [← HLN.out]
 clear hLN
 go_enter Tryz.func55, Tryz.ntmps55
 go_wp2
 rw [← HW.out]
 (try rw [← HTB.out])
 go_cut [3] from 9 (fun v3 wx => LitP W wx LN N t.initial (t.labels.map .string) v3)
 case first =>
  have HD : Hid (Below W.heap.size W W.drew) := (Below.refl _ _).drew
  have HD1 : Hid (∀ a, Below W.heap.size W (W.alloc a).drew) := fun a => ((Below.refl _ _).alloc (Nat.le_refl _) _).drew
  have HZ0 : Hid (Blk ((W.alloc (.cells #[.int .i64 0, .int .i64 0, .slice none 0 0, .slice none 0 0] 32)).drew) W.heap.size [.int .i64 0, .int .i64 0, .slice none 0 0, .slice none 0 0] 32) := Blk.new W _ _
  go_region_held3 (fun w' => w'.cell? ⟨tb, 0, none⟩ = some (.int .i64 N) ∧ w'.cell? ⟨tb, 1, none⟩ = some (.int .i64 t.initial) ∧ w'.cell? ⟨tb, 2, none⟩ = some (.slice al LN cl))
   (first
    | with_reducible exact HSRC.out _ (Below.refl _ _)
    | with_reducible exact HSRC.out _ HD.out
    | with_reducible exact HSRC.out _ (HD1.out _)
    | with_reducible exact HSRC.out _ hB9
    | with_reducible exact HSRC.out _ (hB9.alloc hB9.size _)
    | (with_reducible refine HSRC.out _ ((((Below.setCell hB9 ?_ _).setCell ?_ _).setCell ?_ _).setCell ?_ _) <;> first | exact Nat.le_refl _ | omega)
    | go_keep)
   (first
    | (go_at_call 77; refine Calls.mono (HCL.out _ (by first | with_reducible exact HD.out | with_reducible exact HD1.out _)) ?_; rintro e w9 ⟨la, cap, rfl, hoC, hbC⟩; have hB9 : Below W.heap.size W w9 := (by first | with_reducible exact HD.out.trans (hbC.mono HD.out.size) | with_reducible exact (HD1.out _).trans (hbC.mono (HD1.out _).size)); have Z1 := HSRC.out _ hB9; (try (have bk : Blk w9 W.heap.size [.int .i64 0, .int .i64 0, .slice none 0 0, .slice none 0 0] 32 := (by with_reducible exact HZ0.out.below hbC); have HBK := Lib.hid bk; have zc0 := bk.cell 0 rfl; have zf0 := bk.frozen 0; have zc1 := bk.cell 1 rfl; have zf1 := bk.frozen 1; have zc2 := bk.cell 2 rfl; have zf2 := bk.frozen 2; have zc3 := bk.cell 3 rfl; have zf3 := bk.frozen 3; clear bk)))
    | fail)
  all_goals (
   first
    | (have h1 := litp_sets (S := N) (I := t.initial) hB9 HBK.out (Nat.le_refl _) hoC; go_wp2_with fail; go_meet; case rel => exact h1)
    | (have h1 := litp_new (S := N) (I := t.initial) hB9 hoC; go_wp2_with fail; go_meet; case rel => exact h1))
 obtain ⟨k, cap, la, rfl, hb2, hk2, hkW, hol⟩ := hcut
 obtain ⟨w2, rfl⟩ : ∃ w2 : World, w2 = wc := ⟨_, rfl⟩
 have hrk : tb + 1 ≠ k := by have := HSZ.out; omega
 have HSA : Hid (SatAt W.heap.size w2 (tb + 1) k N t.initial la LN cap t.labels (satE t 0) 0 none 0) := ⟨rfl, HR.out.below hb2, hk2, hol, World.ownsRow_nil _ _ _ _⟩
 have HB2 := Lib.hid hb2
 have HRK := Lib.hid hrk
 have HLAB : Hid (∀ i, i < LN → i < t.labels.length) := fun i h => by rw [← HLN.out]; exact h
 have q0 := (HSRC.out w2 hb2).1
 have q2 := (HSRC.out w2 hb2).2.2
 clear hb2 hk2 hol q0W q1W q2W hrk
 go_wp2
 clear q0 q2
 go_loopw [19] (fun v19 wr => ∃ (x EL : Nat) (p : Option Addr) (c : Nat), x ≤ N ∧ v19 = .int .i64 x ∧ Below W.heap.size W wr ∧ SatAt W.heap.size wr (tb + 1) k N t.initial la LN cap t.labels (satE t x) EL p c) (fun v19 _ => N - (intOf v19).toNat)
 case atStart => exact ⟨0, 0, _, 0, Nat.zero_le _, rfl, HB2.out, HSA.out⟩
 case round =>
  clear HB2 HSA
  obtain ⟨x, EL, p, c, hx, rfl, hbl, hsa⟩ := hrel
  obtain ⟨wC, rfl⟩ : ∃ wC : World, wC = wr := ⟨_, rfl⟩
  have HBC := Lib.hid hbl
  have HSC := Lib.hid hsa
  have q0 := (HSRC.out wC hbl).1
  have q2 := (HSRC.out wC hbl).2.2
  clear hsa hbl
  by_cases hlx : x < N
  ·have HSC0 : Hid (SatAt W.heap.size wC (tb + 1) k N t.initial la LN cap t.labels (satE t x ++ satK t x 0) EL p c) := by unfold Hid; rw [satK_zero, List.append_nil]; exact HSC.out
   clear HSC
   go_wp2
   clear q0 q2
   go_loopw [25] (fun v25 wr => ∃ (i EL : Nat) (p : Option Addr) (c : Nat), i ≤ LN ∧ v25 = .int .i64 i ∧ Below W.heap.size W wr ∧ SatAt W.heap.size wr (tb + 1) k N t.initial la LN cap t.labels (satE t x ++ satK t x i) EL p c) (fun v25 _ => LN - (intOf v25).toNat)
   case atStart => exact ⟨0, EL, p, c, Nat.zero_le _, rfl, HBC.out, HSC0.out⟩
   case round =>
    clear HBC HSC0
    obtain ⟨i, EL, p, c, hi, rfl, hbl, hsa⟩ := hrel
    obtain ⟨wD, rfl⟩ : ∃ wD : World, wD = wr := ⟨_, rfl⟩
    have HBD := Lib.hid hbl
    have HSD := Lib.hid hsa
    have hsD := hbl.size
    clear hsa
    by_cases hli : i < LN
    ·have hiL := HLAB.out i hli
     obtain ⟨bl, ol, rfl, -, hblt, hlc1⟩ := (HLROW.out.below hbl).one hiL
     simp only [encS, List.getElem?_cons_zero] at hlc1
     obtain ⟨l, hlx2⟩ : ∃ l, l = labI t i := ⟨_, rfl⟩
     rw [← labI_get hiL, ← hlx2] at hlc1
     have hWl := HWK.out wD x l hbl hlx
     obtain ⟨WK, hWKe⟩ : ∃ WK, WK = wkL t x l := ⟨_, rfl⟩
     rw [← hWKe] at hWl
     have HWL := Lib.hid hWl
     have HROW : Hid (WK.map (fun y => (⟨(x : Int), (i : Int), y⟩ : Edge)) = satR t x i) := by
      unfold Hid
      rw [hWKe, hlx2]
      exact wkL_row HV.out (by have := HNS.out; omega)
     have HLEN : Hid (WK.length ≤ 40) := by
      have h1 := satTo_len t x i t.states.toNat
      have h2 : (satR t x i).length = WK.length := by rw [← HROW.out, List.length_map]
      unfold satR at h2
      have h3 := HSN.out
      unfold Hid
      omega
     have t0 := (HT.out.below hbl).cell 0 rfl
     have t1 := (HT.out.below hbl).cell 1 rfl
     have t2 := (HT.out.below hbl).cell 2 rfl
     have t3 := (HT.out.below hbl).cell 3 rfl
     clear hiL hlx2 hWl hWKe hbl
     go_wp2_with fail
     refine Calls.mono HWL.out ?_
     rintro e wE ⟨qv, rfl, hbE, hoQ⟩
     obtain ⟨qa, qc, rfl, -, -⟩ := owns_slice hoQ
     obtain ⟨WN, hWN⟩ : ∃ WN, WN = WK.length := ⟨_, rfl⟩
     rw [← hWN] at hoQ
     rw [← hWN]
     have HWN := Lib.hid hWN
     have hWN40 : WN ≤ 40 := by rw [hWN]; exact HLEN.out
     have HBE : Hid (Below W.heap.size W wE) := HBD.out.trans (hbE.mono hsD)
     have HSE : Hid (SatAt W.heap.size wE (tb + 1) k N t.initial la LN cap t.labels (satE t x ++ satK t x i ++ (WK.take 0).map fun y => (⟨(x : Int), (i : Int), y⟩ : Edge)) EL p c) := by unfold Hid; rw [List.take_zero, List.map_nil, List.append_nil]; exact HSD.out.below hbE
     have HQE : Hid (wE.ownsRow W.heap.size 2 1 (.slice qa WN qc) WN (WK.map (Value.int .i64))) := own_lower hoQ hsD
     clear hbE hoQ HWL HBD HSD t0 t1 t2 t3 hlc1 hblt hWN
     go_wp2
     go_loopw [35] (fun v35 wr => ∃ (m EL : Nat) (p : Option Addr) (c : Nat), m ≤ WN ∧ v35 = .int .i64 m ∧ Below W.heap.size W wr ∧ SatAt W.heap.size wr (tb + 1) k N t.initial la LN cap t.labels (satE t x ++ satK t x i ++ (WK.take m).map fun y => (⟨(x : Int), (i : Int), y⟩ : Edge)) EL p c ∧ wr.ownsRow W.heap.size 2 1 (.slice qa WN qc) WN (WK.map (Value.int .i64))) (fun v35 _ => WN - (intOf v35).toNat)
     case atStart => exact ⟨0, EL, p, c, Nat.zero_le _, rfl, HBE.out, HSE.out, HQE.out⟩
     case round =>
      clear HBE HSE HQE
      obtain ⟨m, EL, p, c, hm, rfl, hbl, hsa, hoq⟩ := hrel
      obtain ⟨wF, rfl⟩ : ∃ wF : World, wF = wr := ⟨_, rfl⟩
      have HBF := Lib.hid hbl
      have HSF := Lib.hid hsa
      have HQF := Lib.hid hoq
      have hsF := hbl.size
      have hEL : EL ≤ 20000 := by
       have h1 := sat_few HV.out (k := x) (i := i) (m := t.states.toNat) (by rw [HSN.out]; omega) (by rw [← HLN.out]; omega) (Nat.le_refl _)
       have h2 : ((WK.take m).map fun y => (⟨(x : Int), (i : Int), y⟩ : Edge)).length ≤ (satTo t x i t.states.toNat).length := by
        have h3 : satTo t x i t.states.toNat = WK.map fun y => (⟨(x : Int), (i : Int), y⟩ : Edge) := HROW.out.symm
        rw [h3, List.length_map, List.length_map]
        rw [List.length_take]
        exact Nat.min_le_right _ _
       rw [hsa.len]
       rw [List.length_append] at h1 ⊢
       omega
      clear hsa hbl
      by_cases hlm : m < WN
      ·have hmk : m < WK.length := by rw [← HWN.out]; exact hlm
       obtain ⟨b, o, rfl, hcq⟩ : ∃ b o, qa = some ⟨b, o, none⟩ ∧ wF.cell? ⟨b, o + m, none⟩ = some (.int .i64 WK[m]) := by
        have hS : SliceK 1 encI W.heap.size wF (.slice qa WN qc) WK := SliceK.of_owns (e := 2) encI_len HWN.out (by rw [flat_encI]; exact hoq)
        obtain ⟨a2, c2, h2, -, -, hrow⟩ := hS
        simp only [Value.slice.injEq] at h2
        obtain ⟨rfl, -, rfl⟩ := h2
        obtain ⟨b, o, e1, -, -, c⟩ := hrow.one hmk
        simp only [encI, List.getElem?_cons_zero] at c
        exact ⟨b, o, e1, c⟩
       obtain ⟨ES, hES⟩ : ∃ ES, ES = satE t x ++ satK t x i ++ (WK.take m).map fun y => (⟨(x : Int), (i : Int), y⟩ : Edge) := ⟨_, rfl⟩
       rw [← hES] at HSF
       have HTT : Hid ((satE t x ++ satK t x i ++ (WK.take (m + 1)).map fun y => (⟨(x : Int), (i : Int), y⟩ : Edge)) = ES ++ [⟨(x : Int), (i : Int), WK[m]⟩]) := by
        unfold Hid
        rw [List.take_succ_eq_append_getElem hmk, List.map_append, hES, ← List.append_assoc]
        rfl
       obtain ⟨q, hq⟩ : ∃ q, q = WK[m] := ⟨_, rfl⟩
       rw [← hq] at hcq HTT
       have b3 := HSF.out.box.cell 3 rfl
       have hkl := HSF.out.box.lt
       clear hES hq hoq hmk
       go_wp2_with (at_builtin; refine wpList_append_own _ rfl _ _ 30 rfl W.heap.size 66 i3 (.agg #[.int .i64 0, .int .i64 0, .int .i64 0]) 3 24 Tryz.underlying30 hi3 hz30 hz31 hz32 rfl (by decide) _ _ _ rfl (HSF.out.eds.alloc _) ⟨wF.heap.size, 0, none⟩ 1 1 (encE ⟨(x : Int), (i : Int), q⟩) rfl rfl ?c1 ?c2 ?c3 ?c4 ?c5 ?_)
       case c1 => exact World.news_of_block (cs := #[.int .i64 x, .int .i64 i, .int .i64 q]) (t := 66) (fr := (0, 0)) (heap_alloc_new wF _)
       case c2 => intro u hu; simp [encE] at hu; rcases hu with rfl | rfl | rfl <;> rfl
       case c3 => first | omega | (simp [maxLen]; omega)
       case c4 => first | omega | (simp; omega)
       case c5 => first | omega | (simp; omega)
       intro v' w4 ho4 hg4 _
       have hal : Below wF.heap.size wF (wF.alloc (.cells #[.int .i64 x, .int .i64 i, .int .i64 q] 66)) := (Below.refl _ _).alloc (Nat.le_refl _) _
       obtain ⟨p4, c4, rfl, -, -⟩ := owns_slice ho4
       obtain ⟨hb4, hs4, hown, -⟩ := (HSF.out.below hal).push HRK.out hg4 ho4
       have HB4 : Hid (Below W.heap.size W w4) := (HBF.out.trans (hal.mono hsF)).grown hg4 (by simp; omega) (fun b e => (HSF.out.eds.lt b e).1)
       have HS4 : Hid (SatAt W.heap.size (w4.setCell ⟨k, 3, none⟩ (.slice p4 (EL + 1) c4)) (tb + 1) k N t.initial la LN cap t.labels (satE t x ++ satK t x i ++ (WK.take (m + 1)).map fun y => (⟨(x : Int), (i : Int), y⟩ : Edge)) (EL + 1) p4 c4) := by
        unfold Hid
        rw [HTT.out]
        exact hs4
       have HQ4 : Hid ((w4.setCell ⟨k, 3, none⟩ (.slice p4 (EL + 1) c4)).ownsRow W.heap.size 2 1 (.slice (some ⟨b, o, none⟩) WN qc) WN (WK.map (Value.int .i64))) := hown (owns_below HQF.out hal) (by decide) (by decide)
       have o34 := hb4.cell 3 rfl
       have o35 := hb4.frozen 3
       have HB5 : Hid (Below W.heap.size W (w4.setCell ⟨k, 3, none⟩ (.slice p4 (EL + 1) c4))) := HB4.out.setCell hkW _
       clear ho4 hg4 hal hb4 hs4 hown b3 hcq
       go_wp2
       go_roundw
       case rel => exact ⟨m + 1, EL + 1, p4, c4, by omega, by go_num, HB5.out, HS4.out, HQ4.out⟩
       case measure => simp [intOf]; omega
      ·have HSS : Hid (SatAt W.heap.size wF (tb + 1) k N t.initial la LN cap t.labels (satE t x ++ satK t x (i + 1)) EL p c) := by
        have hmn : m = WK.length := by rw [← HWN.out]; omega
        have h := HSF.out
        rw [hmn, List.take_length, HROW.out, List.append_assoc] at h
        unfold Hid
        rw [satK_succ]
        exact h
       clear hoq
       go_wp2
       go_roundw
       case rel => exact ⟨i + 1, EL, p, c, by omega, by go_num, HBF.out, HSS.out⟩
       case measure => simp [intOf]; omega
    ·have HSS : Hid (SatAt W.heap.size wD (tb + 1) k N t.initial la LN cap t.labels (satE t (x + 1)) EL p c) := by
      have hin : i = t.labels.length := by rw [← HLN.out]; omega
      have h := HSD.out
      rw [hin] at h
      unfold Hid
      rw [satE_succ]
      exact h
     clear hbl
     go_wp2
     go_roundw
     case rel => exact ⟨x + 1, EL, p, c, by omega, by go_num, HBD.out, HSS.out⟩
     case measure => simp [intOf]; omega
  ·have hxn : x = N := by omega
   have HSX : Hid (SatAt W.heap.size wC (tb + 1) k N t.initial la LN cap t.labels (satT t).edges EL p c) := by
    have h := HSC.out
    rw [hxn] at h
    show SatAt _ _ _ _ _ _ _ _ _ _ (satE t t.states.toNat) _ _ _
    rw [HSN.out]
    exact h
   have o0 := HSX.out.box.cell 0 rfl
   have o1 := HSX.out.box.cell 1 rfl
   have o2 := HSX.out.box.cell 2 rfl
   have o3 := HSX.out.box.cell 3 rfl
   have r0 := HSX.out.res.cell 0 rfl
   have r1 := HSX.out.res.cell 1 rfl
   have r2 := HSX.out.res.cell 2 rfl
   have r3 := HSX.out.res.cell 3 rfl
   have s0 := HSX.out.res.frozen 0
   have s1 := HSX.out.res.frozen 1
   have s2 := HSX.out.res.frozen 2
   have s3 := HSX.out.res.frozen 3
   clear hxn HSC q0 q2
   go_wp2
   refine bodyPost_ret (satp_results rfl ((((HSX.out.res.set 0 _).set 1 _).set 2 _).set 3 _)) rfl ?_
   have hwr : w.heap.size ≤ tb + 1 := by have := HTB.out; omega
   refine ⟨_, _, by rw [HNS.out], ((((HBW.out.trans (HBC.out.mono hsW)).setCell hwr _).setCell hwr _).setCell hwr _).setCell hwr _, ?_, ?_⟩
   ·show World.ownsRow _ _ _ _ _ t.labels.length _
    rw [← HLN.out]
    exact own_lower (own_setsS (own_setsS (own_setsS (own_setsS HSX.out.lab HSX.out.res (by decide) 0 _) (HSX.out.res.set 0 _) (by decide) 1 _) ((HSX.out.res.set 0 _).set 1 _) (by decide) 2 _) (((HSX.out.res.set 0 _).set 1 _).set 2 _) (by decide) 3 _) hsW
   ·rw [← HSX.out.len]
    exact own_lower (own_setsS (own_setsS (own_setsS (own_setsS HSX.out.eds HSX.out.res (by decide) 0 _) (HSX.out.res.set 0 _) (by decide) 1 _) ((HSX.out.res.set 0 _).set 1 _) (by decide) 2 _) (((HSX.out.res.set 0 _).set 1 _).set 2 _) (by decide) 3 _) hsW

end Go.Proofs.YtjoacldbgnphkaaGreatDoor

namespace Go.Proofs.YtjoacldbgnphkaaGreatDoor
open Go Go.RowKit

def isVal (n : Int) : Bool := decide (0 ≤ n) && decide (n ≤ 63)

theorem areValues1_any (n : Int) (w : World) : Calls Tryz.prog 150 #[.int .i64 n] w fun e w' => e = .returned (.bool (!isVal n)) ∧ w = w' := by
 go_enter Tryz.func150, Tryz.ntmps150
 go_wp2_with fail
 refine (isValue_any _ _).mono ?_
 rintro e w' ⟨rfl, rfl⟩
 have HF : Hid ((!decide (0 ≤ n) || !decide (n ≤ 63)) = !isVal n) := by unfold Hid isVal; rw [Bool.not_and]
 go_wp2_with fail
 go_ret
 exact ⟨ret_bool HF.out, rfl⟩

set_option maxHeartbeats 1000000 in
theorem IndexFunc_vals (lo : Nat) (v : Value) (xs : List Int) (w : World) (hv : SliceK 1 encI lo w v xs) :
  Calls Tryz.prog 65 #[v, .func (.func 150) #[] #[]] w fun e w' => ∃ r : Int, e = .returned (.int .i64 r) ∧ decide (0 ≤ r) = !xs.all isVal ∧ w = w' := by
 obtain ⟨a, c, rfl, hcn, hcc, hrow⟩ := hv
 go_enter Tryz.func65, Tryz.ntmps65
 go_wp2_with fail
 go_loop [8] (fun i => ∃ k : Nat, k ≤ xs.length ∧ i = .int .i64 k ∧ ∀ j (h : j < xs.length), j < k → isVal xs[j] = true) (fun i => xs.length - (intOf i).toNat)
 case atStart => exact ⟨0, Nat.zero_le _, rfl, fun _ _ h => by omega⟩
 case round =>
  obtain ⟨k, hk, rfl, ha⟩ := hrel
  have HA := Lib.hid ha
  clear ha
  by_cases hlt : k < xs.length
  ·obtain ⟨b1, o1, rfl, -, hbs, c1⟩ := hrow.one hlt
   simp only [encI, List.getElem?_cons_zero] at c1
   clear hrow
   obtain ⟨b, hb⟩ : ∃ b, isVal xs[k] = b := ⟨_, rfl⟩
   have HB := Lib.hid hb
   clear hb
   go_wp2_with fail
   refine (areValues1_any _ _).mono ?_
   rintro e w' ⟨rfl, rfl⟩
   rw [HB.out]
   cases b
   ·go_wp2_with fail
    go_ret
    refine ⟨_, rfl, ?_, rfl⟩
    have h1 : xs.all isVal = false := by
     rw [List.all_eq_false]
     exact ⟨xs[k], List.getElem_mem _, by rw [HB.out]; simp⟩
    rw [h1]; simp
   ·go_wp2_with fail
    go_round
    case rel => exact ⟨k + 1, by omega, by go_num, fun j h hj => by
     by_cases e : j = k
     ·subst e; exact HB.out
     ·exact HA.out j h (by omega)⟩
    case measure => simp [intOf]; omega
  ·clear hrow
   go_wp2_with fail
   go_ret
   refine ⟨_, rfl, ?_, rfl⟩
   have h1 : xs.all isVal = true := by
    rw [List.all_eq_true]
    intro x hxm
    obtain ⟨j, hj, rfl⟩ := List.mem_iff_getElem.1 hxm
    exact HA.out j hj (by omega)
   rw [h1]; simp

theorem ContainsFunc_vals (lo : Nat) (v : Value) (xs : List Int) (w : World) (hv : SliceK 1 encI lo w v xs) :
  Calls Tryz.prog 43 #[v, .func (.func 150) #[] #[]] w fun e w' => e = .returned (.bool (!xs.all isVal)) ∧ w = w' := by
 have HV := Lib.hid hv
 clear hv
 go_enter Tryz.func43, Tryz.ntmps43
 go_wp2_with fail
 refine (IndexFunc_vals lo v xs _ HV.out).mono ?_
 rintro e w' ⟨r, rfl, hr, rfl⟩
 have HR := Lib.hid hr
 clear hr
 go_wp2_with fail
 go_ret
 exact ⟨ret_bool HR.out, rfl⟩

theorem areValues_any (lo : Nat) (v : Value) (xs : List Int) (w : World) (hv : SliceK 1 encI lo w v xs) :
  Calls Tryz.prog 134 #[v] w fun e w' => e = .returned (.bool (xs.all isVal)) ∧ w = w' := by
 have HV := Lib.hid hv
 clear hv
 go_enter Tryz.func134, Tryz.ntmps134
 go_wp2_with fail
 refine (ContainsFunc_vals lo v xs _ HV.out).mono ?_
 rintro e w' ⟨rfl, rfl⟩
 go_wp2_with fail
 go_ret
 exact ⟨ret_bool (by simp), rfl⟩

end Go.Proofs.YtjoacldbgnphkaaGreatDoor

namespace Go.Proofs.YtjoacldbgnphkaaGreatDoor
open Go Go.RowKit

/-- Words read as numbers. -/
def decs (ss : List ByteArray) : List Int := ss.map fun s => (readDec s.data.toList).getD 0
def decsOk (ss : List ByteArray) : Bool := ss.all fun s => (readDec s.data.toList).isSome
def RetNums (ss : List ByteArray) (w : World) (e : Ending) (w' : World) : Prop :=
 ∃ v, e = .returned (.tuple #[v, .bool (decsOk ss)]) ∧ Below w.heap.size w w' ∧ (decsOk ss = true → w'.ownsRow w.heap.size 2 1 v (decs ss).length ((decs ss).map (Value.int .i64)))

theorem decsOk_none {ss : List ByteArray} {j : Nat} (h : j < ss.length) (hn : readDec ss[j].data.toList = none) : decsOk ss = false := by
 unfold decsOk
 rw [List.all_eq_false]
 exact ⟨ss[j], List.getElem_mem _, by rw [hn]; simp⟩

set_option maxRecDepth 100000 in
set_option maxHeartbeats 2000000 in
theorem readNumbers_any (lo : Nat) (v : Value) (ss : List ByteArray) (w : World) (hs : ∀ i (h : i < ss.length), ss[i].size ≤ 1073741824) (hl : ss.length ≤ 1073741824) (hv : SliceK 1 encS lo w v ss) (g : Glob w) :
  Calls Tryz.prog 105 #[v] w (RetNums ss w) := by
 obtain ⟨a, c, rfl, hcn, hcc, hrow⟩ := hv
 obtain ⟨i0, hi, hz0, hz1, hz2⟩ := info_parts info_int64
 have G := Lib.hid g
 have HSZ := Lib.hid hs
 clear g hs
 go_enter Tryz.func105, Tryz.ntmps105
 go_wp2_with fail
 go_loopw [4, 11] (fun v i wr => ∃ k : Nat, k ≤ ss.length ∧ i = .int .i64 k ∧ Below w.heap.size w wr ∧ wr.ownsRow w.heap.size 2 1 v k ((decs (ss.take k)).map (Value.int .i64)) ∧ ∀ q (h : q < ss.length), q < k → (readDec ss[q].data.toList).isSome = true) (fun _ i _ => ss.length - (intOf i).toNat)
 case atStart => exact ⟨0, Nat.zero_le _, rfl, Below.refl _ _, World.ownsRow_nil _ _ _ _, fun _ _ h => by omega⟩
 case round =>
  obtain ⟨k, hk, rfl, hb, ho, ha⟩ := hrel
  have HA := Lib.hid ha
  have HB := Lib.hid hb
  have HO := Lib.hid ho
  have hsz := hb.size
  clear ha hb ho
  by_cases hlt : k < ss.length
  ·obtain ⟨b1, o1, rfl, -, hbs, c1⟩ := (hrow.below HB.out).one hlt
   simp only [encS, List.getElem?_cons_zero] at c1
   clear hrow
   obtain ⟨p, hp⟩ : ∃ p, p = ss[k] := ⟨_, rfl⟩
   rw [← hp] at c1
   have HP := Lib.hid hp
   have hpz : p.size ≤ 1073741824 := by rw [hp]; exact HSZ.out k hlt
   clear hp
   obtain ⟨o, hd⟩ : ∃ o, readDec p.data.toList = o := ⟨_, rfl⟩
   have HD := Lib.hid hd
   clear hd
   go_wp2_with fail
   refine (ReadDecimal_any _ _ hpz (G.out.below HB.out)).mono ?_
   rintro e w1 ⟨rfl, hb1⟩
   have HB1 := Lib.hid hb1
   have hs1 := hb1.size
   clear hb1
   rw [HD.out]
   cases o with
   | none =>
    simp only [Option.isSome_none, Option.getD_none]
    go_wp2_with fail
    go_ret2
    have hf : decsOk ss = false := decsOk_none hlt (by rw [← HP.out]; exact HD.out)
    exact ⟨.slice none 0 0, by rw [hf]; rfl, HB.out.trans (HB1.out.mono hsz), fun h => by rw [hf] at h; cases h⟩
   | some n =>
    simp only [Option.isSome_some, Option.getD_some]
    have HO1 := Lib.hid (owns_below HO.out HB1.out)
    have HBB := Lib.hid (HB.out.trans (HB1.out.mono hsz))
    clear c1
    go_wp2_with (at_builtin; refine wpList_append_own _ rfl _ _ 69 rfl w.heap.size 2 i0 (.int .i64 0) 1 8 Tryz.underlying69 hi hz0 hz1 hz2 rfl (by decide) _ _ _ rfl (HO1.out.alloc _) ⟨w1.heap.size, 0, none⟩ 1 1 [.int .i64 n] rfl rfl ?c1 ?c2 ?c3 ?c4 ?c5 ?_)
    case c1 => exact (cell_one_new _ _ _)
    case c2 => intro u hu; simp at hu; subst hu; rfl
    case c3 => simp [maxLen]; omega
    case c4 => omega
    case c5 => simp; omega
    intro v' w3 ho1 hg1 _
    have HO2 : Hid (w3.ownsRow w.heap.size 2 1 v' (k + 1) ((decs (ss.take (k + 1))).map (Value.int .i64))) := by
     have e : (decs (ss.take (k + 1))).map (Value.int .i64) = (decs (ss.take k)).map (Value.int .i64) ++ [.int .i64 n] := by
      unfold decs
      rw [List.take_succ_eq_append_getElem hlt, List.map_append, List.map_append, ← HP.out]
      simp [HD.out]
     unfold Hid
     rw [e]
     exact ho1
    have HBX : Hid (Below w.heap.size w w3) := (HBB.out.alloc (by omega) _).grown hg1 (by simp; omega) (fun b e => (HO1.out.lt b e).1)
    clear ho1 hg1
    go_wp2
    go_roundw
    case rel => exact ⟨k + 1, by omega, by go_num, HBX.out, HO2.out, fun q h h' => by
     by_cases e : q = k
     ·subst e; rw [← HP.out, HD.out]; rfl
     ·exact HA.out q h (by omega)⟩
    case measure => simp [intOf]; omega
  ·obtain rfl : k = ss.length := by omega
   have HF : Hid (decsOk ss = true) := by
    unfold Hid decsOk
    rw [List.all_eq_true]
    intro x hx
    obtain ⟨q, hq, rfl⟩ := List.mem_iff_getElem.1 hx
    exact HA.out q hq hq
   have HO2 : Hid (wr.ownsRow w.heap.size 2 1 u4 (decs ss).length ((decs ss).map (Value.int .i64))) := by
    have := HO.out
    rw [List.take_length] at this
    unfold Hid
    rw [show (decs ss).length = ss.length from by simp [decs]]
    exact this
   clear hrow HO
   go_wp2_with fail
   go_ret2
   exact ⟨_, by rw [HF.out]; rfl, HB.out, fun _ => HO2.out⟩

end Go.Proofs.YtjoacldbgnphkaaGreatDoor

namespace Go.Proofs.YtjoacldbgnphkaaGreatDoor
open Go Go.RowKit

def wordsOf (xs : List Int) : List ByteArray := xs.map fun n => ⟨(Lib.itoa n).toArray⟩

set_option maxHeartbeats 1000000 in
theorem joined_any (v : Value) (sep : ByteArray) (lo : Nat) (xs : List Int) (w : World) (hn : xs.length ≤ 1048576) (hb : ∀ i (h : i < xs.length), -9223372036854775808 ≤ xs[i] ∧ xs[i] ≤ 9223372036854775807) (hv : SliceK 1 encI lo w v xs) (g : Glob w)
  (hlen : (Lib.join ((wordsOf xs).map (·.data.toList)) sep.data.toList).length ≤ 1073741824) :
  Calls Tryz.prog 135 #[v, .string sep] w fun e w' => e = .returned (.string ⟨(Lib.join ((wordsOf xs).map (·.data.toList)) sep.data.toList).toArray⟩) ∧ Below w.heap.size w w' := by
 obtain ⟨a, ca, rfl, hna, hca, ha⟩ := hv
 obtain ⟨i0, hi, hz0, hz1, hz2⟩ := info_parts info_str
 have HBD := Lib.hid hb
 have G := Lib.hid g
 have HLEN := Lib.hid hlen
 clear hb g hlen
 go_enter Tryz.func135, Tryz.ntmps135
 go_wp2_with (at_make; refine wpList_make_full _ rfl _ _ 22 rfl w.heap.size 9 i0 _ 1 Tryz.underlying22 hi hz0 hz1 .i64 .i64 _ _ xs.length rfl rfl rfl rfl ?_ ?_ ?_ ?_)
 ·rw [hz2]; omega
 ·simp [maxLen]; omega
 ·exact Nat.le_refl _
 ·intro w1 ho hg
  rw [toList_madeCells_one] at ho
  have hb1 : Below w.heap.size w w1 := (Below.refl _ w).grown hg (Nat.le_refl _) (fun _ h => by cases h)
  clear hi hz0 hz1 hz2 i0
  have HO := Lib.hid ho
  clear ho hg
  go_wp2_with fail
  have hwl : (wordsOf xs).length = xs.length := by simp [wordsOf]
  go_loopw [13] (fun i wr => ∃ k : Nat, k ≤ xs.length ∧ i = .int .i64 k ∧ Below w.heap.size w wr ∧ w.heap.size < wr.heap.size ∧ wr.ownsRow w.heap.size 9 1 (.slice (some ⟨w.heap.size, 0, none⟩) xs.length xs.length) xs.length (((wordsOf xs).take k).map .string ++ List.replicate ((wordsOf xs).length - k) (.string ⟨#[]⟩))) (fun i _ => xs.length - (intOf i).toNat)
  case atStart => exact ⟨0, Nat.zero_le _, rfl, hb1, (HO.out.lt _ rfl).2, by simpa [hwl] using HO.out⟩
  case round =>
   obtain ⟨k, hk, rfl, hbl, hsl, ho⟩ := hrel
   clear HO hb1
   have HBL := Lib.hid hbl
   have HO1 := Lib.hid ho
   have hsz := hbl.size
   clear ho hbl
   by_cases hlt : k < xs.length
   ·obtain ⟨b1, o1, rfl, -, h1, c1⟩ := (ha.below HBL.out).one hlt
    simp only [encI, List.getElem?_cons_zero] at c1
    clear ha
    go_wp2_with fail
    refine (Decimal_any _ _ (HBD.out k hlt).1 (HBD.out k hlt).2 (G.out.below HBL.out)).mono ?_
    rintro e w2 ⟨rfl, hb2⟩
    have hlt' : k < (wordsOf xs).length := by omega
    have ho3 := owns_below HO1.out hb2
    have c2 := ho3.cellAt k (by omega)
    rw [filled_get _ _ _ _ hlt'] at c2
    have c3 := ho3.frozenAt k
    have ho2 := ho3.stored k (.string (wordsOf xs)[k])
    rw [filled_set _ _ _ _ hlt'] at ho2
    have hwk : (wordsOf xs)[k] = ⟨(Lib.itoa xs[k]).toArray⟩ := by simp [wordsOf]
    rw [hwk] at ho2
    have HO := Lib.hid ho2
    have HB2 := Lib.hid (HBL.out.trans (hb2.mono hsz))
    have hs2 := hb2.size
    clear ho2 ho3 hb2 HO1 HBL c1
    go_wp2
    go_roundw
    case rel => exact ⟨k + 1, by omega, by go_num, HB2.out.setCell (by exact Nat.le_refl _) _, by simp; omega, HO.out.1⟩
    case measure => simp [intOf]; omega
   ·clear ha
    obtain rfl : k = xs.length := by omega
    have ho4 : wr.ownsRow w.heap.size 9 1 (.slice (some ⟨w.heap.size, 0, none⟩) (wordsOf xs).length (wordsOf xs).length) (wordsOf xs).length ((wordsOf xs).flatMap encS) := by
     have := HO1.out
     rw [flat_encS, hwl]
     rw [hwl, ← hwl, List.take_length, Nat.sub_self, List.replicate_zero, List.append_nil, hwl] at this
     exact this
    have HC : Hid (∀ (j : Nat) x, (wordsOf xs)[j]? = some x → wr.cell? ⟨w.heap.size, 0 + j, none⟩ = some (.string x)) := by
     intro j x hx
     obtain ⟨hj, rfl⟩ := List.getElem?_eq_some_iff.1 hx
     have := ho4.cellAt j (by omega)
     rw [Nat.zero_add, this, flat_encS]
     simp [hj]
    clear ho4
    have HJ := Tryz.strings_Join w.heap.size 0 xs.length (wordsOf xs) sep wr HC.out hsl (by omega) (by omega) (Nat.le_trans HLEN.out (by decide))
    rw [hwl] at HJ
    have HJJ := Lib.hid HJ
    clear HJ
    go_wp2_with fail
    refine Calls.mono HJJ.out ?_
    rintro e w2 ⟨rfl, hb2⟩
    have HB2 := Lib.hid (HBL.out.trans (hb2.mono hsz))
    clear hb2
    go_wp2_with fail
    go_ret
    exact ⟨rfl, HB2.out⟩

end Go.Proofs.YtjoacldbgnphkaaGreatDoor

namespace Go.Proofs.YtjoacldbgnphkaaGreatDoor
open Go Go.RowKit

def labB (name : List UInt8) (xs : List Int) : Bool := if name = tauL then xs.isEmpty else isAction name && decide (xs.length ≤ 2) && xs.all isVal
def labTxt (name : List UInt8) (xs : List Int) : List UInt8 := if xs.isEmpty then name else name ++ 40 :: (Lib.join ((wordsOf xs).map (·.data.toList)) [44] ++ [41])
def RetLab (name : List UInt8) (xs : List Int) (w : World) (e : Ending) (w' : World) : Prop :=
 ∃ t : ByteArray, e = .returned (.tuple #[.string t, .bool (labB name xs)]) ∧ Below w.heap.size w w' ∧ (labB name xs = true → t.data.toList = labTxt name xs)

theorem two_digits : ∀ n : Nat, n < 64 → (Lib.decDigits n).length ≤ 2 := by
 intro n hn
 rw [Lib.decDigits_length]
 by_cases h : n < 10
 ·rw [Lib.nDigits_small h]; decide
 ·rw [Lib.nDigits_big h, Lib.nDigits_small (by omega)]; decide
theorem itoa_short {n : Int} (h : isVal n = true) : (Lib.itoa n).length ≤ 2 := by
 unfold isVal at h
 simp at h
 unfold Lib.itoa
 rw [if_neg (by omega)]
 exact two_digits _ (by omega)
theorem join_short {xs : List Int} (h2 : xs.length ≤ 2) (h : xs.all isVal = true) : (Lib.join ((wordsOf xs).map (·.data.toList)) [44]).length ≤ 5 := by
 match xs, h2, h with
 | [], _, _ => simp [wordsOf, Lib.join]
 | [x], _, h =>
  have hx := itoa_short (List.all_eq_true.1 h x (by simp))
  simp [wordsOf, Lib.join_length, Lib.lens]; omega
 | [x, y], _, h =>
  have hx := itoa_short (List.all_eq_true.1 h x (by simp))
  have hy := itoa_short (List.all_eq_true.1 h y (by simp))
  simp [wordsOf, Lib.join_length, Lib.lens]; omega

set_option maxRecDepth 100000 in
set_option maxHeartbeats 1000000 in
theorem labelOf_any (v : Value) (s : ByteArray) (lo : Nat) (xs : List Int) (w : World) (hs : s.size ≤ 1073741824) (hn : xs.length ≤ 1073741824) (hv : SliceK 1 encI lo w v xs) (g : Glob w) :
  Calls Tryz.prog 108 #[.string s, v] w (RetLab s.data.toList xs w) := by
 have HV := Lib.hid hv
 obtain ⟨a, ca, rfl, -, -, -⟩ := hv
 by_cases ht : s.toList = tauL
 ·have hb : Hid (labB s.data.toList xs = ((xs.length : Int) == 0)) := by
   unfold Hid labB
   rw [if_pos (by rw [← Lib.toList_data]; exact ht)]
   cases xs with
   | nil => rfl
   | cons x r =>
    have : (((x :: r).length : Int) == 0) = false := by rw [beq_eq_false_iff_ne]; simp; omega
    rw [this]; rfl
  have ht' : (s.toList == tauL) = true := by simpa using ht
  unfold tauL at ht ht'
  go_enter Tryz.func108, Tryz.ntmps108
  go_wp2_with fail
  go_ret2
  refine ⟨⟨#[116, 97, 117]⟩, by rw [hb.out]; rfl, Below.refl _ _, fun h => ?_⟩
  rw [hb.out] at h
  have h0 : xs = [] := List.eq_nil_of_length_eq_zero (by simpa using h)
  subst h0
  unfold labTxt
  have e : s.data.toList = [116, 97, 117] := by rw [← Lib.toList_data]; exact ht
  rw [e]
  rfl
 ·have hnt : ¬ s.data.toList = tauL := by rw [← Lib.toList_data]; exact ht
  have ht' : (s.toList == tauL) = false := by simpa using ht
  have HL : Hid (labB s.data.toList xs = (isAction s.data.toList && decide (xs.length ≤ 2) && xs.all isVal)) := by unfold Hid labB; rw [if_neg hnt]
  unfold tauL at ht ht' hnt
  obtain ⟨b, hb⟩ : ∃ b, isAction s.data.toList = b := ⟨_, rfl⟩
  have HB := Lib.hid hb
  clear hb
  cases b
  ·have HF : Hid (labB s.data.toList xs = false) := by unfold Hid; rw [HL.out, HB.out]; rfl
   go_enter Tryz.func108, Tryz.ntmps108
   go_wp2_with fail
   refine (IsAction_any _ _ hs).mono ?_
   rintro e w' ⟨rfl, rfl⟩
   rw [HB.out]
   go_wp2_with fail
   go_ret2
   exact ⟨⟨#[]⟩, by rw [HF.out]; rfl, Below.refl _ _, fun h => by rw [HF.out] at h; cases h⟩
  ·by_cases h2 : 2 < (xs.length : Int)
   ·have HF : Hid (labB s.data.toList xs = false) := by unfold Hid; rw [HL.out, decide_eq_false (by omega)]; simp
    go_enter Tryz.func108, Tryz.ntmps108
    go_wp2_with fail
    refine (IsAction_any _ _ hs).mono ?_
    rintro e w' ⟨rfl, rfl⟩
    rw [HB.out]
    go_wp2_with fail
    go_ret2
    exact ⟨⟨#[]⟩, by rw [HF.out]; rfl, Below.refl _ _, fun h => by rw [HF.out] at h; cases h⟩
   ·cases hall : xs.all isVal
    ·have HF : Hid (labB s.data.toList xs = false) := by unfold Hid; rw [HL.out, hall]; simp
     have HALL := Lib.hid hall
     clear hall
     go_enter Tryz.func108, Tryz.ntmps108
     go_wp2_with fail
     refine (IsAction_any _ _ hs).mono ?_
     rintro e w' ⟨rfl, rfl⟩
     rw [HB.out]
     go_wp2_with fail
     refine (areValues_any lo _ xs _ HV.out).mono ?_
     rintro e w' ⟨rfl, rfl⟩
     rw [HALL.out]
     go_wp2_with fail
     go_ret2
     exact ⟨⟨#[]⟩, by rw [HF.out]; rfl, Below.refl _ _, fun h => by rw [HF.out] at h; cases h⟩
    ·have HF : Hid (labB s.data.toList xs = true) := by unfold Hid; rw [HL.out, hall, HB.out, decide_eq_true (by omega)]; rfl
     have HALL := Lib.hid hall
     clear hall
     by_cases h0 : xs.length = 0
     ·have h0' : ((xs.length : Int) == 0) = true := by rw [beq_iff_eq]; omega
      have HT : Hid (labTxt s.data.toList xs = s.data.toList) := by unfold Hid labTxt; rw [if_pos (by rw [List.eq_nil_of_length_eq_zero h0]; rfl)]
      have HV0 : Hid (SliceK 1 encI lo w (.slice a 0 ca) xs) := by have := HV.out; rw [h0] at this; exact this
      go_enter Tryz.func108, Tryz.ntmps108
      go_wp2_with fail
      refine (IsAction_any _ _ hs).mono ?_
      rintro e w' ⟨rfl, rfl⟩
      rw [HB.out]
      go_wp2_with fail
      refine (areValues_any lo _ xs _ HV0.out).mono ?_
      rintro e w' ⟨rfl, rfl⟩
      rw [HALL.out]
      go_wp2_with fail
      go_ret2
      exact ⟨s, by rw [HF.out]; rfl, Below.refl _ _, fun _ => HT.out.symm⟩
     ·have h0' : ((xs.length : Int) == 0) = false := by rw [beq_eq_false_iff_ne]; omega
      have HT : Hid (labTxt s.data.toList xs = s.data.toList ++ 40 :: (Lib.join ((wordsOf xs).map (·.data.toList)) [44] ++ [41])) := by
       unfold Hid labTxt; rw [if_neg (by rw [List.isEmpty_iff_length_eq_zero]; exact h0)]
      have HLEN : Hid ((Lib.join ((wordsOf xs).map (·.data.toList)) (⟨#[44]⟩ : ByteArray).data.toList).length ≤ 1073741824) := Nat.le_trans (join_short (by omega) HALL.out) (by decide)
      have HBD : Hid (∀ i (h : i < xs.length), -9223372036854775808 ≤ xs[i] ∧ xs[i] ≤ 9223372036854775807) := by
       intro i hi
       have := List.all_eq_true.1 HALL.out xs[i] (List.getElem_mem _)
       unfold isVal at this
       simp at this
       omega
      have hlen : (Lib.join (List.map (fun x => x.data.toList) (wordsOf xs)) [44]).length ≤ 1073741824 := HLEN.out
      have hq1 : ¬ 9223372036854775807 < s.size + 1 + (Lib.join (List.map (fun x => x.data.toList) (wordsOf xs)) [44]).length := by omega
      have hq2 : ¬ 9223372036854775807 < s.size + 1 + (Lib.join (List.map (fun x => x.data.toList) (wordsOf xs)) [44]).length + 1 := by omega
      clear hlen
      go_enter Tryz.func108, Tryz.ntmps108
      go_wp2_with fail
      refine (IsAction_any _ _ hs).mono ?_
      rintro e w' ⟨rfl, rfl⟩
      rw [HB.out]
      go_wp2_with fail
      refine (areValues_any lo _ xs _ HV.out).mono ?_
      rintro e w' ⟨rfl, rfl⟩
      rw [HALL.out]
      go_wp2_with fail
      refine (joined_any _ ⟨#[44]⟩ lo xs _ (by omega) HBD.out HV.out g HLEN.out).mono ?_
      rintro e w2 ⟨rfl, hb2⟩
      have HB2 := Lib.hid hb2
      clear hb2
      go_wp2_with fail
      go_ret2
      refine ⟨_, by rw [HF.out]; rfl, HB2.out, fun _ => ?_⟩
      rw [HT.out]
      simp

end Go.Proofs.YtjoacldbgnphkaaGreatDoor
