/-
  Both texts answer alike: one code and one list of pairs, chosen ahead of any call.
-/
import Derived.Test.YtaccfpacemhaaaaGreatDoorImpl21
import Derived.Test.YtaccfpacemhaaaaGreatDoorLaws3
namespace Go.Proofs.YtaccfpacemhaaaaGreatDoor
open Go Go.RowKit

noncomputable section
open Classical

def startOf (t p : Lts) : List Bool := List.replicate (t.states.toNat * p.states.toNat) true
/-- The code and the pairs that CanStay answers. -/
def codeOf (t p : Lts) : Int := if Valid t ∧ Valid p then (if Single p then 0 else 6) else 1
def pairsFor (t p : Lts) : List (List Int) := if h : (Valid t ∧ Valid p ∧ Single p) ∧ ∃ c, Rest t p (startOf t p) c then pairsOf p (Classical.choose h.2) else []

theorem pairsFor_eq {t p : Lts} (hv : Valid t ∧ Valid p ∧ Single p) {c : List Bool} (hc : Rest t p (startOf t p) c) : pairsFor t p = pairsOf p c := by
  have h : (Valid t ∧ Valid p ∧ Single p) ∧ ∃ c, Rest t p (startOf t p) c := ⟨hv, c, hc⟩
  unfold pairsFor
  rw [dif_pos h]
  rw [Rest.unique (Classical.choose_spec h.2) hc]
theorem pairsFor_none {t p : Lts} (h : ¬ (Valid t ∧ Valid p ∧ Single p)) : pairsFor t p = [] := by
  unfold pairsFor
  rw [dif_neg (fun k => h k.1)]

theorem stepB_len (t p : Lts) (k q : Nat) (c : List Bool) : (stepB t p k q c).length = c.length := by
  unfold stepB
  split
  · simp
  · rfl
theorem rowTo_len (t p : Lts) (k n : Nat) (c : List Bool) : (rowTo t p k n c).length = c.length := by
  induction n with
  | zero => rfl
  | succ n ih => rw [rowTo_succ, stepB_len, ih]
theorem sweepTo_len (t p : Lts) (n : Nat) (c : List Bool) : (sweepTo t p n c).length = c.length := by
  induction n with
  | zero => rfl
  | succ n ih => rw [sweepTo_succ, rowTo_len, ih]
theorem sweeps_len (t p : Lts) (n : Nat) (c : List Bool) : (sweeps t p n c).length = c.length := by
  induction n generalizing c with
  | zero => rfl
  | succ n ih => rw [sweeps, ih]; exact sweepTo_len t p _ c

theorem total_pairs : ∀ (l : List Nat) (f g : Nat → Int), total (l.map fun i => [f i, g i]) = 2 * l.length
  | [], _, _ => rfl
  | _ :: r, f, g => by
    rw [List.map_cons, total, total_pairs r f g]
    simp
    omega
theorem pairsFor_total (t p : Lts) : total (pairsFor t p) ≤ 3200 := by
  unfold pairsFor
  split
  · next h =>
    obtain ⟨⟨hv, hv2, -⟩, h2⟩ := h
    obtain ⟨⟨n, hn⟩, -⟩ := Classical.choose_spec h2
    generalize Classical.choose h2 = c at *
    have hl : c.length ≤ 1600 := by
      rw [hn, sweeps_len]
      unfold startOf
      rw [List.length_replicate]
      have h3 := hv.st1
      have h4 := hv2.st1
      exact Nat.le_trans (Nat.mul_le_mul (show t.states.toNat ≤ 40 by omega) (show p.states.toNat ≤ 40 by omega)) (by decide)
    unfold pairsOf
    rw [total_pairs]
    have : ((List.range c.length).filter fun i => c.getD i false).length ≤ c.length := Nat.le_trans (List.length_filter_le _ _) (by simp)
    omega
  · simp [total]

theorem made_none (code : Int) (w w' : World) (hb : Below w.heap.size w w') : MadePairs code [] w (.returned (.tuple #[.slice none 0 0, .int .i64 code])) w' :=
  ⟨.slice none 0 0, [], rfl, hb, rfl, World.ownsRow_nil _ _ _ _, (fun i h => by simp at h), (fun i j h => by simp at h), fun i h => by simp at h⟩

theorem specCanStay_all (lo : Nat) (t p : Lts) (lv ev lv2 ev2 : Value) (w : World) (h1 : Short t.labels) (h2 : Short p.labels) (hs1 : SliceK 1 encS lo w lv t.labels) (hs2 : SliceK 3 encE lo w ev t.edges)
    (hq1 : SliceK 1 encS lo w lv2 p.labels) (hq2 : SliceK 3 encE lo w ev2 p.edges) :
    Calls Tryz.prog 5 #[.agg #[.int .i64 t.states, .int .i64 t.initial, lv, ev], .agg #[.int .i64 p.states, .int .i64 p.initial, lv2, ev2]] w (MadePairs (codeOf t p) (pairsFor t p) w) := by
  by_cases hv : Valid t ∧ Valid p
  · by_cases hs : Single p
    · have hc : codeOf t p = 0 := by unfold codeOf; rw [if_pos hv, if_pos hs]
      rw [hc]
      refine (specCanStay_yes lo t p lv ev lv2 ev2 w h1 h2 hs1 hs2 hq1 hq2 hv.1 hv.2 hs).mono ?_
      rintro e w' ⟨c, hr, hm⟩
      rw [pairsFor_eq ⟨hv.1, hv.2, hs⟩ hr]
      exact hm
    · have hc : codeOf t p = 6 := by unfold codeOf; rw [if_pos hv, if_neg hs]
      rw [hc, pairsFor_none (fun h => hs h.2.2)]
      refine (specCanStay_no 6 lo t p lv ev lv2 ev2 w h1 h2 hs1 hs2 hq1 hq2 (.inr ⟨hv.1, hv.2, hs, rfl⟩)).mono ?_
      rintro e w' ⟨rfl, hb⟩
      exact made_none 6 w w' hb
  · have hc : codeOf t p = 1 := by unfold codeOf; rw [if_neg hv]
    rw [hc, pairsFor_none (fun h => hv ⟨h.1, h.2.1⟩)]
    refine (specCanStay_no 1 lo t p lv ev lv2 ev2 w h1 h2 hs1 hs2 hq1 hq2 (.inl ⟨hv, rfl⟩)).mono ?_
    rintro e w' ⟨rfl, hb⟩
    exact made_none 1 w w' hb

theorem implCanStay_all (lo : Nat) (t p : Lts) (lv ev lv2 ev2 : Value) (w : World) (h1 : Short20 t.labels) (h2 : Short20 p.labels) (hs1 : SliceK 1 encS lo w lv t.labels) (hs2 : SliceK 3 encE lo w ev t.edges)
    (hq1 : SliceK 1 encS lo w lv2 p.labels) (hq2 : SliceK 3 encE lo w ev2 p.edges) (g : Glob w) :
    Calls Tryz.prog 7 #[.agg #[.int .i64 t.states, .int .i64 t.initial, lv, ev], .agg #[.int .i64 p.states, .int .i64 p.initial, lv2, ev2]] w (MadePairs (codeOf t p) (pairsFor t p) w) := by
  by_cases hv : Valid t ∧ Valid p
  · by_cases hs : Single p
    · have hc : codeOf t p = 0 := by unfold codeOf; rw [if_pos hv, if_pos hs]
      rw [hc]
      refine (implCanStay_yes lo t p lv ev lv2 ev2 w h1 h2 hs1 hs2 hq1 hq2 g hv.1 hv.2 hs).mono ?_
      rintro e w' ⟨c, hr, hm⟩
      rw [pairsFor_eq ⟨hv.1, hv.2, hs⟩ hr]
      exact hm
    · have hc : codeOf t p = 6 := by unfold codeOf; rw [if_pos hv, if_neg hs]
      rw [hc, pairsFor_none (fun h => hs h.2.2)]
      refine (implCanStay_no 6 lo t p lv ev lv2 ev2 w h1 h2 hs1 hs2 hq1 hq2 g (.inr ⟨hv.1, hv.2, hs, rfl⟩)).mono ?_
      rintro e w' ⟨rfl, hb⟩
      exact made_none 6 w w' hb
  · have hc : codeOf t p = 1 := by unfold codeOf; rw [if_neg hv]
    rw [hc, pairsFor_none (fun h => hv ⟨h.1, h.2.1⟩)]
    refine (implCanStay_no 1 lo t p lv ev lv2 ev2 w h1 h2 hs1 hs2 hq1 hq2 g (.inl ⟨hv, rfl⟩)).mono ?_
    rintro e w' ⟨rfl, hb⟩
    exact made_none 1 w w' hb

end

theorem szS_fit (ss : List ByteArray) (left : Int) (h0 : 0 ≤ left) (h : 0 ≤ szS ss left) : ∀ s ∈ ss, (s.size : Int) ≤ left := by
  induction ss generalizing left with
  | nil => intro s hs; cases hs
  | cons a r ih =>
    unfold szS at h
    split at h
    · omega
    · next hl =>
      intro s hs
      rcases List.mem_cons.1 hs with rfl | hs
      · omega
      · have := ih (left - a.size) (by omega) h s hs
        omega
theorem szL_fit {t : Lts} {left : Int} (h0 : 0 ≤ left) (h : 0 ≤ szL t left) : (t.labels.length : Int) ≤ left ∧ (t.edges.length : Int) ≤ left ∧ (∀ s ∈ t.labels, (s.size : Int) ≤ left) ∧ szL t left ≤ left := by
  unfold szL at h ⊢
  split at h
  · omega
  · next h1 =>
    rw [if_neg h1]
    split at h
    · omega
    · next h2 =>
      rw [if_neg h2]
      have h3 : ¬ left - t.labels.length < 0 := by
        intro e
        rw [szSS_neg e] at h1
        omega
      rw [szSS_pos h3] at h1 h2 h ⊢
      have h4 := szS_lt t.labels (left - t.labels.length) (by omega)
      have h5 : ¬ szS t.labels (left - t.labels.length) - t.edges.length < 0 := by
        intro e
        rw [szN_neg e] at h2
        omega
      rw [szN_pos h5] at h ⊢
      refine ⟨by omega, by omega, fun s hs => ?_, by omega⟩
      have := szS_fit t.labels (left - t.labels.length) (by omega) (by omega) s hs
      omega

end Go.Proofs.YtaccfpacemhaaaaGreatDoor
