/-
  What a size that fits says of a system's parts.
-/
import Derived.Test.YtkffdamgekoifaaGreatDoorLaws1
namespace Go.Proofs.YtkffdamgekoifaaGreatDoor
open Go Go.RowKit

theorem szS_fit (ss : List ByteArray) (left : Int) (h0 : 0 ≤ left) (h : 0 ≤ szS ss left) : ∀ s ∈ ss, (s.size : Int) ≤ left := by
  induction ss generalizing left with
  | nil => intro s hs; cases hs
  | cons a r ih =>
    unfold szS at h
    split at h
    · omega
    · next hl =>
      intro s hs
      rcases List.mem_cons.1 hs with rfl | hs
      · omega
      · have := ih (left - a.size) (by omega) h s hs
        omega
theorem szL_fit {t : Lts} {left : Int} (h0 : 0 ≤ left) (h : 0 ≤ szL t left) : (t.labels.length : Int) ≤ left ∧ (t.edges.length : Int) ≤ left ∧ (∀ s ∈ t.labels, (s.size : Int) ≤ left) ∧ szL t left ≤ left := by
  unfold szL at h ⊢
  split at h
  · omega
  · next h1 =>
    rw [if_neg h1]
    split at h
    · omega
    · next h2 =>
      rw [if_neg h2]
      have h3 : ¬ left - t.labels.length < 0 := by
        intro e
        rw [szSS_neg e] at h1
        omega
      rw [szSS_pos h3] at h1 h2 h ⊢
      have h4 := szS_lt t.labels (left - t.labels.length) (by omega)
      have h5 : ¬ szS t.labels (left - t.labels.length) - t.edges.length < 0 := by
        intro e
        rw [szN_neg e] at h2
        omega
      rw [szN_pos h5] at h ⊢
      refine ⟨by omega, by omega, fun s hs => ?_, by omega⟩
      have := szS_fit t.labels (left - t.labels.length) (by omega) (by omega) s hs
      omega

end Go.Proofs.YtkffdamgekoifaaGreatDoor
