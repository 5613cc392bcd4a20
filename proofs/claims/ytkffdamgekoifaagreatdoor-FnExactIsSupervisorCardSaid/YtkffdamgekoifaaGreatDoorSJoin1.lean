/-
  Both texts answer alike on supervisors: one truth value, chosen ahead of any call; the copies of the arguments.
-/
import Derived.Test.YtkffdamgekoifaaGreatDoorSup6
import Derived.Test.YtkffdamgekoifaaGreatDoorSpec15
import Derived.Test.YtkffdamgekoifaaGreatDoorLaws4
import Derived.Test.YtkffdamgekoifaaGreatDoorFit
namespace Go.Proofs.YtkffdamgekoifaaGreatDoor
open Go Go.RowKit

theorem szP_fit {p : Plant} {left : Int} (h0 : 0 ≤ left) (h : 0 ≤ szP p left) :
    (p.sys.labels.length : Int) ≤ left ∧ (p.sys.edges.length : Int) ≤ left ∧ (∀ s ∈ p.sys.labels, (s.size : Int) ≤ left) ∧ (p.marks.length : Int) ≤ left ∧ (p.names.length : Int) ≤ left ∧ (∀ s ∈ p.names, (s.size : Int) ≤ left) ∧ szP p left ≤ left := by
  unfold szP at h ⊢
  split at h
  · omega
  · next h1 =>
    rw [if_neg h1]
    obtain ⟨k1, k2, k3, k4⟩ := szL_fit h0 (by omega : 0 ≤ szL p.sys left)
    split at h
    · omega
    · next h2 =>
      rw [if_neg h2]
      have h5 : ¬ szL p.sys left - p.marks.length < 0 := by
        intro e
        rw [szN_neg e] at h2
        omega
      rw [szN_pos h5] at h2 h ⊢
      split at h
      · omega
      · next h3 =>
        rw [if_neg h3]
        have h6 : ¬ szL p.sys left - p.marks.length - p.names.length < 0 := by
          intro e
          rw [szSS_neg e] at h3
          omega
        rw [szSS_pos h6] at h3 h ⊢
        have h7 := szS_lt p.names (szL p.sys left - p.marks.length - p.names.length) (by omega)
        refine ⟨k1, k2, k3, by omega, by omega, fun s hs => ?_, by omega⟩
        have := szS_fit p.names (szL p.sys left - p.marks.length - p.names.length) (by omega) (by omega) s hs
        omega

noncomputable section
/-- What both answer. -/
def supB (p : Plant) (r s : Lts) : Bool := @decide (Supervises p r s) (Classical.propDecidable _)
theorem supB_of {P : Program} {f : FuncId} {args : Array Value} {w : World} {p : Plant} {r s : Lts} (h : Calls P f args w (Decides (Supervises p r s) w)) : Calls P f args w fun e w' => e = .returned (.bool (supB p r s)) ∧ Below w.heap.size w w' :=
  h.mono fun _ _ ⟨b, he, hb, hw⟩ => ⟨by
    rw [he]
    have : b = supB p r s := by
      unfold supB
      cases b
      · exact (@decide_eq_false _ (Classical.propDecidable _) (fun hs => by have := hb.2 hs; cases this)).symm
      · exact (@decide_eq_true _ (Classical.propDecidable _) (hb.1 rfl)).symm
    rw [this], hw⟩
end

/-- A copy of a system. -/
def MadeSys (t : Lts) (w : World) (e : Ending) (w' : World) : Prop :=
  ∃ lv ev, e = .returned (.agg #[.int .i64 t.states, .int .i64 t.initial, lv, ev]) ∧ Below w.heap.size w w' ∧ LtsIn 0 w' lv ev t
theorem toSys_any (lo : Nat) (t : Lts) (lv ev : Value) (w : World) (h1 : t.labels.length ≤ 1048576) (h2 : t.edges.length ≤ 1048576) (ht : LtsIn lo w lv ev t) : Calls Tryz.prog 8 #[.agg #[.int .i64 t.states, .int .i64 t.initial, lv, ev]] w (MadeSys t w) := by
  refine (toLts_any (.agg #[.int .i64 t.states, .int .i64 t.initial, lv, ev]) lo t w h1 h2 ⟨lv, ev, rfl, ht.labels, ht.edges⟩).mono ?_
  rintro e w' ⟨b1, b2, rfl, hb, h3, h4, h5, ho1, ho2⟩
  exact ⟨_, _, rfl, hb, SliceK.of_owns (e := 9) encS_len rfl (by rw [flat_encS]; exact own_lower ho1 (Nat.zero_le _)), SliceK.of_owns (e := 73) encE_len rfl (own_lower ho2 (Nat.zero_le _))⟩

/-- The boxes of the law's three arguments. -/
structure LBox (n0 : Nat) (c1 c2 c3 : List Value) (w : World) : Prop where
  one : Blk w n0 c1 28
  two : Blk w (n0 + 1) c2 25
  three : Blk w (n0 + 1 + 1) c3 25
theorem LBox.below {n0 : Nat} {c1 c2 c3 : List Value} {w w' : World} (h : LBox n0 c1 c2 c3 w) (hb : Below w.heap.size w w') : LBox n0 c1 c2 c3 w' := ⟨h.one.below hb, h.two.below hb, h.three.below hb⟩
theorem blk6 {w : World} {b : Nat} {c0 c1 c2 c3 c4 c5 : Value} {T : TypeId} (h : Blk w b [c0, c1, c2, c3, c4, c5] T) :
    w.cell? ⟨b, 0, none⟩ = some c0 ∧ w.cell? ⟨b, 1, none⟩ = some c1 ∧ w.cell? ⟨b, 2, none⟩ = some c2 ∧ w.cell? ⟨b, 3, none⟩ = some c3 ∧ w.cell? ⟨b, 4, none⟩ = some c4 ∧ w.cell? ⟨b, 5, none⟩ = some c5 :=
  ⟨h.cell 0 rfl, h.cell 1 rfl, h.cell 2 rfl, h.cell 3 rfl, h.cell 4 rfl, h.cell 5 rfl⟩
theorem blk4 {w : World} {b : Nat} {c0 c1 c2 c3 : Value} {T : TypeId} (h : Blk w b [c0, c1, c2, c3] T) :
    w.cell? ⟨b, 0, none⟩ = some c0 ∧ w.cell? ⟨b, 1, none⟩ = some c1 ∧ w.cell? ⟨b, 2, none⟩ = some c2 ∧ w.cell? ⟨b, 3, none⟩ = some c3 :=
  ⟨h.cell 0 rfl, h.cell 1 rfl, h.cell 2 rfl, h.cell 3 rfl⟩

end Go.Proofs.YtkffdamgekoifaaGreatDoor
