/-
  What a size that fits says of a system's parts.
  What the joining walks of the exact laws share: copies of systems, boxes, which blocks a mark can turn.
-/
import Derived.Test.YtpoleaekcjjedaaGreatDoorF28
namespace Go.Proofs.YtpoleaekcjjedaaGreatDoor
open Go Go.RowKit

theorem szS_fit (ss : List ByteArray) (left : Int) (h0 : 0 ≤ left) (h : 0 ≤ szS ss left) : ∀ s ∈ ss, (s.size : Int) ≤ left := by
 induction ss generalizing left with
 | nil => intro s hs; cases hs
 | cons a r ih =>
  unfold szS at h
  split at h
  ·omega
  ·next hl =>
   intro s hs
   rcases List.mem_cons.1 hs with rfl | hs
   ·omega
   ·have := ih (left - a.size) (by omega) h s hs
    omega
theorem szL_fit {t : Lts} {left : Int} (_h0 : 0 ≤ left) (h : 0 ≤ szL t left) : (t.labels.length : Int) ≤ left ∧ (t.edges.length : Int) ≤ left ∧ (∀ s ∈ t.labels, (s.size : Int) ≤ left) ∧ szL t left ≤ left := by
 unfold szL at h ⊢
 split at h
 ·omega
 ·next h1 =>
  rw [if_neg h1]
  split at h
  ·omega
  ·next h2 =>
   rw [if_neg h2]
   have h3 : ¬ left - t.labels.length < 0 := by
    intro e
    rw [szSS_neg e] at h1
    omega
   rw [szSS_pos h3] at h1 h2 h ⊢
   have h4 := szS_lt t.labels (left - t.labels.length) (by omega)
   have h5 : ¬ szS t.labels (left - t.labels.length) - t.edges.length < 0 := by
    intro e
    rw [szN_neg e] at h2
    omega
   rw [szN_pos h5] at h ⊢
   refine ⟨by omega, by omega, fun s hs => ?_, by omega⟩
   have := szS_fit t.labels (left - t.labels.length) (by omega) (by omega) s hs
   omega

end Go.Proofs.YtpoleaekcjjedaaGreatDoor

namespace Go.Proofs.YtpoleaekcjjedaaGreatDoor
open Go Go.RowKit

theorem blk4 {w : World} {b : Nat} {c0 c1 c2 c3 : Value} {T : TypeId} (h : Blk w b [c0, c1, c2, c3] T) :
  w.cell? ⟨b, 0, none⟩ = some c0 ∧ w.cell? ⟨b, 1, none⟩ = some c1 ∧ w.cell? ⟨b, 2, none⟩ = some c2 ∧ w.cell? ⟨b, 3, none⟩ = some c3 :=
 ⟨h.cell 0 rfl, h.cell 1 rfl, h.cell 2 rfl, h.cell 3 rfl⟩
theorem boxNew (w : World) (a : Array Value) (T : TypeId) : Below w.heap.size w (w.alloc (.cells a T)) := (Below.refl _ _).alloc (Nat.le_refl _) _

/-- A copy of a system, with both slices in blocks of its own. -/
structure Copy (B : Nat) (t : Lts) (b1 b2 : Nat) (w : World) : Prop where
 h1 : B ≤ b1
 h2 : b1 < b2
 h3 : b2 < w.heap.size
 o1 : w.ownsRow B 9 1 (.slice (some ⟨b1, 0, none⟩) t.labels.length t.labels.length) t.labels.length (t.labels.map .string)
 o2 : w.ownsRow b2 135 3 (.slice (some ⟨b2, 0, none⟩) t.edges.length t.edges.length) t.edges.length (t.edges.flatMap encE)
theorem Copy.below {B : Nat} {t : Lts} {b1 b2 : Nat} {w w' : World} (h : Copy B t b1 b2 w) (hb : Below w.heap.size w w') : Copy B t b1 b2 w' :=
 ⟨h.h1, h.h2, Nat.lt_of_lt_of_le h.h3 hb.size, owns_below h.o1 hb, owns_below h.o2 hb⟩
theorem Copy.labels {B : Nat} {t : Lts} {b1 b2 : Nat} {w : World} (h : Copy B t b1 b2 w) : SliceK 1 encS 0 w (.slice (some ⟨b1, 0, none⟩) t.labels.length t.labels.length) t.labels :=
 SliceK.of_owns (e := 9) encS_len rfl (by rw [flat_encS]; exact own_lower h.o1 (Nat.zero_le _))
theorem Copy.edges {B : Nat} {t : Lts} {b1 b2 : Nat} {w : World} (h : Copy B t b1 b2 w) : SliceK 3 encE 0 w (.slice (some ⟨b2, 0, none⟩) t.edges.length t.edges.length) t.edges :=
 SliceK.of_owns (e := 135) encE_len rfl (own_lower h.o2 (Nat.zero_le _))
theorem Copy.at {B : Nat} {t : Lts} {b1 b2 : Nat} {w : World} (h : Copy B t b1 b2 w) : LtsAt 0 w (.agg #[.int .i64 t.states, .int .i64 t.initial, .slice (some ⟨b1, 0, none⟩) t.labels.length t.labels.length, .slice (some ⟨b2, 0, none⟩) t.edges.length t.edges.length]) t :=
 ⟨_, _, rfl, h.labels, h.edges⟩
theorem Copy.turns {B : Nat} {t : Lts} {b1 b2 lo hi : Nat} {w w' : World} (h : Copy B t b1 b2 w) (ht : Turns lo hi w w') (hB : hi ≤ B) : Copy B t b1 b2 w' :=
 ⟨h.h1, h.h2, Nat.lt_of_lt_of_le h.h3 ht.size, owns_turns h.o1 ht (fun b e => by have := (h.o1.lt b e).1; omega), owns_turns h.o2 ht (fun b e => by have := (h.o2.lt b e).1; have := h.h1; have := h.h2; omega)⟩
def CopyMade (t : Lts) (w : World) (e : Ending) (w' : World) : Prop := ∃ b1 b2, e = .returned (.agg #[.int .i64 t.states, .int .i64 t.initial, .slice (some ⟨b1, 0, none⟩) t.labels.length t.labels.length, .slice (some ⟨b2, 0, none⟩) t.edges.length t.edges.length]) ∧ Below w.heap.size w w' ∧ Copy w.heap.size t b1 b2 w'
theorem copy_any (lo : Nat) (t : Lts) (lv ev : Value) (w : World) (hl : t.labels.length ≤ 1048576) (he : t.edges.length ≤ 1048576) (h1 : SliceK 1 encS lo w lv t.labels) (h2 : SliceK 3 encE lo w ev t.edges) :
  Calls Tryz.prog 16 #[.agg #[.int .i64 t.states, .int .i64 t.initial, lv, ev]] w (CopyMade t w) :=
 (toLts_any (.agg #[.int .i64 t.states, .int .i64 t.initial, lv, ev]) lo t w hl he ⟨lv, ev, rfl, h1, h2⟩).mono fun _ _ ⟨b1, b2, he, hb, h1, h2, h3, h4, h5⟩ => ⟨b1, b2, he, hb, h1, h2, h3, h4, h5⟩

theorem Only.lts {Ts : List TypeId} {w w' : World} (h : Only Ts w w') {lo : Nat} {lv ev : Value} {t : Lts} (ho : OwnLts lo w lv ev t) (h1 : 9 ∉ Ts) (h2 : 135 ∉ Ts) : OwnLts lo w' lv ev t := ⟨h.own ho.1 h1, h.own ho.2 h2⟩
theorem Only.intss {Ts : List TypeId} {w w' : World} (h : Only Ts w w') {eo ei lo : Nat} {v : Value} {vs : List Value} {xss : List (List Int)} (ho : OwnIntss eo ei lo w v vs xss) (h1 : eo ∉ Ts) (h2 : ei ∉ Ts) : OwnIntss eo ei lo w' v vs xss := by
 obtain ⟨a1, a2, a3, a4, a5⟩ := ho
 exact ⟨a1, h.own a2 h1, fun i hi hi' => h.own (a3 i hi hi') h2, a4, a5⟩

end Go.Proofs.YtpoleaekcjjedaaGreatDoor
