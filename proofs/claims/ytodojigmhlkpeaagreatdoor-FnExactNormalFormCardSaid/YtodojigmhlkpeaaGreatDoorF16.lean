/-
  The reference's place of a text among texts.
  The labels of two systems together: the reference's list of them, kept in order by insertion, is the set of all labels.
  Lists of texts and lists of such lists of the call's own: how they lie in memory.
  What states offer, stable states. Plain.
  What a state offers, as the reference lists it; lists of texts that grow.
  Least offers in order. Plain.
  A list of texts of the call's own: marked, held.
  Lists of lists of texts: compared where they are the same, marked, held.
  Lists of lists of lists of texts of the call's own: how they lie in memory; parts of piles.
-/
import Derived.Test.YtodojigmhlkpeaaGreatDoorF13
import Derived.Test.YtodojigmhlkpeaaGreatDoorF10
import Derived.Test.YtodojigmhlkpeaaGreatDoorF3
import Derived.Test.YtodojigmhlkpeaaGreatDoorF12
import Derived.Test.YtodojigmhlkpeaaGreatDoorF15
import Derived.Test.YtodojigmhlkpeaaGreatDoorF6
namespace Go.Proofs.YtodojigmhlkpeaaGreatDoor
open Go Go.RowKit

theorem findIdx_hit {α : Type} {p : α → Bool} {l : List α} {k : Nat} (hk : k < l.length) (h1 : ∀ j (h : j < l.length), j < k → p l[j] = false) (h2 : p l[k] = true) : l.findIdx p = k := by
 rw [List.findIdx_eq hk]
 exact ⟨h2, fun j hj => h1 j (by omega) hj⟩
theorem findIdx_none {α : Type} {p : α → Bool} {l : List α} (h1 : ∀ j (h : j < l.length), p l[j] = false) : l.findIdx p = l.length := by
 rw [List.findIdx_eq_length]
 intro x hx
 obtain ⟨j, hj, rfl⟩ := List.mem_iff_getElem.1 hx
 exact h1 j hj

/-- The first place of a text among texts, or -1. -/
def textAt (ss : List ByteArray) (s : ByteArray) : Int := if ss.findIdx (fun t => t.toList == s.toList) < ss.length then (ss.findIdx (fun t => t.toList == s.toList) : Nat) else -1

set_option maxRecDepth 100000 in
set_option maxHeartbeats 1000000 in
theorem l11Find_any (lo : Nat) (v : Value) (ss : List ByteArray) (s : ByteArray) (w : World) (hv : SliceK 1 encS lo w v ss) : Calls Tryz.prog 62 #[v, .string s] w fun e w' => e = .returned (.int .i64 (textAt ss s)) ∧ Below w.heap.size w w' := by
 obtain ⟨a, cap, rfl, hn, hcap, hrow⟩ := hv
 go_enter Tryz.func62, Tryz.ntmps62
 go_wp2
 go_loopw [5] (fun i wr => ∃ k : Nat, k ≤ ss.length ∧ i = .int .i64 k ∧ Below w.heap.size w wr ∧ ∀ j (h : j < ss.length), j < k → (ss[j].toList == s.toList) = false) (fun i _ => ss.length - (intOf i).toNat)
 case atStart => exact ⟨0, Nat.zero_le _, rfl, Below.refl _ _, fun _ _ h => by omega⟩
 case round =>
  obtain ⟨k, hk, rfl, hbl, hx⟩ := hrel
  have HX := Lib.hid hx
  have HBL := Lib.hid hbl
  have hsz := hbl.size
  clear hx
  by_cases hlt : k < ss.length
  ·obtain ⟨b, o, rfl, -, hb, c⟩ := (hrow.below hbl).one hlt
   simp only [encS, List.getElem?_cons_zero] at c
   clear hrow hbl
   cases g : (ss[k].toList == s.toList)
   ·have HG := Lib.hid g
    go_wp2
    go_roundw
    case rel => exact ⟨k + 1, by omega, by go_num, HBL.out, fun j h h' => by
      by_cases e : j = k
      ·subst e; exact HG.out
      ·exact HX.out j h (by omega)⟩
    case measure => simp [intOf]; omega
   ·have HG : Hid (textAt ss s = (k : Int)) := by
     unfold Hid textAt
     rw [findIdx_hit hlt HX.out g, if_pos hlt]
    go_wp2
    go_ret
    exact ⟨ret_int HG.out.symm, HBL.out⟩
  ·clear hrow hbl
   go_wp2
   go_ret
   refine ⟨ret_int ?_, HBL.out⟩
   unfold textAt
   rw [findIdx_none (fun j h => HX.out j h (by omega)), if_neg (by omega)]

theorem textAt_neg {ss : List ByteArray} {s : ByteArray} : textAt ss s < 0 ↔ (ss.any fun t => t.toList == s.toList) = false := by
 unfold textAt
 by_cases hlt : ss.findIdx (fun t => t.toList == s.toList) < ss.length
 ·rw [if_pos hlt]
  have h1 := List.findIdx_lt_length.1 hlt
  constructor
  ·intro h; omega
  ·intro h
   rw [List.any_eq_false] at h
   obtain ⟨x, hx, hp⟩ := h1
   exact absurd hp (h x hx)
 ·rw [if_neg hlt]
  refine ⟨fun _ => ?_, fun _ => by omega⟩
  rw [List.any_eq_false]
  intro x hx hp
  exact hlt (List.findIdx_lt_length.2 ⟨x, hx, hp⟩)


end Go.Proofs.YtodojigmhlkpeaaGreatDoor

namespace Go.Proofs.YtodojigmhlkpeaaGreatDoor
open Go Go.RowKit

theorem labSet_is (ls : List ByteArray) : ((labSet ls).map (·.data.toList)).Pairwise (fun a b => lessL a b = true) ∧ ∀ x, x ∈ labSet ls ↔ x ∈ ls := by
 have hs : ((ls.map (·.data.toList)).mergeSort fun x y => !lessL y x).Pairwise fun a b => a = b ∨ lessL a b = true := by
  have h1 := List.pairwise_mergeSort (le := fun x y : List UInt8 => !lessL y x) (fun a b c h1 h2 => by
   simp only [Bool.not_eq_true'] at *
   have := (swo_of_total lessL_irrefl lessL_trans lessL_tri).ntrans c b a h2 h1
   exact this) (fun a b => by
   cases h : lessL b a with
   | false => simp
   | true =>
    cases h2 : lessL a b with
    | false => simp
    | true => have := lessL_trans a b a h2 h; rw [lessL_irrefl] at this; cases this) (ls.map (·.data.toList))
  refine h1.imp fun {a b} h => ?_
  simp only [Bool.not_eq_true'] at h
  cases h2 : lessL a b with
  | true => exact .inr rfl
  | false => exact .inl (lessL_tri a b h2 h)
 obtain ⟨h1, h2⟩ := compact_is (fun a b : List UInt8 => lessL a b = true) lessL_trans _ hs
 have hm : (labSet ls).map (·.data.toList) = Lib.compact ((ls.map (·.data.toList)).mergeSort fun x y => !lessL y x) := by
  unfold labSet
  rw [List.map_map]
  conv => rhs; rw [← List.map_id (Lib.compact ((ls.map (·.data.toList)).mergeSort fun x y => !lessL y x))]
  apply List.map_congr_left
  intro x _
  simp [mkB]
 refine ⟨by rw [hm]; exact h1, fun x => ?_⟩
 have h3 : x ∈ labSet ls ↔ x.data.toList ∈ (labSet ls).map (·.data.toList) := by
  rw [List.mem_map]
  exact ⟨fun h => ⟨x, h, rfl⟩, fun ⟨y, hy, e⟩ => (data_inj e) ▸ hy⟩
 rw [h3, hm, h2, List.mem_mergeSort, List.mem_map]
 exact ⟨fun ⟨y, hy, e⟩ => (data_inj e) ▸ hy, fun h => ⟨x, h, rfl⟩⟩

end Go.Proofs.YtodojigmhlkpeaaGreatDoor

namespace Go.Proofs.YtodojigmhlkpeaaGreatDoor
open Go Go.RowKit

/-- A slice of slices of texts. -/
def StrssAt (lo : Nat) (w : World) (v : Value) (xss : List (List ByteArray)) : Prop :=
 ∃ vs : List Value, vs.length = xss.length ∧ SliceK 1 encV lo w v vs ∧ ∀ i (h : i < vs.length) (h' : i < xss.length), SliceK 1 encS lo w vs[i] xss[i]
theorem StrssAt.below {lo : Nat} {w w' : World} {v : Value} {xss : List (List ByteArray)} (h : StrssAt lo w v xss) (hb : Below w.heap.size w w') : StrssAt lo w' v xss := by
 obtain ⟨vs, h1, h2, h3⟩ := h
 exact ⟨vs, h1, h2.below hb, fun i hi hi' => (h3 i hi hi').below hb⟩
def txts (xs : List ByteArray) : List Value := xs.map Value.string
/-- A slice of slices of texts of the call's own. -/
structure OwnStrss (lo : Nat) (w : World) (v : Value) (vs : List Value) (xss : List (List ByteArray)) : Prop where
 out : w.ownsRow lo 22 1 v vs.length vs
 rows : Pile 9 lo w vs (xss.map txts)
theorem OwnStrss.len {lo : Nat} {w : World} {v : Value} {vs : List Value} {xss : List (List ByteArray)} (h : OwnStrss lo w v vs xss) : vs.length = xss.length := by have := h.rows.len; simpa using this
theorem OwnStrss.none (lo : Nat) (w : World) : OwnStrss lo w (.slice none 0 0) [] [] := ⟨World.ownsRow_nil _ _ _ _, Pile.nil _ _ _⟩
theorem OwnStrss.below {lo : Nat} {w w' : World} {v : Value} {vs : List Value} {xss : List (List ByteArray)} (h : OwnStrss lo w v vs xss) (hb : Below w.heap.size w w') : OwnStrss lo w' v vs xss := ⟨owns_below h.out hb, h.rows.below hb⟩
theorem OwnStrss.lower {lo lo' : Nat} {w : World} {v : Value} {vs : List Value} {xss : List (List ByteArray)} (h : OwnStrss lo w v vs xss) (hl : lo' ≤ lo) : OwnStrss lo' w v vs xss := ⟨own_lower h.out hl, h.rows.lower hl⟩
theorem OwnStrss.turns {base lo hi : Nat} {w w' : World} {v : Value} {vs : List Value} {xss : List (List ByteArray)} (h : OwnStrss base w v vs xss) (ht : Turns lo hi w w') (hb : hi ≤ base) : OwnStrss base w' v vs xss :=
 ⟨owns_turns h.out ht (fun b e => .inr (Nat.le_trans hb (h.out.lt b e).1)), h.rows.turns ht hb⟩
theorem OwnStrss.rowAt {lo : Nat} {w : World} {v : Value} {vs : List Value} {xss : List (List ByteArray)} (h : OwnStrss lo w v vs xss) (i : Nat) (hi : i < vs.length) (hi' : i < xss.length) : w.ownsRow lo 9 1 vs[i] xss[i].length (txts xss[i]) := by
 have := h.rows.row i hi (by simpa using hi')
 simpa [txts] using this
theorem OwnStrss.at {lo : Nat} {w : World} {v : Value} {vs : List Value} {xss : List (List ByteArray)} (h : OwnStrss lo w v vs xss) : StrssAt lo w v xss :=
 ⟨vs, h.len, SliceK.of_owns encV_len rfl (by rw [flat_encV]; exact h.out), fun i hi hi' => SliceK.of_owns (e := 9) encS_len rfl (by rw [flat_encS]; exact h.rowAt i hi hi')⟩

/-- A list of texts of the call's own. -/
def OwnStrs (lo : Nat) (w : World) (v : Value) (xs : List ByteArray) : Prop := w.ownsRow lo 9 1 v xs.length (txts xs)
theorem OwnStrs.below {lo : Nat} {w w' : World} {v : Value} {xs : List ByteArray} (h : OwnStrs lo w v xs) (hb : Below w.heap.size w w') : OwnStrs lo w' v xs := owns_below h hb
theorem OwnStrs.lower {lo lo' : Nat} {w : World} {v : Value} {xs : List ByteArray} (h : OwnStrs lo w v xs) (hl : lo' ≤ lo) : OwnStrs lo' w v xs := own_lower h hl
theorem OwnStrs.turns {base lo hi : Nat} {w w' : World} {v : Value} {xs : List ByteArray} (h : OwnStrs base w v xs) (ht : Turns lo hi w w') (hb : hi ≤ base) : OwnStrs base w' v xs := owns_turns h ht (fun b e => .inr (Nat.le_trans hb (World.ownsRow.lt h b e).1))
theorem OwnStrs.at {lo : Nat} {w : World} {v : Value} {xs : List ByteArray} (h : OwnStrs lo w v xs) : SliceK 1 encS lo w v xs := SliceK.of_owns (e := 9) encS_len rfl (by rw [flat_encS]; exact h)
theorem txts_len (xs : List ByteArray) : (txts xs).length = xs.length := by simp [txts]
def totalS : List (List ByteArray) → Nat
 | [] => 0
 | xs :: r => xs.length + totalS r
theorem totalS_append (a b : List (List ByteArray)) : totalS (a ++ b) = totalS a + totalS b := by
 induction a with
 | nil => simp [totalS]
 | cons x r ih => simp [totalS, ih]; omega
theorem totalS_take (xss : List (List ByteArray)) (j : Nat) (h : j < xss.length) : totalS (xss.take (j + 1)) = totalS (xss.take j) + xss[j].length := by
 rw [List.take_succ_eq_append_getElem h, totalS_append]; simp [totalS]
theorem totalS_take_le (xss : List (List ByteArray)) (j : Nat) : totalS (xss.take j) ≤ totalS xss := by
 conv => rhs; rw [← List.take_append_drop j xss, totalS_append]
 omega
theorem totalS_few {n : Nat} : ∀ {l : List (List ByteArray)}, (∀ r ∈ l, r.length ≤ n) → totalS l ≤ n * l.length
 | [], _ => by simp [totalS]
 | a :: l, h => by
  have h1 := h a (by simp)
  have h2 := totalS_few (l := l) (fun r hr => h r (List.mem_cons_of_mem _ hr))
  simp only [totalS, List.length_cons, Nat.mul_add, Nat.mul_one]
  omega

end Go.Proofs.YtodojigmhlkpeaaGreatDoor

namespace Go.Proofs.YtodojigmhlkpeaaGreatDoor
open Go Go.RowKit

/-- A text among texts. -/
def inT (ss : List ByteArray) (s : ByteArray) : Bool := ss.any fun t => t.toList == s.toList
theorem inT_mem {ss : List ByteArray} {s : ByteArray} : inT ss s = true ↔ s ∈ ss := by
 unfold inT
 rw [List.any_eq_true]
 exact ⟨fun ⟨x, hx, h⟩ => toList_inj (eq_of_beq h) ▸ hx, fun h => ⟨s, h, by simp⟩⟩
/-- The labels of the edges from a state. -/
def rdy (t : Lts) (k : Int) : List ByteArray := labSet ((outOf t k).map (labAt t))
/-- The visible ones. -/
def vis (t : Lts) (k : Int) : List ByteArray := labSet (((outOf t k).filter fun e => decide (0 < e.lab)).map (labAt t))
/-- No internal edge leads from a state. -/
def stableB (t : Lts) (k : Int) : Bool := t.edges.all fun e => !((e.src == k) && (e.lab == 0))
theorem stable_out {t : Lts} {k : Int} : stableB t k = true ↔ ∀ e ∈ outOf t k, e.lab ≠ 0 := by
 unfold stableB outOf
 rw [List.all_eq_true]
 constructor
 ·intro h e he hl
  obtain ⟨h1, h2⟩ := List.mem_filter.1 he
  have := h e h1
  rw [h2, hl] at this
  simp at this
 ·intro h e he
  by_cases hs : (e.src == k) = true
  ·have := h e (List.mem_filter.2 ⟨he, hs⟩)
   simp [this]
  ·simp [Bool.eq_false_iff.2 hs]
theorem vis_stable {t : Lts} (hv : Valid t) {k : Int} (h : stableB t k = true) : vis t k = rdy t k := by
 unfold vis rdy
 rw [List.filter_eq_self.2 fun e he => ?_]
 have h1 := stable_out.1 h e he
 obtain ⟨i, hi, hie⟩ := List.mem_iff_getElem.1 (List.mem_filter.1 he).1
 have h2 := (hv.edge i hi).l0
 rw [hie] at h2
 simp
 omega
theorem lab_tau {t : Lts} (hv : Valid t) {e : Edge} (he : e ∈ t.edges) : labAt t e = tauT ↔ e.lab = 0 := by
 obtain ⟨i, hi, rfl⟩ := List.mem_iff_getElem.1 he
 have hok := hv.edge i hi
 obtain ⟨hlt, hl⟩ := labAt_idx hok
 obtain ⟨h0, ht⟩ := tau_first hv
 rw [hl]
 constructor
 ·intro h
  have := labels_inj hv.labels _ 0 hlt h0 (by rw [h, ht])
  have := hok.l0
  omega
 ·intro h
  have e0 : t.edges[i].lab.toNat = 0 := by omega
  rw [← ht]
  congr 1
theorem tau_rdy {t : Lts} (hv : Valid t) (k : Int) : inT (rdy t k) tauT = !stableB t k := by
 have h1 : inT (rdy t k) tauT = true ↔ ¬ stableB t k = true := by
  rw [inT_mem, stable_out]
  unfold rdy
  rw [(labSet_is _).2, List.mem_map]
  constructor
  ·rintro ⟨e, he, hl⟩ h
   exact h e he ((lab_tau hv (List.mem_filter.1 he).1).1 hl)
  ·intro h
   refine Decidable.byContradiction fun hn => h fun e he hl => hn ⟨e, he, (lab_tau hv (List.mem_filter.1 he).1).2 hl⟩
 cases h2 : stableB t k
 ·rw [Bool.not_false]
  exact h1.2 (by rw [h2]; simp)
 ·rw [Bool.not_true, Bool.eq_false_iff]
  intro h
  exact h1.1 h h2
/-- The stable ones among states. -/
def stabs (t : Lts) (l : List Int) : List Int := l.filter (stableB t)
/-- What one list has and another one has not. -/
def lackL (set other : List ByteArray) : List ByteArray := set.filter fun s => !inT other s
def withinL (a b : List ByteArray) : Bool := a.all (inT b)
theorem lack_nil {a b : List ByteArray} : (lackL a b).length = 0 ↔ withinL a b = true := by
 unfold lackL withinL
 rw [List.length_eq_zero_iff, List.filter_eq_nil_iff, List.all_eq_true]
 constructor
 ·intro h s hs
  have := h s hs
  cases h2 : inT b s
  ·rw [h2] at this; simp at this
  ·rfl
 ·intro h s hs
  rw [h s hs]
  simp

end Go.Proofs.YtodojigmhlkpeaaGreatDoor

namespace Go.Proofs.YtodojigmhlkpeaaGreatDoor
open Go Go.RowKit

/-- The offer of a state after j edges. -/
def offTo (t : Lts) (k : Int) : Nat → List ByteArray
 | 0 => []
 | j + 1 => if h : j < t.edges.length then (if ((t.edges[j].src == k) && decide (0 < t.edges[j].lab)) && decide (textAt (offTo t k j) (labAt t t.edges[j]) < 0) then offTo t k j ++ [labAt t t.edges[j]] else offTo t k j) else offTo t k j
def offS (t : Lts) (k : Int) : List ByteArray := offTo t k t.edges.length
theorem offTo_succ {t : Lts} {k : Int} {j : Nat} (h : j < t.edges.length) : offTo t k (j + 1) = if ((t.edges[j].src == k) && decide (0 < t.edges[j].lab)) && decide (textAt (offTo t k j) (labAt t t.edges[j]) < 0) then offTo t k j ++ [labAt t t.edges[j]] else offTo t k j := by rw [offTo, dif_pos h]
theorem offTo_len (t : Lts) (k : Int) : ∀ j, (offTo t k j).length ≤ j
 | 0 => Nat.le_refl _
 | j + 1 => by
  have h := offTo_len t k j
  rw [offTo]
  split
  ·split
   ·rw [List.length_append]; exact Nat.succ_le_succ h
   ·omega
  ·omega
theorem textAt_inT {ss : List ByteArray} {s : ByteArray} : decide (textAt ss s < 0) = !inT ss s := by
 have h := textAt_neg (ss := ss) (s := s)
 unfold inT
 cases h2 : ss.any fun t => t.toList == s.toList
 ·rw [Bool.not_false, decide_eq_true_eq]; exact h.2 h2
 ·rw [Bool.not_true, decide_eq_false_iff_not]
  intro h3
  rw [h.1 h3] at h2
  cases h2
theorem offTo_mem (t : Lts) (k : Int) (s : ByteArray) : ∀ j, s ∈ offTo t k j ↔ ∃ e ∈ t.edges.take j, e.src = k ∧ 0 < e.lab ∧ labAt t e = s
 | 0 => by simp [offTo]
 | j + 1 => by
  have ih := offTo_mem t k s j
  rw [offTo]
  split
  ·next h =>
   rw [List.take_succ_eq_append_getElem h]
   have hsplit : (∃ e ∈ t.edges.take j ++ [t.edges[j]], e.src = k ∧ 0 < e.lab ∧ labAt t e = s) ↔ (∃ e ∈ t.edges.take j, e.src = k ∧ 0 < e.lab ∧ labAt t e = s) ∨ (t.edges[j].src = k ∧ 0 < t.edges[j].lab ∧ labAt t t.edges[j] = s) := by
    constructor
    ·rintro ⟨e, he, r⟩
     rcases List.mem_append.1 he with he | he
     ·exact .inl ⟨e, he, r⟩
     ·rw [List.mem_singleton] at he; subst he; exact .inr r
    ·rintro (⟨e, he, r⟩ | r)
     ·exact ⟨e, List.mem_append.2 (.inl he), r⟩
     ·exact ⟨_, List.mem_append.2 (.inr (List.mem_singleton.2 rfl)), r⟩
   rw [hsplit, ← ih]
   by_cases h1 : t.edges[j].src = k ∧ 0 < t.edges[j].lab
   ·have e1 : ((t.edges[j].src == k) && decide (0 < t.edges[j].lab)) = true := by rw [Bool.and_eq_true, beq_iff_eq, decide_eq_true_eq]; exact h1
    rw [e1, Bool.true_and, textAt_inT]
    cases h2 : inT (offTo t k j) (labAt t t.edges[j])
    ·simp only [Bool.not_false, if_true, List.mem_append, List.mem_singleton]
     constructor
     ·rintro (h | h)
      ·exact .inl h
      ·exact .inr ⟨h1.1, h1.2, h.symm⟩
     ·rintro (h | h)
      ·exact .inl h
      ·exact .inr h.2.2.symm
    ·simp only [Bool.not_true, Bool.false_eq_true, if_false]
     constructor
     ·exact .inl
     ·rintro (h | h)
      ·exact h
      ·rw [← h.2.2]; exact inT_mem.1 h2
   ·have e1 : ((t.edges[j].src == k) && decide (0 < t.edges[j].lab)) = false := by
     rw [Bool.eq_false_iff]
     intro h
     rw [Bool.and_eq_true, beq_iff_eq, decide_eq_true_eq] at h
     exact h1 h
    rw [e1, Bool.false_and]
    simp only [Bool.false_eq_true, if_false]
    exact ⟨.inl, fun h => h.elim id fun h => absurd ⟨h.1, h.2.1⟩ h1⟩
  ·next h => rw [List.take_of_length_le (by omega)]; rw [List.take_of_length_le (by omega)] at ih; exact ih
theorem offS_mem (t : Lts) (k : Int) (s : ByteArray) : s ∈ offS t k ↔ s ∈ vis t k := by
 unfold offS vis
 rw [offTo_mem, List.take_length, (labSet_is _).2, List.mem_map]
 unfold outOf
 constructor
 ·rintro ⟨e, he, h1, h2, h3⟩
  exact ⟨e, List.mem_filter.2 ⟨List.mem_filter.2 ⟨he, by simpa using h1⟩, by simpa using h2⟩, h3⟩
 ·rintro ⟨e, he, h3⟩
  obtain ⟨h4, h2⟩ := List.mem_filter.1 he
  obtain ⟨h5, h1⟩ := List.mem_filter.1 h4
  exact ⟨e, h5, by simpa using h1, by simpa using h2, h3⟩
/-- The offers of the stable ones among states. -/
def offersS (t : Lts) (S : List Int) : List (List ByteArray) := (stabs t S).map (offS t)

/-- One list more. -/
theorem ownStrss_push {lo B : Nat} {w0 w w' : World} {v v' rv : Value} {vs : List Value} {xss : List (List ByteArray)} {ys : List ByteArray} (h : OwnStrss lo w0 v vs xss) (hB : w0.heap.size ≤ B) (hb : Below w0.heap.size w0 w) (hr : w.ownsRow B 9 1 rv ys.length (txts ys)) (hlo : lo ≤ B)
  (hg : w.grownBy w' v.ownBlock) (ho : w'.ownsRow lo 22 1 v' (vs.length + 1) (vs ++ [rv])) : OwnStrss lo w' v' (vs ++ [rv]) (xss ++ [ys]) := by
 have h1 := h.rows.push hB hb (by rw [txts_len]; exact hr) hlo
 have h2 := h1.other (by decide) (owns_below h.out hb) hg
 refine ⟨by rw [List.length_append, List.length_singleton]; exact ho, ?_⟩
 rw [List.map_append, List.map_singleton]
 exact h2

end Go.Proofs.YtodojigmhlkpeaaGreatDoor

namespace Go.Proofs.YtodojigmhlkpeaaGreatDoor
open Go Go.RowKit

def lexT (o : List ByteArray) : List (List UInt8) := o.map (·.data.toList)
theorem lexT_inj : ∀ {a b : List ByteArray}, lexT a = lexT b → a = b
 | [], [], _ => rfl
 | [], _ :: _, h => by simp [lexT] at h
 | _ :: _, [], h => by simp [lexT] at h
 | x :: a, y :: b, h => by
  simp only [lexT, List.map_cons, List.cons.injEq] at h
  rw [data_inj h.1, lexT_inj (a := a) (b := b) h.2]
/-- One list of texts stands before another one. -/
def befL (a b : List ByteArray) : Bool := decide (lexT a < lexT b)
theorem befL_irrefl (a : List ByteArray) : befL a a = false := by unfold befL; rw [decide_eq_false_iff_not]; exact List.lt_irrefl _
theorem befL_trans (a b c : List ByteArray) (h : befL a b = true) (k : befL b c = true) : befL a c = true := by
 unfold befL at *
 rw [decide_eq_true_eq] at *
 exact List.lt_trans h k
theorem befL_asymm (a b : List ByteArray) (h : befL a b = true) : ¬ befL b a = true := fun k => by
 have := befL_trans a b a h k
 rw [befL_irrefl] at this
 cases this
theorem befL_tri (a b : List ByteArray) (h : befL a b = false) (k : befL b a = false) : a = b := by
 unfold befL at *
 rw [decide_eq_false_iff_not] at *
 exact lexT_inj (List.le_antisymm (List.not_lt.1 k) (List.not_lt.1 h))
/-- The first place where two lists differ tells. -/
theorem befL_at {a b : List ByteArray} {i : Nat} (ha : i < a.length) (hb : i < b.length) (hs : ∀ j (h : j < a.length) (h' : j < b.length), j < i → a[j] = b[j]) (hd : a[i] ≠ b[i]) :
  befL a b = decide (a[i].data.toList < b[i].data.toList) := by
 induction a generalizing b i with
 | nil => simp at ha
 | cons x r ih =>
  cases b with
  | nil => simp at hb
  | cons y s =>
   unfold befL lexT
   simp only [List.map_cons]
   cases i with
   | zero =>
    simp only [List.getElem_cons_zero] at hd ⊢
    have hne : x.data.toList ≠ y.data.toList := fun e => hd (data_inj e)
    rw [Bool.eq_iff_iff, decide_eq_true_eq, decide_eq_true_eq, List.cons_lt_cons_iff]
    constructor
    ·rintro (h | ⟨h, -⟩)
     ·exact h
     ·exact absurd h hne
    ·exact .inl
   | succ i =>
    have e : x = y := hs 0 (by simp) (by simp) (by omega)
    subst e
    simp only [List.getElem_cons_succ] at hd ⊢
    have := ih (b := s) (i := i) (by simpa using ha) (by simpa using hb) (fun j h h' hj => by
     have := hs (j + 1) (by simpa using h) (by simpa using h') (by omega)
     simpa using this) hd
    rw [← this]
    unfold befL lexT
    rw [Bool.eq_iff_iff, decide_eq_true_eq, decide_eq_true_eq, List.cons_lt_cons_iff]
    constructor
    ·rintro (h | ⟨-, h⟩)
     ·exact absurd h (List.lt_irrefl _)
     ·exact h
    ·exact fun h => .inr ⟨rfl, h⟩
/-- One list begins the other one. -/
theorem befL_end {a b : List ByteArray} (hs : ∀ j (h : j < a.length) (h' : j < b.length), a[j] = b[j]) : befL a b = decide (a.length < b.length) := by
 induction a generalizing b with
 | nil =>
  cases b with
  | nil => exact befL_irrefl []
  | cons y s => unfold befL lexT; simp
 | cons x r ih =>
  cases b with
  | nil => unfold befL lexT; simp
  | cons y s =>
   have e : x = y := hs 0 (by simp) (by simp)
   subst e
   have := ih (b := s) (fun j h h' => by
    have := hs (j + 1) (by simpa using h) (by simpa using h')
    simpa using this)
   have h2 : befL (x :: r) (x :: s) = befL r s := by
    unfold befL lexT
    simp only [List.map_cons]
    rw [Bool.eq_iff_iff, decide_eq_true_eq, decide_eq_true_eq, List.cons_lt_cons_iff]
    constructor
    ·rintro (h | ⟨-, h⟩)
     ·exact absurd h (List.lt_irrefl _)
     ·exact h
    ·exact fun h => .inr ⟨rfl, h⟩
   rw [h2, this]
   simp

/-- The labels of a list that stands in order. -/
def AscT (o : List ByteArray) : Prop := (lexT o).Pairwise fun a b => lessL a b = true
theorem AscT.nodup {o : List ByteArray} (h : AscT o) : o.Nodup := by
 unfold AscT lexT at h
 rw [List.pairwise_map] at h
 exact h.imp fun {a b} k e => by subst e; rw [lessL_irrefl] at k; cases k
theorem asc_same {a b : List ByteArray} (ha : AscT a) (hb : AscT b) (h : ∀ x, x ∈ a ↔ x ∈ b) : a = b := by
 refine lexT_inj (rise_unique (fun a b : List UInt8 => lessL a b = true) (fun a h => by rw [lessL_irrefl] at h; cases h) (fun a b h k => by have := lessL_trans a b a h k; rw [lessL_irrefl] at this; cases this) _ _ ha hb fun x => ?_)
 unfold lexT
 rw [List.mem_map, List.mem_map]
 constructor
 ·rintro ⟨y, hy, rfl⟩; exact ⟨y, (h y).1 hy, rfl⟩
 ·rintro ⟨y, hy, rfl⟩; exact ⟨y, (h y).2 hy, rfl⟩
theorem nodup_within {α : Type} [DecidableEq α] : ∀ {a b : List α}, a.Nodup → (∀ x ∈ a, x ∈ b) → b.length ≤ a.length → ∀ x ∈ b, x ∈ a
 | [], b, _, _, hl, x, hx => by
  have : b = [] := List.eq_nil_of_length_eq_zero (Nat.le_zero.1 hl)
  rw [this] at hx
  cases hx
 | y :: a, b, hn, hs, hl, x, hx => by
  rw [List.nodup_cons] at hn
  have hy : y ∈ b := hs y (by simp)
  by_cases e : x = y
  ·subst e; simp
  ·have h1 : ∀ z ∈ a, z ∈ b.erase y := fun z hz => (List.mem_erase_of_ne (fun e2 => hn.1 (by rw [← e2]; exact hz))).2 (hs z (List.mem_cons_of_mem _ hz))
   have h2 : (b.erase y).length ≤ a.length := by
    rw [List.length_erase_of_mem hy]
    simp only [List.length_cons] at hl
    omega
   exact List.mem_cons_of_mem _ (nodup_within hn.2 h1 h2 x ((List.mem_erase_of_ne e).2 hx))

/-- Offers in order, each once, none of which contains a smaller one. -/
def leastIs (O l : List (List ByteArray)) : Prop := l.Pairwise (fun a b => befL a b = true) ∧ ∀ o, o ∈ l ↔ o ∈ O ∧ ∀ p ∈ O, ¬ (p.length < o.length ∧ withinL p o = true)
theorem leastIs.unique {O l m : List (List ByteArray)} (h : leastIs O l) (k : leastIs O m) : l = m :=
 rise_unique (fun a b => befL a b = true) (fun a h => by rw [befL_irrefl] at h; cases h) befL_asymm l m h.1 k.1 fun x => (h.2 x).trans (k.2 x).symm
/-- The offer at a place is one to be listed there. -/
def keepB (O : List (List ByteArray)) (i : Nat) (h : i < O.length) : Prop := ∀ k (hk : k < O.length), ¬ (withinL O[k] O[i] = true ∧ (O[k].length < O[i].length ∨ k < i))
theorem keep_iff {O : List (List ByteArray)} (hO : ∀ o ∈ O, AscT o) (o : List ByteArray) : (∃ j, ∃ h : j < O.length, O[j] = o ∧ keepB O j h) ↔ o ∈ O ∧ ∀ p ∈ O, ¬ (p.length < o.length ∧ withinL p o = true) := by
 constructor
 ·rintro ⟨j, hj, rfl, hk⟩
  refine ⟨List.getElem_mem _, fun p hp hc => ?_⟩
  obtain ⟨k, hk2, rfl⟩ := List.mem_iff_getElem.1 hp
  exact hk k hk2 ⟨hc.2, .inl hc.1⟩
 ·rintro ⟨ho, hno⟩
  have hex : ∃ j, ∃ h : j < O.length, O[j] = o := List.mem_iff_getElem.1 ho
  have hmin : ∀ n, (∃ h : n < O.length, O[n] = o) → ∃ j, ∃ h : j < O.length, O[j] = o ∧ ∀ k (hk : k < O.length), k < j → O[k] ≠ o := by
   intro n
   induction n using Nat.strongRecOn with
   | ind n ih =>
    rintro ⟨h, e⟩
    by_cases hc : ∃ k, ∃ hk : k < O.length, k < n ∧ O[k] = o
    ·obtain ⟨k, hk, hkn, e2⟩ := hc
     exact ih k hkn ⟨hk, e2⟩
    ·exact ⟨n, h, e, fun k hk hkn e2 => hc ⟨k, hk, hkn, e2⟩⟩
  obtain ⟨n, hn⟩ := hex
  obtain ⟨j, hj, e, hfirst⟩ := hmin n hn
  refine ⟨j, hj, e, fun k hk hc => ?_⟩
  rcases hc with ⟨hw, hl | hl⟩
  ·exact hno O[k] (List.getElem_mem _) ⟨by rw [← e]; exact hl, by rw [← e]; exact hw⟩
  ·have hlen : O[j].length ≤ O[k].length := by
    refine Nat.le_of_not_lt fun h => hno O[k] (List.getElem_mem _) ⟨by rw [← e]; exact h, by rw [← e]; exact hw⟩
   have hsub : ∀ x ∈ O[k], x ∈ O[j] := fun x hx => by
    unfold withinL at hw
    rw [List.all_eq_true] at hw
    exact inT_mem.1 (hw x hx)
   have hsame : O[k] = O[j] := asc_same (hO _ (List.getElem_mem _)) (hO _ (List.getElem_mem _)) fun x => ⟨hsub x, nodup_within (hO _ (List.getElem_mem _)).nodup hsub hlen x⟩
   exact hfirst k hk hl (by rw [hsame, e])
/-- On the way: the offers up to a place that are to be listed. -/
def leastTo (O : List (List ByteArray)) (i : Nat) (l : List (List ByteArray)) : Prop := l.Pairwise (fun a b => befL a b = true) ∧ ∀ o, o ∈ l ↔ ∃ j, ∃ h : j < O.length, j < i ∧ O[j] = o ∧ keepB O j h
theorem leastTo.start (O : List (List ByteArray)) : leastTo O 0 [] := ⟨.nil, fun o => ⟨fun h => (by cases h), fun ⟨_, _, h, _⟩ => absurd h (Nat.not_lt_zero _)⟩⟩
theorem leastTo.done {O l : List (List ByteArray)} (hO : ∀ o ∈ O, AscT o) (h : leastTo O O.length l) : leastIs O l := by
 refine ⟨h.1, fun o => (h.2 o).trans (Iff.trans ?_ (keep_iff hO o))⟩
 constructor
 ·rintro ⟨j, hj, -, r⟩; exact ⟨j, hj, r⟩
 ·rintro ⟨j, hj, r⟩; exact ⟨j, hj, hj, r⟩
theorem leastTo.pass {O l : List (List ByteArray)} {i : Nat} (hi : i < O.length) (h : leastTo O i l) (hk : ¬ keepB O i hi) : leastTo O (i + 1) l := by
 refine ⟨h.1, fun o => (h.2 o).trans ?_⟩
 constructor
 ·rintro ⟨j, hj, hji, r⟩; exact ⟨j, hj, by omega, r⟩
 ·rintro ⟨j, hj, hji, e, k⟩
  by_cases e2 : j = i
  ·subst e2; exact absurd k hk
  ·exact ⟨j, hj, by omega, e, k⟩
theorem leastTo.fresh {O l : List (List ByteArray)} {i : Nat} (hi : i < O.length) (h : leastTo O i l) (hk : keepB O i hi) : O[i] ∉ l := fun hm => by
 obtain ⟨j, hj, hji, e, -⟩ := (h.2 _).1 hm
 refine hk j hj ⟨?_, .inr hji⟩
 rw [e]
 unfold withinL
 rw [List.all_eq_true]
 exact fun x hx => inT_mem.2 hx
theorem leastTo.put {O l : List (List ByteArray)} {i a : Nat} (hi : i < O.length) (h : leastTo O i l) (hk : keepB O i hi) (ha : a ≤ l.length) (hhi : ∀ j (h : j < l.length), a ≤ j → befL O[i] l[j] = true) (hlo : ∀ h : 0 < a, befL O[i] (l[a - 1]'(by omega)) = false) :
  leastTo O (i + 1) (l.take a ++ O[i] :: l.drop a) := by
 have hfr := h.fresh hi hk
 have hp := List.pairwise_iff_getElem.1 h.1
 have hbelow : ∀ j (hj : j < l.length), j < a → befL l[j] O[i] = true := by
  intro j hj hja
  have h1 : befL (l[a - 1]'(by omega)) O[i] = true := by
   cases h2 : befL (l[a - 1]'(by omega)) O[i] with
   | true => rfl
   | false =>
    have := befL_tri _ _ (hlo (by omega)) h2
    exact absurd (by rw [this]; exact List.getElem_mem _) hfr
  by_cases e : j = a - 1
  ·subst e; exact h1
  ·exact befL_trans _ _ _ (hp j (a - 1) hj (by omega) (by omega)) h1
 refine ⟨?_, fun o => ?_⟩
 ·rw [List.pairwise_append, List.pairwise_cons]
  refine ⟨List.Pairwise.sublist (List.take_sublist _ _) h.1, ⟨fun y hy => ?_, List.Pairwise.sublist (List.drop_sublist _ _) h.1⟩, fun x hx y hy => ?_⟩
  ·obtain ⟨j, hj, rfl⟩ := List.mem_iff_getElem.1 hy
   rw [List.getElem_drop]
   exact hhi _ _ (by omega)
  ·obtain ⟨j, hj, rfl⟩ := List.mem_iff_getElem.1 hx
   rw [List.getElem_take]
   rw [List.length_take] at hj
   have hx1 := hbelow j (by omega) (by omega)
   rcases List.mem_cons.1 hy with rfl | hy
   ·exact hx1
   ·obtain ⟨k, hk2, rfl⟩ := List.mem_iff_getElem.1 hy
    rw [List.length_drop] at hk2
    rw [List.getElem_drop]
    exact hp j (a + k) (by omega) (by omega) (by omega)
 ·have hmem : o ∈ l.take a ++ O[i] :: l.drop a ↔ o ∈ l ∨ o = O[i] := by
   conv => rhs; rw [← List.take_append_drop a l]
   simp only [List.mem_append, List.mem_cons]
   constructor
   ·rintro (h | h | h)
    ·exact .inl (.inl h)
    ·exact .inr h
    ·exact .inl (.inr h)
   ·rintro ((h | h) | h)
    ·exact .inl h
    ·exact .inr (.inr h)
    ·exact .inr (.inl h)
  rw [hmem, h.2]
  constructor
  ·rintro (⟨j, hj, hji, r⟩ | e)
   ·exact ⟨j, hj, by omega, r⟩
   ·exact ⟨i, hi, by omega, e.symm, hk⟩
  ·rintro ⟨j, hj, hji, e, k⟩
   by_cases e2 : j = i
   ·subst e2; exact .inr e.symm
   ·exact .inl ⟨j, hj, by omega, e, k⟩

theorem riseE_valid {t : Lts} (hv : Valid t) : RiseE t.edges := by
 unfold RiseE
 rw [List.pairwise_iff_getElem]
 intro i j hi hj hij
 induction j with
 | zero => omega
 | succ j ih =>
  have h1 := hv.rise j hj
  rcases Nat.lt_or_ge i j with hlt | hge
  ·have h2 := ih (by omega) hlt
   rw [edgeLess_iff] at *
   omega
  ·obtain rfl : i = j := by omega
   exact h1
/-- What a stable state offers is one list on both sides. -/
theorem offTo_asc {t : Lts} (hv : Valid t) (k : Int) : ∀ j, j ≤ t.edges.length → AscT (offTo t k j) ∧ ∀ s ∈ offTo t k j, ∃ i, ∃ h : i < t.edges.length, i < j ∧ t.edges[i].src = k ∧ labAt t t.edges[i] = s
 | 0, _ => ⟨.nil, fun s hs => by cases hs⟩
 | j + 1, hj => by
  obtain ⟨h1, h2⟩ := offTo_asc hv k j (by omega)
  have hlt : j < t.edges.length := by omega
  rw [offTo_succ hlt]
  split
  ·next hc =>
   rw [textAt_inT] at hc
   simp only [Bool.and_eq_true, beq_iff_eq, decide_eq_true_eq, Bool.not_eq_true'] at hc
   obtain ⟨⟨hsrc, hlab⟩, hnin⟩ := hc
   refine ⟨?_, fun s hs => ?_⟩
   ·unfold AscT lexT at h1 ⊢
    rw [List.map_append, List.pairwise_append]
    refine ⟨h1, by simp, fun x hx y hy => ?_⟩
    rw [List.map_singleton, List.mem_singleton] at hy
    subst hy
    obtain ⟨s, hs, rfl⟩ := List.mem_map.1 hx
    obtain ⟨i, hi, hij, hsi, rfl⟩ := h2 s hs
    have hri : edgeLess t.edges[i] t.edges[j] = true := List.pairwise_iff_getElem.1 (riseE_valid hv) i j hi hlt hij
    rw [edgeLess_iff] at hri
    obtain ⟨l1, e1⟩ := labAt_idx (hv.edge i hi)
    obtain ⟨l2, e2⟩ := labAt_idx (hv.edge j hlt)
    have hne : t.edges[i].lab ≠ t.edges[j].lab := fun e => by
     have e3 : labAt t t.edges[i] = labAt t t.edges[j] := by
      rw [e1, e2]
      congr 2
     rw [Bool.eq_false_iff] at hnin
     exact hnin (inT_mem.2 (e3 ▸ hs))
    have hlab2 : t.edges[i].lab < t.edges[j].lab := by omega
    have h3 := (hv.edge i hi).l0
    have hp := List.pairwise_iff_getElem.1 (labels_pair hv.labels) t.edges[i].lab.toNat t.edges[j].lab.toNat (by rw [List.length_map]; exact l1) (by rw [List.length_map]; exact l2) (by omega)
    rw [List.getElem_map, List.getElem_map] at hp
    rw [e1, e2]
    exact hp
   ·rcases List.mem_append.1 hs with hs | hs
    ·obtain ⟨i, hi, hij, r⟩ := h2 s hs
     exact ⟨i, hi, by omega, r⟩
    ·rw [List.mem_singleton] at hs
     exact ⟨j, hlt, by omega, hsrc, hs.symm⟩
  ·exact ⟨h1, fun s hs => by
    obtain ⟨i, hi, hij, r⟩ := h2 s hs
    exact ⟨i, hi, by omega, r⟩⟩
theorem offS_rdy {t : Lts} (hv : Valid t) {k : Int} (h : stableB t k = true) : offS t k = rdy t k := by
 rw [← vis_stable hv h]
 exact asc_same (offTo_asc hv k _ (Nat.le_refl _)).1 (labSet_is _).1 fun s => offS_mem t k s
theorem offersS_rdy {t : Lts} (hv : Valid t) (S : List Int) : offersS t S = (stabs t S).map (rdy t) := by
 unfold offersS
 exact List.map_congr_left fun k hk => offS_rdy hv (List.mem_filter.1 hk).2
theorem offersS_asc {t : Lts} (hv : Valid t) (S : List Int) : ∀ o ∈ offersS t S, AscT o := fun o ho => by
 obtain ⟨k, -, rfl⟩ := List.mem_map.1 ho
 exact (offTo_asc hv k _ (Nat.le_refl _)).1

/-- What is left of offers that were sorted and made one each. -/
theorem least_sorted {O z : List (List ByteArray)} (hz : z.Pairwise fun a b => befL a b = true) (hm : ∀ o, o ∈ z ↔ o ∈ O) : leastIs O (z.filter fun o => !(z.any fun p => decide (p.length < o.length) && decide ((lackL p o).length = 0))) := by
 refine ⟨List.Pairwise.sublist List.filter_sublist hz, fun o => ?_⟩
 rw [List.mem_filter, hm]
 refine and_congr_right fun _ => ?_
 rw [Bool.not_eq_true', List.any_eq_false]
 constructor
 ·intro h p hp ⟨h1, h2⟩
  refine h p ((hm p).2 hp) ?_
  rw [decide_eq_true h1, decide_eq_true (lack_nil.2 h2)]
  rfl
 ·intro h p hp hc
  rw [Bool.and_eq_true, decide_eq_true_eq, decide_eq_true_eq] at hc
  exact h p ((hm p).1 hp) ⟨hc.1, lack_nil.1 hc.2⟩

end Go.Proofs.YtodojigmhlkpeaaGreatDoor

namespace Go.Proofs.YtodojigmhlkpeaaGreatDoor
open Go Go.RowKit

theorem heldStrs_is (lo : Nat) (v : Value) (xs : List ByteArray) (k : Int) (w : World) (h1 : 0 ≤ k) (h2 : k + (xs.length : Int) ≤ 1000000000) (hv : OwnStrs lo w v (mrkS k xs.length)) :
  Calls Tryz.prog 29 #[v, .int .i64 k] w fun e w' => e = .returned (.int .i64 (k + (xs.length : Int))) ∧ Below w.heap.size w w' :=
 heldStringS_is v lo xs.length k w h1 h2 hv.at


end Go.Proofs.YtodojigmhlkpeaaGreatDoor

namespace Go.Proofs.YtodojigmhlkpeaaGreatDoor
open Go Go.RowKit

def renumS (k : Int) : List (List ByteArray) → List (List ByteArray)
 | [] => []
 | xs :: r => mrkS k xs.length :: renumS (k + xs.length) r
theorem renumS_len (k : Int) (xss : List (List ByteArray)) : (renumS k xss).length = xss.length := by
 induction xss generalizing k with
 | nil => rfl
 | cons x r ih => simp [renumS, ih]
theorem renumS_append (k : Int) (a b : List (List ByteArray)) : renumS k (a ++ b) = renumS k a ++ renumS (k + totalS a) b := by
 induction a generalizing k with
 | nil => simp [renumS, totalS]
 | cons x r ih => simp [renumS, totalS, ih]; congr 1; omega
theorem renumS_get (k : Int) (xss : List (List ByteArray)) (j : Nat) (h : j < xss.length) (h' : j < (renumS k xss).length) : (renumS k xss)[j] = mrkS (k + totalS (xss.take j)) xss[j].length := by
 induction xss generalizing k j with
 | nil => simp at h
 | cons x r ih =>
  cases j with
  | zero => simp [renumS, totalS]
  | succ j =>
   simp only [renumS, List.getElem_cons_succ, List.take_succ_cons, totalS]
   rw [ih (k + x.length) j (by simpa using h) (by simpa [renumS] using h')]
   congr 1
   omega
set_option maxHeartbeats 400000 in
theorem eqStringSS_same (va vb : Value) (lo lo' : Nat) (xss : List (List ByteArray)) (w : World) (hva : StrssAt lo w va xss) (hvb : StrssAt lo' w vb xss) :
  Calls Tryz.prog 25 #[va, vb] w fun e w' => e = .returned (.bool true) ∧ Below w.heap.size w w' := by
 obtain ⟨us, hu, ⟨a, ca, rfl, hna, hca, ha⟩, hus⟩ := hva
 obtain ⟨vs, hv, ⟨b, cb, rfl, hnb, hcb, hb⟩, hvs⟩ := hvb
 have HU := Lib.hid hus
 have HV := Lib.hid hvs
 have HL := Lib.hid hu
 have HM := Lib.hid hv
 have hl : us.length = vs.length := by omega
 rw [← hl] at hnb ⊢
 have HN := Lib.hid hl
 clear hu hv hus hvs hl
 go_enter Tryz.func25, Tryz.ntmps25
 go_wp2
 go_loopw [5] (fun i wr => ∃ k : Nat, k ≤ us.length ∧ i = .int .i64 k ∧ Below w.heap.size w wr) (fun i _ => us.length - (intOf i).toNat)
 case atStart => exact ⟨0, Nat.zero_le _, rfl, Below.refl _ _⟩
 case round =>
  obtain ⟨k, hk, rfl, hbl⟩ := hrel
  by_cases hlt : k < us.length
  ·have hlv : k < vs.length := by have := HN.out; omega
   have hlx : k < xss.length := by have := HL.out; omega
   obtain ⟨b1, o1, rfl, -, h1, c1⟩ := (ha.below hbl).one hlt
   obtain ⟨b2, o2, rfl, -, h2, c2⟩ := (hb.below hbl).one hlv
   have s1 := (HU.out k hlt hlx).below hbl
   have s2 := (HV.out k hlv hlx).below hbl
   generalize us[k] = p1 at *
   generalize vs[k] = p2 at *
   generalize xss[k] = ys at *
   have S1 := Lib.hid s1
   have S2 := Lib.hid s2
   obtain ⟨_, _, rfl, -⟩ := s1
   obtain ⟨_, _, rfl, -⟩ := s2
   simp only [encV, List.getElem?_cons_zero] at c1 c2
   replace c1 := later_cell h1 c1
   replace c2 := later_cell h2 c2
   clear ha hb
   go_wp2
   refine wp_region_later (by kernel_rfl) (by kernel_rfl) ?_
   repeat (go_big_quiet_step ((go_at_call 23; exact later_call (eqStringS_same _ _ _ _ _ _ (SliceK.below S1.out (Later.h _)) (SliceK.below S2.out (Later.h _))))))
   refine wpQuiet_nil ?_
   intro _ hw9
   obtain ⟨nl, hw8⟩ := hw9
   subst hw8
   go_wp2
   go_roundw
   case rel => exact ⟨k + 1, by omega, by go_num, hbl.trans (nl.h.mono hbl.size)⟩
   case measure => simp [intOf]; omega
  ·clear ha hb
   go_wp2
   go_ret
   exact ⟨rfl, hbl⟩

set_option maxHeartbeats 400000 in
theorem heldStrss_is (lo : Nat) (v : Value) (vs : List Value) (xss : List (List ByteArray)) (k : Int) (w : World) (h1 : 0 ≤ k) (h2 : k + (totalS xss : Int) ≤ 1000000000) (hv : OwnStrss lo w v vs (renumS k xss)) :
  Calls Tryz.prog 31 #[v, .int .i64 k] w fun e w' => e = .returned (.int .i64 (k + (totalS xss : Int))) ∧ Below w.heap.size w w' := by
 have HV := Lib.hid hv
 have hl := hv.len
 rw [renumS_len] at hl
 have hsl : SliceK 1 encV lo w v vs := SliceK.of_owns encV_len rfl (by rw [flat_encV]; exact hv.out)
 obtain ⟨a, cap, rfl, hn, hcap, hr⟩ := hsl
 have HR := Lib.hid hr
 have HL := Lib.hid hl
 clear hv hl hr
 go_enter Tryz.func31, Tryz.ntmps31
 go_wp2
 go_loopw [1, 5] (fun q i wr => ∃ j : Nat, j ≤ vs.length ∧ q = .int .i64 (k + totalS (xss.take j)) ∧ i = .int .i64 j ∧ Below w.heap.size w wr) (fun _ i _ => vs.length - (intOf i).toNat)
 case atStart => exact ⟨0, Nat.zero_le _, by simp [totalS], rfl, Below.refl _ _⟩
 case round =>
  obtain ⟨j, hj, rfl, rfl, hb⟩ := hrel
  have HB := Lib.hid hb
  by_cases hlt : j < vs.length
  ·have hx : j < xss.length := by rw [← HL.out]; exact hlt
   obtain ⟨b, off, rfl, -, -, c1⟩ := (HR.out.below hb).one hlt
   have s1 := ((HV.out.at).choose_spec.2.2)
   have s1 : wr.ownsRow lo 9 1 vs[j] ((renumS k xss)[j]'(by rw [renumS_len]; exact hx)).length (txts ((renumS k xss)[j]'(by rw [renumS_len]; exact hx))) := (HV.out.below hb).rowAt j hlt (by rw [renumS_len]; exact hx)
   rw [renumS_get _ _ _ hx] at s1
   have ht := totalS_take xss j hx
   have htl := totalS_take_le xss (j + 1)
   simp only [encV, List.getElem?_cons_zero] at c1
   generalize vs[j] = p at *
   have S1 : Hid (OwnStrs lo wr p (mrkS (k + totalS (xss.take j)) xss[j].length)) := s1
   obtain ⟨_, _, rfl, -⟩ := owns_slice s1
   have HT := Lib.hid ht
   have hle : k + totalS (xss.take j) + (xss[j].length : Int) ≤ 1000000000 := by omega
   clear ht htl s1 hb
   go_wp2_with fail
   refine (heldStrs_is lo _ xss[j] _ _ (by omega) hle S1.out).mono ?_
   rintro e w1 ⟨rfl, hb1⟩
   have HB1 := Lib.hid (HB.out.trans (hb1.mono HB.out.size))
   clear hb1
   go_wp2_with fail
   go_roundw
   case rel => exact ⟨j + 1, by omega, by rw [HT.out]; go_num, by go_num, HB1.out⟩
   case measure => simp [intOf]; omega
  ·clear hb
   go_wp2
   go_ret
   obtain rfl : j = vs.length := by omega
   exact ⟨ret_int (by rw [HL.out]; simp), HB.out⟩

end Go.Proofs.YtodojigmhlkpeaaGreatDoor

namespace Go.Proofs.YtodojigmhlkpeaaGreatDoor
open Go Go.RowKit

/-- Some rows of a pile, each once. -/
theorem Pile.pick {ei lo : Nat} {w : World} {vs : List Value} {css : List (List Value)} (h : Pile ei lo w vs css) (ls : List Nat) (hn : ls.Nodup) (hl : ∀ i ∈ ls, i < vs.length) (z : Value) : Pile ei lo w (ls.map fun i => vs.getD i z) (ls.map fun i => css.getD i []) := by
 have hg : ∀ i (h : i < vs.length), vs.getD i z = vs[i] := fun i h => by rw [List.getD_eq_getElem?_getD, List.getElem?_eq_getElem h]; rfl
 have hc : ∀ i (h : i < css.length), css.getD i [] = css[i] := fun i h => by rw [List.getD_eq_getElem?_getD, List.getElem?_eq_getElem h]; rfl
 have hlen := h.len
 refine ⟨by simp, fun i hi hi' => ?_, fun i j hi hj hij => ?_⟩
 ·rw [List.length_map] at hi
  have hb := hl ls[i] (List.getElem_mem _)
  simp only [List.getElem_map]
  rw [hg _ hb, hc _ (by omega)]
  exact h.row _ hb (by omega)
 ·rw [List.length_map] at hi hj
  simp only [List.getElem_map]
  have hb := hl ls[i] (List.getElem_mem _)
  have hb2 := hl ls[j] (List.getElem_mem _)
  rw [hg _ hb, hg _ hb2]
  refine h.far _ _ hb hb2 fun e => hij ?_
  have hp := List.pairwise_iff_getElem.1 (List.nodup_iff_pairwise_ne.1 hn)
  rcases Nat.lt_trichotomy i j with h1 | h1 | h1
  ·exact absurd e (hp i j hi hj h1)
  ·exact h1
  ·exact absurd e.symm (hp j i hj hi h1)
/-- A section of a pile. -/
theorem Pile.sec {ei lo : Nat} {w : World} {vs : List Value} {css : List (List Value)} (h : Pile ei lo w vs css) (s n : Nat) : Pile ei lo w ((vs.drop s).take n) ((css.drop s).take n) := by
 have hl := h.len
 refine ⟨by simp [hl], fun i hi hi' => ?_, fun i j hi hj hij => ?_⟩
 ·simp only [List.length_take, List.length_drop] at hi hi'
  simp only [List.getElem_take, List.getElem_drop]
  exact h.row _ (by omega) (by omega)
 ·simp only [List.length_take, List.length_drop] at hi hj
  simp only [List.getElem_take, List.getElem_drop]
  exact h.far _ _ (by omega) (by omega) (by omega)
/-- A pile behind a pile. -/
theorem Pile.app {ei lo B : Nat} {w0 w : World} {vs us : List Value} {css dss : List (List Value)} (h : Pile ei lo w0 vs css) (hB : w0.heap.size ≤ B) (hb : Below w0.heap.size w0 w) (k : Pile ei B w us dss) (hlo : lo ≤ B) : Pile ei lo w (vs ++ us) (css ++ dss) := by
 have hk := h.below hb
 have hl := h.len
 have kl := k.len
 have hold : ∀ (i : Nat) (h : i < vs.length) b, vs[i].ownBlock = some b → b < w0.heap.size := fun i hi b e => (h.old hi e).2
 have hnew : ∀ (i : Nat) (h : i < us.length) b, us[i].ownBlock = some b → B ≤ b := fun i hi b e => (k.old hi e).1
 refine ⟨by simp [hl, kl], fun i hi hi' => ?_, fun i j hi hj hij => ?_⟩
 ·rw [List.length_append] at hi hi'
  by_cases hlt : i < vs.length
  ·rw [List.getElem_append_left hlt]
   simp only [List.getElem_append_left (show i < css.length by omega)]
   exact hk.row i hlt (by omega)
  ·rw [List.getElem_append_right (by omega)]
   simp only [List.getElem_append_right (show css.length ≤ i by omega)]
   have := own_lower (k.row (i - vs.length) (by omega) (by omega)) hlo
   simpa only [hl] using this
 ·rw [List.length_append] at hi hj
  by_cases h1 : i < vs.length <;> by_cases h2 : j < vs.length
  ·rw [List.getElem_append_left h1, List.getElem_append_left h2]
   exact h.far i j h1 h2 hij
  ·rw [List.getElem_append_left h1, List.getElem_append_right (by omega)]
   cases hb1 : vs[i].ownBlock with
   | none => exact .inl rfl
   | some b => exact .inr fun e => by have := hold i h1 b hb1; have := hnew _ _ b e.symm; omega
  ·rw [List.getElem_append_right (by omega), List.getElem_append_left h2]
   cases hb1 : (us[i - vs.length]'(by omega)).ownBlock with
   | none => exact .inl rfl
   | some b => exact .inr fun e => by have := hold j h2 b e.symm; have := hnew _ _ b hb1; omega
  ·rw [List.getElem_append_right (by omega), List.getElem_append_right (by omega)]
   exact k.far _ _ (by omega) (by omega) (by omega)

/-- A slice of slices of slices of texts. -/
def StrsssAt (lo : Nat) (w : World) (v : Value) (x : List (List (List ByteArray))) : Prop :=
 ∃ vs : List Value, vs.length = x.length ∧ SliceK 1 encV lo w v vs ∧ ∀ i (h : i < vs.length) (h' : i < x.length), StrssAt lo w vs[i] x[i]
/-- .. of the call's own. -/
structure OwnStrsss (lo : Nat) (w : World) (v : Value) (vs : List Value) (vss : List (List Value)) (x : List (List (List ByteArray))) : Prop where
 out : w.ownsRow lo 46 1 v vs.length vs
 mid : Pile 22 lo w vs vss
 rows : Pile 9 lo w vss.flatten (x.flatten.map txts)
 shape : vss.map List.length = x.map List.length
theorem OwnStrsss.len {lo : Nat} {w : World} {v : Value} {vs : List Value} {vss : List (List Value)} {x : List (List (List ByteArray))} (h : OwnStrsss lo w v vs vss x) : vs.length = x.length ∧ vss.length = x.length := by
 have h1 := congrArg List.length h.shape
 simp only [List.length_map] at h1
 exact ⟨h.mid.len.trans h1, h1⟩
theorem OwnStrsss.none (lo : Nat) (w : World) : OwnStrsss lo w (.slice none 0 0) [] [] [] := ⟨World.ownsRow_nil _ _ _ _, Pile.nil _ _ _, Pile.nil _ _ _, rfl⟩
theorem OwnStrsss.below {lo : Nat} {w w' : World} {v : Value} {vs : List Value} {vss : List (List Value)} {x : List (List (List ByteArray))} (h : OwnStrsss lo w v vs vss x) (hb : Below w.heap.size w w') : OwnStrsss lo w' v vs vss x := ⟨owns_below h.out hb, h.mid.below hb, h.rows.below hb, h.shape⟩
theorem OwnStrsss.lower {lo lo' : Nat} {w : World} {v : Value} {vs : List Value} {vss : List (List Value)} {x : List (List (List ByteArray))} (h : OwnStrsss lo w v vs vss x) (hl : lo' ≤ lo) : OwnStrsss lo' w v vs vss x := ⟨own_lower h.out hl, h.mid.lower hl, h.rows.lower hl, h.shape⟩
theorem OwnStrsss.turns {base lo hi : Nat} {w w' : World} {v : Value} {vs : List Value} {vss : List (List Value)} {x : List (List (List ByteArray))} (h : OwnStrsss base w v vs vss x) (ht : Turns lo hi w w') (hb : hi ≤ base) : OwnStrsss base w' v vs vss x :=
 ⟨owns_turns h.out ht (fun b e => .inr (Nat.le_trans hb (h.out.lt b e).1)), h.mid.turns ht hb, h.rows.turns ht hb, h.shape⟩
theorem take_flat {α : Type} : ∀ (l : List (List α)) (i : Nat) (h : i < l.length), (l.flatten.drop (l.take i).flatten.length).take l[i].length = l[i]
 | [], i, h => by simp at h
 | a :: l, 0, _ => by simp
 | a :: l, i + 1, h => by
  have := take_flat l i (by simpa using h)
  simp only [List.take_succ_cons, List.flatten_cons, List.length_append, List.getElem_cons_succ]
  rw [← List.drop_drop, List.drop_left]
  exact this
theorem flat_lens {α β : Type} : ∀ (a : List (List α)) (b : List (List β)), a.map List.length = b.map List.length → a.flatten.length = b.flatten.length
 | [], [], _ => rfl
 | [], _ :: _, h => by simp at h
 | _ :: _, [], h => by simp at h
 | x :: a, y :: b, h => by
  simp only [List.map_cons, List.cons.injEq] at h
  rw [List.flatten_cons, List.flatten_cons, List.length_append, List.length_append, flat_lens a b h.2, h.1]
theorem OwnStrsss.take_len {lo : Nat} {w : World} {v : Value} {vs : List Value} {vss : List (List Value)} {x : List (List (List ByteArray))} (h : OwnStrsss lo w v vs vss x) (i : Nat) : (vss.take i).flatten.length = (x.take i).flatten.length :=
 flat_lens _ _ (by rw [List.map_take, List.map_take, h.shape])
theorem OwnStrsss.row_len {lo : Nat} {w : World} {v : Value} {vs : List Value} {vss : List (List Value)} {x : List (List (List ByteArray))} (h : OwnStrsss lo w v vs vss x) (i : Nat) (hi : i < vss.length) (hx : i < x.length) : vss[i].length = x[i].length := by
 have h1 : (vss.map List.length)[i]? = (x.map List.length)[i]? := by rw [h.shape]
 rw [List.getElem?_map, List.getElem?_map, List.getElem?_eq_getElem hi, List.getElem?_eq_getElem hx] at h1
 simpa using h1
/-- One of its lists. -/
theorem OwnStrsss.one {lo : Nat} {w : World} {v : Value} {vs : List Value} {vss : List (List Value)} {x : List (List (List ByteArray))} (h : OwnStrsss lo w v vs vss x) (i : Nat) (hi : i < vs.length) (hv : i < vss.length) (hx : i < x.length) : OwnStrss lo w vs[i] vss[i] x[i] := by
 refine ⟨h.mid.row i hi hv, ?_⟩
 have h1 := h.rows.sec (vss.take i).flatten.length vss[i].length
 rw [take_flat vss i hv, h.take_len, h.row_len i hv hx, ← List.map_drop, ← List.map_take, take_flat x i hx] at h1
 exact h1
theorem OwnStrsss.at {lo : Nat} {w : World} {v : Value} {vs : List Value} {vss : List (List Value)} {x : List (List (List ByteArray))} (h : OwnStrsss lo w v vs vss x) : StrsssAt lo w v x :=
 ⟨vs, h.len.1, SliceK.of_owns encV_len rfl (by rw [flat_encV]; exact h.out), fun i hi hx => (h.one i hi (by rw [h.len.2]; exact hx) hx).at⟩
/-- One list more. -/
theorem ownStrsss_push {lo B : Nat} {w0 w w' : World} {v v' rv : Value} {vs us : List Value} {vss : List (List Value)} {x : List (List (List ByteArray))} {ys : List (List ByteArray)} (h : OwnStrsss lo w0 v vs vss x) (hB : w0.heap.size ≤ B) (hb : Below w0.heap.size w0 w) (hr : OwnStrss B w rv us ys) (hlo : lo ≤ B)
  (hg : w.grownBy w' v.ownBlock) (ho : w'.ownsRow lo 46 1 v' (vs.length + 1) (vs ++ [rv])) : OwnStrsss lo w' v' (vs ++ [rv]) (vss ++ [us]) (x ++ [ys]) := by
 have h1 := h.mid.push hB hb hr.out hlo
 have h2 := h.rows.app hB hb hr.rows hlo
 have hv := owns_below h.out hb
 refine ⟨by rw [List.length_append, List.length_singleton]; exact ho, h1.other (by decide) hv hg, ?_, ?_⟩
 ·have h3 := h2.other (by decide) hv hg
  rw [List.flatten_append, List.flatten_append, List.map_append]
  simpa using h3
 ·rw [List.map_append, List.map_append, h.shape, List.map_singleton, List.map_singleton, hr.len]

/-- Rows of texts far from these are as they were. -/
def KeptS (us : List Value) (w w' : World) : Prop := ∀ (lo n : Nat) (v : Value) (xs : List Value), w.ownsRow lo 9 1 v n xs → (∀ u ∈ us, v.ownBlock = none ∨ v.ownBlock ≠ u.ownBlock) → w'.ownsRow lo 9 1 v n xs
theorem KeptS.refl (us : List Value) (w : World) : KeptS us w w := fun _ _ _ _ h _ => h
theorem KeptS.trans {us : List Value} {a b c : World} (h : KeptS us a b) (k : KeptS us b c) : KeptS us a c := fun lo n v xs hv hf => k lo n v xs (h lo n v xs hv hf) hf
theorem KeptS.grown {us : List Value} {w w' : World} {u : Value} (hu : u ∈ us) (hg : w.grownBy w' u.ownBlock) : KeptS us w w' := fun _ _ _ _ hv hf => hv.kept hg (hf u hu)
theorem KeptS.below {us : List Value} {w w' : World} (hb : Below w.heap.size w w') : KeptS us w w' := fun _ _ _ _ hv _ => owns_below hv hb
theorem KeptS.pile {us vs : List Value} {w w' : World} (h : KeptS us w w') {lo : Nat} {css : List (List Value)} (hp : Pile 9 lo w vs css) (hf : ∀ v ∈ vs, ∀ u ∈ us, v.ownBlock = none ∨ v.ownBlock ≠ u.ownBlock) : Pile 9 lo w' vs css :=
 ⟨hp.len, fun i hi hi' => h _ _ _ _ (hp.row i hi hi') (hf _ (List.getElem_mem _)), hp.far⟩
/-- A row of texts and rows of texts, no two in one block. -/
def FarT (lv : Value) (us : List (List Value)) : Prop := ∀ u ∈ us.flatten, ∀ g, lv.ownBlock = some g → u.ownBlock ≠ some g
theorem FarT.one {lv : Value} {us : List (List Value)} (h : FarT lv us) : ∀ u ∈ us.flatten, lv.ownBlock = none ∨ lv.ownBlock ≠ u.ownBlock := fun u hu => by
 cases hl : lv.ownBlock with
 | none => exact .inl rfl
 | some g => exact .inr fun e => h u hu g hl e.symm
theorem FarT.other {lv : Value} {us : List (List Value)} (h : FarT lv us) : ∀ v ∈ us.flatten, ∀ u ∈ [lv], v.ownBlock = none ∨ v.ownBlock ≠ u.ownBlock := fun v hv u hu => by
 rw [List.mem_singleton] at hu
 subst hu
 cases hl : v.ownBlock with
 | none => exact .inl rfl
 | some g => exact .inr fun e => h v hv g e.symm hl
theorem FarT.none (lv : Value) : FarT lv [] := fun u hu => by cases hu
theorem FarT.later {lo m n : Nat} {w w' : World} {lv : Value} {xs : List Value} {us : List (List Value)} {css : List (List Value)} (h : w.ownsRow lo 9 1 lv n xs) (hp : Pile 9 m w' us.flatten css) (hm : w.heap.size ≤ m) : FarT lv us := fun u hu g hg hg2 => by
 obtain ⟨i, hi, rfl⟩ := List.mem_iff_getElem.1 hu
 have h1 := (h.lt g hg).2
 have h2 := (hp.old hi hg2).1
 omega

end Go.Proofs.YtodojigmhlkpeaaGreatDoor
