/-
  What the reference says of a number in a list, and of two equal lists.
  The reference's place of a text among texts.
  The labels of two systems together: the reference's list of them, kept in order by insertion, is the set of all labels.
  The search for a word on which two systems differ: plain notions, and the memory of the reference's search.
  A queue whose elements take k cells each: the rest of a row of the call's own, behind what was taken off its front.
  A pile of rows of the call's own, no two in one block; a slice of such rows.
  Lists of texts and lists of such lists of the call's own: how they lie in memory.
-/
import Derived.Test.YtpoleaekcjjedaaGreatDoorF5
import Derived.Test.YtpoleaekcjjedaaGreatDoorF7
import Derived.Test.YtpoleaekcjjedaaGreatDoorF2
import Derived.Test.YtpoleaekcjjedaaGreatDoorF10
import Derived.Maps.AppendAt
import Derived.Test.YtpoleaekcjjedaaGreatDoorF8
import Derived.Test.YtpoleaekcjjedaaGreatDoorF1
import Derived.ArgAppend
import Derived.Deep.AppendLies
namespace Go.Proofs.YtpoleaekcjjedaaGreatDoor
open Go Go.RowKit

set_option maxRecDepth 100000 in
set_option maxHeartbeats 1000000 in
theorem l00Has_any (lo : Nat) (v : Value) (xs : List Int) (n : Int) (w : World) (hv : SliceK 1 encI lo w v xs) : Calls Tryz.prog 196 #[v, .int .i64 n] w fun e w' => e = .returned (.bool (xs.contains n)) ∧ Below w.heap.size w w' := by
 obtain ⟨a, cap, rfl, hn, hcap, hrow⟩ := hv
 go_enter Tryz.func196, Tryz.ntmps196
 go_wp2
 go_loopw [5] (fun i wr => ∃ k : Nat, k ≤ xs.length ∧ i = .int .i64 k ∧ Below w.heap.size w wr ∧ ∀ j (h : j < xs.length), j < k → xs[j] ≠ n) (fun i _ => xs.length - (intOf i).toNat)
 case atStart => exact ⟨0, Nat.zero_le _, rfl, Below.refl _ _, fun _ _ h => by omega⟩
 case round =>
  obtain ⟨k, hk, rfl, hbl, hx⟩ := hrel
  have HX := Lib.hid hx
  have HBL := Lib.hid hbl
  have hsz := hbl.size
  clear hx
  by_cases hlt : k < xs.length
  ·obtain ⟨b, o, rfl, -, hb, c⟩ := (hrow.below hbl).one hlt
   simp only [encI, List.getElem?_cons_zero] at c
   clear hrow hbl
   cases g : (xs[k] == n)
   ·have HG : Hid (xs[k] ≠ n) := by unfold Hid; simpa using g
    go_wp2
    go_roundw
    case rel => exact ⟨k + 1, by omega, by go_num, HBL.out, fun j h h' => by
      by_cases e : j = k
      ·subst e; exact HG.out
      ·exact HX.out j h (by omega)⟩
    case measure => simp [intOf]; omega
   ·have HG : Hid (xs.contains n = true) := by
     unfold Hid
     rw [List.contains_iff_mem]
     exact (eq_of_beq g) ▸ List.getElem_mem hlt
    go_wp2
    go_ret
    exact ⟨ret_bool HG.out.symm, HBL.out⟩
  ·clear hrow hbl
   go_wp2
   go_ret
   refine ⟨ret_bool ?_, HBL.out⟩
   symm
   rw [Bool.eq_false_iff]
   intro h
   rw [List.contains_iff_mem] at h
   obtain ⟨j, hj, e⟩ := List.mem_iff_getElem.1 h
   exact HX.out j hj (by omega) e

set_option maxRecDepth 100000 in
set_option maxHeartbeats 1000000 in
theorem l00Same_any (lo lo2 : Nat) (v v2 : Value) (xs ys : List Int) (w : World) (hv : SliceK 1 encI lo w v xs) (hv2 : SliceK 1 encI lo2 w v2 ys) : Calls Tryz.prog 117 #[v, v2] w fun e w' => e = .returned (.bool (xs == ys)) ∧ Below w.heap.size w w' := by
 obtain ⟨a, cap, rfl, hn, hcap, hrow⟩ := hv
 obtain ⟨a2, cap2, rfl, hn2, hcap2, hrow2⟩ := hv2
 by_cases hl : xs.length = ys.length
 ·have hl1 : ((xs.length : Int) == (ys.length : Int)) = true := by rw [beq_iff_eq]; omega
  have HL := Lib.hid hl
  rw [← hl] at hn2
  have hl2 : (ys.length : Int) = (xs.length : Int) := by omega
  clear hl
  go_enter Tryz.func117, Tryz.ntmps117
  go_wp2
  clear hl1
  go_loopw [5] (fun i wr => ∃ k : Nat, k ≤ xs.length ∧ i = .int .i64 k ∧ Below w.heap.size w wr ∧ ∀ j (h : j < xs.length) (h2 : j < ys.length), j < k → xs[j] = ys[j]) (fun i _ => xs.length - (intOf i).toNat)
  case atStart => exact ⟨0, Nat.zero_le _, rfl, Below.refl _ _, fun _ _ _ h => by omega⟩
  case round =>
   obtain ⟨k, hk, rfl, hbl, hx⟩ := hrel
   have HX := Lib.hid hx
   have HBL := Lib.hid hbl
   have hsz := hbl.size
   clear hx
   by_cases hlt : k < xs.length
   ·have hlt2 : k < ys.length := by have := HL.out; omega
    obtain ⟨b, o, rfl, -, hb, c⟩ := (hrow.below hbl).one hlt
    obtain ⟨b2, o2, rfl, -, hb2, c2⟩ := (hrow2.below hbl).one hlt2
    simp only [encI, List.getElem?_cons_zero] at c c2
    have s1 := later_cell hb c
    have s2 := later_cell hb2 c2
    clear hrow hrow2 hbl c c2
    cases g : (xs[k] == ys[k])
    ·have HG : Hid ((xs == ys) = false) := by
      unfold Hid
      rw [beq_eq_false_iff_ne] at g ⊢
      intro e
      subst e
      exact g rfl
     go_wp2
     refine wp_region_later (by kernel_rfl) (by kernel_rfl) ?_
     repeat (go_big_quiet_step ((fail)))
     refine wpQuiet_nil ?_
     intro _ hw9
     obtain ⟨nl, hw8⟩ := hw9
     subst hw8
     go_wp2
     go_ret
     exact ⟨ret_bool HG.out.symm, HBL.out.trans (nl.h.mono hsz)⟩
    ·have HG : Hid (xs[k] = ys[k]) := eq_of_beq g
     go_wp2
     refine wp_region_later (by kernel_rfl) (by kernel_rfl) ?_
     repeat (go_big_quiet_step ((fail)))
     refine wpQuiet_nil ?_
     intro _ hw9
     obtain ⟨nl, hw8⟩ := hw9
     subst hw8
     go_wp2
     go_roundw
     case rel => exact ⟨k + 1, by omega, by go_num, HBL.out.trans (nl.h.mono hsz), fun j h h2 h' => by
       by_cases e : j = k
       ·subst e; exact HG.out
       ·exact HX.out j h h2 (by omega)⟩
     case measure => simp [intOf]; omega
   ·clear hrow hrow2 hbl
    go_wp2
    go_ret
    refine ⟨ret_bool ?_, HBL.out⟩
    symm
    rw [beq_iff_eq]
    exact List.ext_getElem HL.out (fun j h1 h2 => HX.out j h1 h2 (by omega))
 ·have hl1 : ((xs.length : Int) == (ys.length : Int)) = false := by rw [beq_eq_false_iff_ne]; omega
  have HG : Hid ((xs == ys) = false) := by
   unfold Hid
   rw [beq_eq_false_iff_ne]
   exact fun e => hl (by rw [e])
  clear hl hrow hrow2
  go_enter Tryz.func117, Tryz.ntmps117
  go_wp2
  go_ret
  exact ⟨ret_bool HG.out.symm, Below.refl _ _⟩

end Go.Proofs.YtpoleaekcjjedaaGreatDoor

namespace Go.Proofs.YtpoleaekcjjedaaGreatDoor
open Go Go.RowKit

theorem findIdx_hit {α : Type} {p : α → Bool} {l : List α} {k : Nat} (hk : k < l.length) (h1 : ∀ j (h : j < l.length), j < k → p l[j] = false) (h2 : p l[k] = true) : l.findIdx p = k := by
 rw [List.findIdx_eq hk]
 exact ⟨h2, fun j hj => h1 j (by omega) hj⟩
theorem findIdx_none {α : Type} {p : α → Bool} {l : List α} (h1 : ∀ j (h : j < l.length), p l[j] = false) : l.findIdx p = l.length := by
 rw [List.findIdx_eq_length]
 intro x hx
 obtain ⟨j, hj, rfl⟩ := List.mem_iff_getElem.1 hx
 exact h1 j hj

/-- The first place of a text among texts, or -1. -/
def textAt (ss : List ByteArray) (s : ByteArray) : Int := if ss.findIdx (fun t => t.toList == s.toList) < ss.length then (ss.findIdx (fun t => t.toList == s.toList) : Nat) else -1

set_option maxRecDepth 100000 in
set_option maxHeartbeats 1000000 in
theorem l11Find_any (lo : Nat) (v : Value) (ss : List ByteArray) (s : ByteArray) (w : World) (hv : SliceK 1 encS lo w v ss) : Calls Tryz.prog 133 #[v, .string s] w fun e w' => e = .returned (.int .i64 (textAt ss s)) ∧ Below w.heap.size w w' := by
 obtain ⟨a, cap, rfl, hn, hcap, hrow⟩ := hv
 go_enter Tryz.func133, Tryz.ntmps133
 go_wp2
 go_loopw [5] (fun i wr => ∃ k : Nat, k ≤ ss.length ∧ i = .int .i64 k ∧ Below w.heap.size w wr ∧ ∀ j (h : j < ss.length), j < k → (ss[j].toList == s.toList) = false) (fun i _ => ss.length - (intOf i).toNat)
 case atStart => exact ⟨0, Nat.zero_le _, rfl, Below.refl _ _, fun _ _ h => by omega⟩
 case round =>
  obtain ⟨k, hk, rfl, hbl, hx⟩ := hrel
  have HX := Lib.hid hx
  have HBL := Lib.hid hbl
  have hsz := hbl.size
  clear hx
  by_cases hlt : k < ss.length
  ·obtain ⟨b, o, rfl, -, hb, c⟩ := (hrow.below hbl).one hlt
   simp only [encS, List.getElem?_cons_zero] at c
   clear hrow hbl
   cases g : (ss[k].toList == s.toList)
   ·have HG := Lib.hid g
    go_wp2
    go_roundw
    case rel => exact ⟨k + 1, by omega, by go_num, HBL.out, fun j h h' => by
      by_cases e : j = k
      ·subst e; exact HG.out
      ·exact HX.out j h (by omega)⟩
    case measure => simp [intOf]; omega
   ·have HG : Hid (textAt ss s = (k : Int)) := by
     unfold Hid textAt
     rw [findIdx_hit hlt HX.out g, if_pos hlt]
    go_wp2
    go_ret
    exact ⟨ret_int HG.out.symm, HBL.out⟩
  ·clear hrow hbl
   go_wp2
   go_ret
   refine ⟨ret_int ?_, HBL.out⟩
   unfold textAt
   rw [findIdx_none (fun j h => HX.out j h (by omega)), if_neg (by omega)]

theorem textAt_some {ss : List ByteArray} {s : ByteArray} (h : ¬ textAt ss s < 0) : ∃ n : Nat, textAt ss s = n ∧ ∃ hn : n < ss.length, ss[n].toList = s.toList := by
 unfold textAt at h ⊢
 by_cases hlt : ss.findIdx (fun t => t.toList == s.toList) < ss.length
 ·rw [if_pos hlt]
  refine ⟨_, rfl, hlt, ?_⟩
  have := List.findIdx_getElem (p := fun t : ByteArray => t.toList == s.toList) (xs := ss) (w := hlt)
  exact eq_of_beq this
 ·rw [if_neg hlt] at h
  omega
theorem textAt_neg {ss : List ByteArray} {s : ByteArray} : textAt ss s < 0 ↔ (ss.any fun t => t.toList == s.toList) = false := by
 unfold textAt
 by_cases hlt : ss.findIdx (fun t => t.toList == s.toList) < ss.length
 ·rw [if_pos hlt]
  have h1 := List.findIdx_lt_length.1 hlt
  constructor
  ·intro h; omega
  ·intro h
   rw [List.any_eq_false] at h
   obtain ⟨x, hx, hp⟩ := h1
   exact absurd hp (h x hx)
 ·rw [if_neg hlt]
  refine ⟨fun _ => ?_, fun _ => by omega⟩
  rw [List.any_eq_false]
  intro x hx hp
  exact hlt (List.findIdx_lt_length.2 ⟨x, hx, hp⟩)


end Go.Proofs.YtpoleaekcjjedaaGreatDoor

namespace Go.Proofs.YtpoleaekcjjedaaGreatDoor
open Go Go.RowKit

theorem labSet_is (ls : List ByteArray) : ((labSet ls).map (·.data.toList)).Pairwise (fun a b => lessL a b = true) ∧ ∀ x, x ∈ labSet ls ↔ x ∈ ls := by
 have hs : ((ls.map (·.data.toList)).mergeSort fun x y => !lessL y x).Pairwise fun a b => a = b ∨ lessL a b = true := by
  have h1 := List.pairwise_mergeSort (le := fun x y : List UInt8 => !lessL y x) (fun a b c h1 h2 => by
   simp only [Bool.not_eq_true'] at *
   have := (swo_of_total lessL_irrefl lessL_trans lessL_tri).ntrans c b a h2 h1
   exact this) (fun a b => by
   cases h : lessL b a with
   | false => simp
   | true =>
    cases h2 : lessL a b with
    | false => simp
    | true => have := lessL_trans a b a h2 h; rw [lessL_irrefl] at this; cases this) (ls.map (·.data.toList))
  refine h1.imp fun {a b} h => ?_
  simp only [Bool.not_eq_true'] at h
  cases h2 : lessL a b with
  | true => exact .inr rfl
  | false => exact .inl (lessL_tri a b h2 h)
 obtain ⟨h1, h2⟩ := compact_is (fun a b : List UInt8 => lessL a b = true) lessL_trans _ hs
 have hm : (labSet ls).map (·.data.toList) = Lib.compact ((ls.map (·.data.toList)).mergeSort fun x y => !lessL y x) := by
  unfold labSet
  rw [List.map_map]
  conv => rhs; rw [← List.map_id (Lib.compact ((ls.map (·.data.toList)).mergeSort fun x y => !lessL y x))]
  apply List.map_congr_left
  intro x _
  simp [mkB]
 refine ⟨by rw [hm]; exact h1, fun x => ?_⟩
 have h3 : x ∈ labSet ls ↔ x.data.toList ∈ (labSet ls).map (·.data.toList) := by
  rw [List.mem_map]
  exact ⟨fun h => ⟨x, h, rfl⟩, fun ⟨y, hy, e⟩ => (data_inj e) ▸ hy⟩
 rw [h3, hm, h2, List.mem_mergeSort, List.mem_map]
 exact ⟨fun ⟨y, hy, e⟩ => (data_inj e) ▸ hy, fun h => ⟨x, h, rfl⟩⟩

/-- A list of labels in order, tau first. -/
structure InOrd (L : List ByteArray) : Prop where
 first : L[0]? = some tauT
 asc : (L.map (·.data.toList)).Pairwise fun a b => lessL a b = true
theorem InOrd.set (us : List ByteArray) : InOrd (labSet (tauT :: us)) := by
 obtain ⟨h1, h2⟩ := labSet_is (tauT :: us)
 refine ⟨?_, h1⟩
 have hm := (h2 tauT).2 (by simp)
 obtain ⟨i, hi, he⟩ := List.mem_iff_getElem.1 hm
 rcases Nat.eq_zero_or_pos i with h | h
 ·subst h; rw [List.getElem?_eq_getElem hi, he]
 ·have h3 := h1
  rw [List.pairwise_map, List.pairwise_iff_getElem] at h3
  have h4 := h3 0 i (by omega) hi h
  rw [he, lessL_iff] at h4
  rcases h4.2 with h5 | h5
  ·exact absurd (h5.trans (by rw [← Lib.toList_data, tauT_list])) h4.1
  ·exact absurd (by rw [← Lib.toList_data, tauT_list]) h5.1
theorem InOrd.less {L : List ByteArray} (h : InOrd L) {i j : Nat} (hij : i < j) (hj : j < L.length) : lessL (L[i]'(by omega)).data.toList L[j].data.toList = true := by
 have := h.asc
 rw [List.pairwise_map, List.pairwise_iff_getElem] at this
 exact this i j (by omega) hj hij
theorem InOrd.pos {L : List ByteArray} (h : InOrd L) : 0 < L.length := (List.getElem?_eq_some_iff.1 h.first).1
theorem InOrd.notau {L : List ByteArray} (h : InOrd L) {j : Nat} (h1 : 1 ≤ j) (hj : j < L.length) : L[j].data.toList ≠ tauB := by
 have h2 := h.less (show 0 < j by omega) hj
 obtain ⟨h0, e⟩ := List.getElem?_eq_some_iff.1 h.first
 rw [e, lessL_iff] at h2
 intro e2
 exact h2.1 (by rw [e2, ← Lib.toList_data, tauT_list])
/-- A text that is not there is put to its place. -/
theorem InOrd.put {us L : List ByteArray} {x : ByteArray} {k : Nat} (hL : L = labSet (tauT :: us)) (hx : ∀ y ∈ L, y.toList ≠ x.toList) (h1 : 1 ≤ k) (hk : k ≤ L.length) (hlo : ∀ j (h : j < L.length), 1 ≤ j → j < k → strLess L[j] x = true) (hhi : ∀ h : k < L.length, strLess L[k] x = false) :
  L.take k ++ x :: L.drop k = labSet (tauT :: (us ++ [x])) := by
 have hO : InOrd L := by rw [hL]; exact InOrd.set us
 obtain ⟨-, hm⟩ := labSet_is (tauT :: us)
 rw [← hL] at hm
 have hxt : x.data.toList ≠ tauB := by
  intro e
  have h0 := hO.pos
  obtain ⟨h3, e3⟩ := List.getElem?_eq_some_iff.1 hO.first
  refine hx L[0] (List.getElem_mem _) ?_
  rw [e3, tauT_list, Lib.toList_data, e]
 have hlt : ∀ j (h : j < L.length), j < k → lessL L[j].data.toList x.data.toList = true := by
  intro j hj hjk
  rw [lessL_iff]
  have hne : L[j].data.toList ≠ x.data.toList := fun e => hx L[j] (List.getElem_mem _) (by rw [Lib.toList_data, Lib.toList_data, e])
  refine ⟨hne, ?_⟩
  rcases Nat.eq_zero_or_pos j with h | h
  ·subst h
   obtain ⟨h3, e3⟩ := List.getElem?_eq_some_iff.1 hO.first
   exact .inl (by rw [e3, ← Lib.toList_data, tauT_list])
  ·have h2 := hlo j hj h hjk
   unfold strLess at h2
   rw [less_lt, decide_eq_true_eq, Lib.toList_data, Lib.toList_data] at h2
   exact .inr ⟨hxt, h2⟩
 have hgt : ∀ j (h : j < L.length), k ≤ j → lessL x.data.toList L[j].data.toList = true := by
  have hk0 : ∀ h : k < L.length, lessL x.data.toList L[k].data.toList = true := by
   intro h
   have h2 := hhi h
   have hne : x.data.toList ≠ L[k].data.toList := fun e => hx L[k] (List.getElem_mem _) (by rw [Lib.toList_data, Lib.toList_data, e])
   cases h3 : lessL x.data.toList L[k].data.toList with
   | true => rfl
   | false =>
    exfalso
    have h4 : lessL L[k].data.toList x.data.toList = true := by
     cases h5 : lessL L[k].data.toList x.data.toList with
     | true => rfl
     | false => exact absurd (lessL_tri _ _ h3 h5) hne
    rw [lessL_iff] at h4
    rcases h4.2 with h5 | h5
    ·exact hO.notau h1 h h5
    ·unfold strLess at h2
     rw [less_lt, decide_eq_false_iff_not, Lib.toList_data, Lib.toList_data] at h2
     exact h2 h5.2
  intro j hj hkj
  rcases Nat.eq_or_lt_of_le hkj with e | h
  ·subst e; exact hk0 hj
  ·exact lessL_trans _ _ _ (hk0 (by omega)) (hO.less h hj)
 refine (labSet_eq ?_ fun y => ?_).symm
 ·rw [List.map_append, List.map_cons, List.pairwise_append]
  have ha := hO.asc
  refine ⟨?_, ?_, ?_⟩
  ·rw [List.map_take]; exact ha.sublist (List.take_sublist _ _)
  ·rw [List.pairwise_cons]
   refine ⟨fun y hy => ?_, by rw [List.map_drop]; exact ha.sublist (List.drop_sublist _ _)⟩
   obtain ⟨z, hz, rfl⟩ := List.mem_map.1 hy
   obtain ⟨i, hi, rfl⟩ := List.mem_iff_getElem.1 hz
   rw [List.getElem_drop]
   exact hgt _ _ (by omega)
  ·intro y hy z hz
   obtain ⟨y2, hy2, rfl⟩ := List.mem_map.1 hy
   obtain ⟨i, hi, rfl⟩ := List.mem_iff_getElem.1 hy2
   rw [List.length_take] at hi
   rw [List.getElem_take]
   rcases List.mem_cons.1 hz with rfl | hz
   ·exact hlt _ _ (by omega)
   ·obtain ⟨z2, hz2, rfl⟩ := List.mem_map.1 hz
    obtain ⟨j, hj, rfl⟩ := List.mem_iff_getElem.1 hz2
    rw [List.getElem_drop]
    exact hO.less (by omega) _
 ·have h5 : y ∈ L.take k ++ x :: L.drop k ↔ y ∈ L ∨ y = x := by
   rw [List.mem_append, List.mem_cons]
   conv => rhs; rw [← List.take_append_drop k L, List.mem_append]
   constructor
   ·rintro (h | h | h)
    ·exact .inl (.inl h)
    ·exact .inr h
    ·exact .inl (.inr h)
   ·rintro ((h | h) | h)
    ·exact .inl h
    ·exact .inr (.inr h)
    ·exact .inr (.inl h)
  rw [h5, hm]
  simp only [List.mem_cons, List.mem_append, List.not_mem_nil, or_false]
  constructor
  ·rintro (h | h | h)
   ·exact .inl (.inl h)
   ·exact .inl (.inr h)
   ·exact .inr h
  ·rintro ((h | h) | h)
   ·exact .inl h
   ·exact .inr (.inl h)
   ·exact .inr (.inr h)
theorem InOrd.same {us L : List ByteArray} {x : ByteArray} (hL : L = labSet (tauT :: us)) (hx : x ∈ L) : L = labSet (tauT :: (us ++ [x])) := by
 have hO : InOrd L := by rw [hL]; exact InOrd.set us
 obtain ⟨-, hm⟩ := labSet_is (tauT :: us)
 rw [← hL] at hm
 refine (labSet_eq hO.asc fun y => ?_).symm
 rw [hm]
 have := (hm x).1 hx
 simp only [List.mem_cons, List.mem_append, List.not_mem_nil, or_false] at this ⊢
 constructor
 ·rintro (h | h | h)
  ·exact .inl h
  ·exact .inr h
  ·subst h; exact this
 ·rintro (h | h)
  ·exact .inl h
  ·exact .inr (.inl h)
/-- While the tail is moved up: a junk text at the place k. -/
def shiftAt (L : List ByteArray) (j : ByteArray) (k : Nat) : List ByteArray := L.take k ++ j :: L.drop k
theorem shiftAt_len {L : List ByteArray} (j : ByteArray) (k : Nat) : (shiftAt L j k).length = L.length + 1 := by
 unfold shiftAt
 rw [List.length_append, List.length_cons, ← Nat.add_assoc, ← List.length_append, List.take_append_drop]
theorem shiftAt_end (L : List ByteArray) (j : ByteArray) : L ++ [j] = shiftAt L j L.length := by simp [shiftAt]
theorem shiftAt_get {L : List ByteArray} {j : ByteArray} {k : Nat} (h1 : 1 ≤ k) (hk : k ≤ L.length) : (shiftAt L j k)[k - 1]? = some (L[k - 1]'(by omega)) := by
 unfold shiftAt
 rw [List.getElem?_append_left (by rw [List.length_take]; omega), List.getElem?_take, if_pos (by omega), List.getElem?_eq_getElem (by omega)]
theorem shiftAt_set {L : List ByteArray} {j : ByteArray} {k : Nat} (h1 : 1 ≤ k) (hk : k ≤ L.length) : (shiftAt L j k).set k (L[k - 1]'(by omega)) = shiftAt L (L[k - 1]'(by omega)) (k - 1) := by
 unfold shiftAt
 have hl : (L.take k).length = k := by rw [List.length_take]; omega
 rw [List.set_append_right _ _ (by omega), hl, Nat.sub_self, List.set_cons_zero]
 have h2 : L.take k = L.take (k - 1) ++ [L[k - 1]'(by omega)] := by
  have := List.take_succ_eq_append_getElem (l := L) (i := k - 1) (by omega)
  rw [show k - 1 + 1 = k from by omega] at this
  exact this
 have h3 : L.drop (k - 1) = L[k - 1]'(by omega) :: L.drop k := by
  have := List.drop_eq_getElem_cons (l := L) (i := k - 1) (by omega)
  rw [show k - 1 + 1 = k from by omega] at this
  exact this
 rw [h2, h3, List.append_assoc]
 rfl
theorem shiftAt_put {L : List ByteArray} {j x : ByteArray} {k : Nat} (hk : k ≤ L.length) : (shiftAt L j k).set k x = L.take k ++ x :: L.drop k := by
 unfold shiftAt
 have hl : (L.take k).length = k := by rw [List.length_take]; omega
 rw [List.set_append_right _ _ (by omega), hl, Nat.sub_self, List.set_cons_zero]

theorem info_strJ : (Tryz.prog.info? 9).map (fun i => (i.zero, i.size, i.bytes)) = some (some (.string ⟨#[]⟩), 1, 16) := by kernel_rfl
theorem tau_one : labSet [tauT] = [tauT] := by
 refine labSet_eq (by simp) fun x => Iff.rfl

end Go.Proofs.YtpoleaekcjjedaaGreatDoor

namespace Go.Proofs.YtpoleaekcjjedaaGreatDoor
open Go Go.RowKit

/-- What the reference passes over. -/
def deadP (both : Bool) (p : Int × Int) : Prop := p.2 < 0 ∧ (both = true → p.1 < 0)
theorem deadP_step (both : Bool) (x y : Lts) (L : List ByteArray) (s : Int × Int) (a : Nat) (h : deadP both s) : deadP both (goBoth x y L s a) := by
 refine ⟨?_, fun hb => ?_⟩
 ·show goTo y s.2 _ < 0
  rw [goTo_neg h.1]; decide
 ·show goTo x s.1 _ < 0
  rw [goTo_neg (h.2 hb)]; decide
theorem deadP_not (both : Bool) (s : Int × Int) (h : deadP both s) : ¬ apart both s := by
 rintro (⟨h1, h2⟩ | ⟨h1, h2, h3⟩)
 ·have := h.1; omega
 ·have := h.2 h1; omega
theorem in_both {both : Bool} {p : Int × Int} (h1 : ¬ deadP both p) (h2 : ¬ apart both p) : 0 ≤ p.1 ∧ 0 ≤ p.2 := by
 unfold deadP at h1
 unfold apart at h2
 cases both <;> simp only [Bool.false_eq_true, false_and, or_false, true_and, true_implies, false_implies, and_true] at h1 h2 <;> omega
def difS (x y : Lts) (L : List ByteArray) (u : List Nat) : Int × Int := wAt ((0 : Int), (0 : Int)) (goBoth x y L) u
theorem difS_cons (x y : Lts) (L : List ByteArray) (k : Nat) (u : List Nat) : difS x y L (k :: u) = (goTo x (difS x y L u).1 (labK L k), goTo y (difS x y L u).2 (labK L k)) := rfl
theorem difS_range {x y : Lts} (hx : Valid x) (hy : Valid y) (L : List ByteArray) : ∀ u, ((difS x y L u).1 < x.states ∧ -1 ≤ (difS x y L u).1) ∧ (difS x y L u).2 < y.states ∧ -1 ≤ (difS x y L u).2
 | [] => by have := hx.st0; have := hy.st0; exact ⟨⟨by show (0 : Int) < _; omega, by show (-1 : Int) ≤ 0; decide⟩, by show (0 : Int) < _; omega, by show (-1 : Int) ≤ 0; decide⟩
 | k :: u => by
  rw [difS_cons]
  have h1 := goTo_range hx (difS x y L u).1 (labK L k)
  have h2 := goTo_range hy (difS x y L u).2 (labK L k)
  exact ⟨⟨h1.2, h1.1⟩, h2.2, h2.1⟩
theorem NSt.few {x y : Lts} {L : List ByteArray} {m : Nat} {both : Bool} {N : List (List Nat)} {i k : Nat} (hx : Valid x) (hy : Valid y) (h : NSt ((0 : Int), (0 : Int)) (goBoth x y L) m (deadP both) (apart both) N i k) : N.length ≤ 1600 := by
 have hp : ∀ u ∈ N, (0 ≤ (difS x y L u).1 ∧ (difS x y L u).1 < 40) ∧ 0 ≤ (difS x y L u).2 ∧ (difS x y L u).2 < 40 := fun u hu => by
  have h1 := in_both (h.alive u hu) (h.noF u hu)
  have h2 := difS_range hx hy L u
  have h3 := hx.st1
  have h4 := hy.st1
  exact ⟨⟨h1.1, by omega⟩, h1.2, by omega⟩
 have h1 : (N.map fun u => ((difS x y L u).1 * 40 + (difS x y L u).2).toNat).Nodup := by
  have hn := h.nodup
  rw [List.nodup_iff_pairwise_ne, List.pairwise_map] at hn ⊢
  refine List.Pairwise.imp_of_mem ?_ hn
  intro a b ha hb hne e
  have h1 := hp a ha
  have h2 := hp b hb
  refine hne ?_
  show difS x y L a = difS x y L b
  have e1 : (difS x y L a).1 = (difS x y L b).1 := by omega
  have e2 : (difS x y L a).2 = (difS x y L b).2 := by omega
  exact Prod.ext e1 e2
 have := nodup_lt 1600 _ h1 (fun z hz => by
  obtain ⟨u, hu, rfl⟩ := List.mem_map.1 hz
  have := hp u hu
  omega)
 rwa [List.length_map] at this

/-- How a word leads back: the word ahead of it, its last letter's label. -/
def BackOk (L : List ByteArray) (N : List (List Nat)) (bs : List Int) (ys : List ByteArray) : Prop :=
 bs.length = N.length ∧ ys.length = N.length ∧ ∀ j u, N[j]? = some u → 0 < j → ∃ a v p, u = a :: v ∧ p < j ∧ N[p]? = some v ∧ bs[j]? = some ((p : Nat) : Int) ∧ ys[j]? = some (labK L a)
theorem BackOk.one (L : List ByteArray) : BackOk L [[]] [-1] [⟨#[]⟩] := ⟨rfl, rfl, fun j u h hj => by have := (List.getElem?_eq_some_iff.1 h).1; simp at this; omega⟩
theorem BackOk.push {L : List ByteArray} {N : List (List Nat)} {bs : List Int} {ys : List ByteArray} (h : BackOk L N bs ys) {i k : Nat} {u : List Nat} (hu : N[i]? = some u) : BackOk L (N ++ [k :: u]) (bs ++ [(i : Int)]) (ys ++ [labK L k]) := by
 obtain ⟨h1, h2, h3⟩ := h
 have hi := (List.getElem?_eq_some_iff.1 hu).1
 refine ⟨by simp [h1], by simp [h2], fun j x hx hj => ?_⟩
 by_cases hc : j < N.length
 ·rw [List.getElem?_append_left hc] at hx
  obtain ⟨a, v, p, e1, e2, e3, e4, e5⟩ := h3 j x hx hj
  exact ⟨a, v, p, e1, e2, by rw [List.getElem?_append_left (by omega)]; exact e3, by rw [List.getElem?_append_left (by omega)]; exact e4, by rw [List.getElem?_append_left (by omega)]; exact e5⟩
 ·have hj2 : j = N.length := by
   have := (List.getElem?_eq_some_iff.1 hx).1
   simp at this
   omega
  subst hj2
  rw [List.getElem?_concat_length] at hx
  cases hx
  exact ⟨k, u, i, rfl, hi, by rw [List.getElem?_append_left hi]; exact hu, by rw [← h1, List.getElem?_concat_length], by rw [← h2, List.getElem?_concat_length]⟩

/-- The four slices of the reference's search. -/
structure OwnD (B : Nat) (w : World) (vl vr vb vy : Value) (ls rs bs : List Int) (ys : List ByteArray) : Prop where
 left : w.ownsRow B 2 1 vl ls.length (ls.map (Value.int .i64))
 right : w.ownsRow B 2 1 vr rs.length (rs.map (Value.int .i64))
 before : w.ownsRow B 3 1 vb bs.length (bs.map (Value.int .i64))
 by_ : w.ownsRow B 9 1 vy ys.length (ys.map .string)
 far : vl.ownBlock = none ∨ vl.ownBlock ≠ vr.ownBlock
 far2 : vr.ownBlock = none ∨ vr.ownBlock ≠ vl.ownBlock
theorem OwnD.below {B : Nat} {w w' : World} {vl vr vb vy : Value} {ls rs bs : List Int} {ys : List ByteArray} (h : OwnD B w vl vr vb vy ls rs bs ys) (hb : Below w.heap.size w w') : OwnD B w' vl vr vb vy ls rs bs ys :=
 ⟨owns_below h.left hb, owns_below h.right hb, owns_below h.before hb, owns_below h.by_ hb, h.far, h.far2⟩
theorem OwnD.pushL {B : Nat} {w w1 : World} {o : Obj} {vl vl' vr vb vy : Value} {ls rs bs : List Int} {ys : List ByteArray} {x : Int} (h : OwnD B w vl vr vb vy ls rs bs ys) (hg : (w.alloc o).grownBy w1 vl.ownBlock)
  (ho : w1.ownsRow B 2 1 vl' (ls.length + 1) (ls.map (Value.int .i64) ++ [.int .i64 x])) (ha : vl'.ownBlock = vl.ownBlock ∨ vl'.ownBlock = some (w.alloc o).heap.size) : OwnD B w1 vl' vr vb vy (ls ++ [x]) rs bs ys := by
 have hA := h.below (w' := w.alloc o) ((Below.refl _ _).alloc (Nat.le_refl _) _)
 have hr : ∀ b, vr.ownBlock = some b → b ≠ (w.alloc o).heap.size := fun b e => by have := (hA.right.lt b e).2; omega
 have k1 : vr.ownBlock = none ∨ vr.ownBlock ≠ vl'.ownBlock := by
  cases hv : vr.ownBlock with
  | none => exact .inl rfl
  | some b =>
   refine .inr fun e => ?_
   rcases ha with ha | ha
   ·rcases h.far2 with h0 | h0
    ·rw [hv] at h0; cases h0
    ·exact h0 (by rw [hv, e, ha])
   ·rw [ha] at e; cases e; exact hr _ hv rfl
 have k2 : vl'.ownBlock = none ∨ vl'.ownBlock ≠ vr.ownBlock := by
  rcases k1 with k | k
  ·cases hv : vl'.ownBlock with
   | none => exact .inl rfl
   | some b => exact .inr (by rw [k]; simp)
  ·exact .inr fun e => k e.symm
 exact ⟨by simpa using ho, hA.right.kept hg hA.far2, hA.before.kept hg (own_types hA.before hA.left (by decide)), hA.by_.kept hg (own_types hA.by_ hA.left (by decide)), k2, k1⟩
theorem OwnD.swap {B : Nat} {w : World} {vl vr vb vy : Value} {ls rs bs : List Int} {ys : List ByteArray} (h : OwnD B w vl vr vb vy ls rs bs ys) : OwnD B w vr vl vb vy rs ls bs ys := ⟨h.right, h.left, h.before, h.by_, h.far2, h.far⟩
theorem OwnD.pushR {B : Nat} {w w1 : World} {o : Obj} {vl vr' vr vb vy : Value} {ls rs bs : List Int} {ys : List ByteArray} {x : Int} (h : OwnD B w vl vr vb vy ls rs bs ys) (hg : (w.alloc o).grownBy w1 vr.ownBlock)
  (ho : w1.ownsRow B 2 1 vr' (rs.length + 1) (rs.map (Value.int .i64) ++ [.int .i64 x])) (ha : vr'.ownBlock = vr.ownBlock ∨ vr'.ownBlock = some (w.alloc o).heap.size) : OwnD B w1 vl vr' vb vy ls (rs ++ [x]) bs ys :=
 (h.swap.pushL hg ho ha).swap
theorem OwnD.pushB {B : Nat} {w w1 : World} {o : Obj} {vl vr vb vb' vy : Value} {ls rs bs : List Int} {ys : List ByteArray} {x : Int} (h : OwnD B w vl vr vb vy ls rs bs ys) (hg : (w.alloc o).grownBy w1 vb.ownBlock)
  (ho : w1.ownsRow B 3 1 vb' (bs.length + 1) (bs.map (Value.int .i64) ++ [.int .i64 x])) : OwnD B w1 vl vr vb' vy ls rs (bs ++ [x]) ys := by
 have hA := h.below (w' := w.alloc o) ((Below.refl _ _).alloc (Nat.le_refl _) _)
 exact ⟨hA.left.kept hg (own_types hA.left hA.before (by decide)), hA.right.kept hg (own_types hA.right hA.before (by decide)), by simpa using ho, hA.by_.kept hg (own_types hA.by_ hA.before (by decide)), h.far, h.far2⟩
theorem OwnD.pushY {B : Nat} {w w1 : World} {o : Obj} {vl vr vb vy vy' : Value} {ls rs bs : List Int} {ys : List ByteArray} {x : ByteArray} (h : OwnD B w vl vr vb vy ls rs bs ys) (hg : (w.alloc o).grownBy w1 vy.ownBlock)
  (ho : w1.ownsRow B 9 1 vy' (ys.length + 1) (ys.map .string ++ [.string x])) : OwnD B w1 vl vr vb vy' ls rs bs (ys ++ [x]) := by
 have hA := h.below (w' := w.alloc o) ((Below.refl _ _).alloc (Nat.le_refl _) _)
 exact ⟨hA.left.kept hg (own_types hA.left hA.by_ (by decide)), hA.right.kept hg (own_types hA.right hA.by_ (by decide)), hA.before.kept hg (own_types hA.before hA.by_ (by decide)), by simpa using ho, h.far, h.far2⟩

end Go.Proofs.YtpoleaekcjjedaaGreatDoor

namespace Go.Proofs.YtpoleaekcjjedaaGreatDoor
open Go Go.RowKit

def TailK (w : World) (base : Nat) (e : TypeId) (k : Nat) (v : Value) (n : Nat) (xs : List Value) : Prop :=
 xs.length = n * k ∧ ((v = .slice none 0 0 ∧ n = 0) ∨
 ∃ g o cap cur, v = .slice (some ⟨g, o, none⟩) n cap ∧ base ≤ g ∧ w.heap[g]? = some (.cells cur e (0, 0)) ∧ n ≤ cap ∧ cap ≤ maxLen ∧ o + cap * k ≤ cur.size ∧ ∀ j (h : j < xs.length), cur[o + j]? = some xs[j])
theorem TailK.of_owns {w : World} {base : Nat} {e : TypeId} {k n : Nat} {v : Value} {xs : List Value} (h : w.ownsRow base e k v n xs) : TailK w base e k v n xs := by
 refine ⟨h.1, ?_⟩
 rcases h.2 with h1 | ⟨g, cap, cur, h1, h2, h3, h4, h5, h6, h7⟩
 ·exact .inl h1
 ·refine .inr ⟨g, 0, cap, cur, h1, h2, h3, h4, h5, by omega, fun j hj => ?_⟩
  have h8 : (cur.toList.take (n * k))[j]? = xs[j]? := by rw [h7]
  rw [List.getElem?_take, if_pos (by rw [← h.1]; exact hj), List.getElem?_eq_getElem hj] at h8
  rw [Nat.zero_add]
  simpa using h8
theorem TailK.kept {w w' : World} {base : Nat} {e : TypeId} {k n : Nat} {v : Value} {xs : List Value} {row : Option Nat} (h : TailK w base e k v n xs) (hg : w.grownBy w' row) (hne : v.ownBlock = none ∨ v.ownBlock ≠ row) : TailK w' base e k v n xs := by
 refine ⟨h.1, ?_⟩
 rcases h.2 with h | ⟨g, o, cap, cur, rfl, h2, h3, rest⟩
 ·exact .inl h
 ·refine .inr ⟨g, o, cap, cur, rfl, h2, ?_, rest⟩
  rw [hg.block g (Array.getElem?_eq_some_iff.1 h3).1 (by simpa [Value.ownBlock] using hne)]
  exact h3
theorem TailK.below {w w' : World} {base : Nat} {e : TypeId} {k n : Nat} {v : Value} {xs : List Value} (h : TailK w base e k v n xs) (hb : Below w.heap.size w w') : TailK w' base e k v n xs := by
 refine ⟨h.1, ?_⟩
 rcases h.2 with h | ⟨g, o, cap, cur, rfl, h2, h3, rest⟩
 ·exact .inl h
 ·exact .inr ⟨g, o, cap, cur, rfl, h2, (hb.block g (Array.getElem?_eq_some_iff.1 h3).1).trans h3, rest⟩
theorem TailK.lt {w : World} {base : Nat} {e : TypeId} {k n : Nat} {v : Value} {xs : List Value} (h : TailK w base e k v n xs) : ∀ b, v.ownBlock = some b → base ≤ b ∧ b < w.heap.size := by
 intro b hb
 rcases h.2 with ⟨rfl, _⟩ | ⟨g, o, cap, cur, rfl, h2, h3, _⟩
 ·simp [Value.ownBlock] at hb
 ·simp [Value.ownBlock] at hb
  subst hb
  exact ⟨h2, (Array.getElem?_eq_some_iff.1 h3).1⟩
/-- The first element's cells, and the slice's form. -/
theorem TailK.head {w : World} {base : Nat} {e : TypeId} {k n : Nat} {v : Value} {xs : List Value} (h : TailK w base e k v (n + 1) xs) :
  ∃ g o cap, v = .slice (some ⟨g, o, none⟩) (n + 1) cap ∧ base ≤ g ∧ g < w.heap.size ∧ n + 1 ≤ cap ∧ cap ≤ maxLen ∧ ∀ j, j < xs.length → w.cell? ⟨g, o + j, none⟩ = xs[j]? := by
 rcases h.2 with ⟨_, h⟩ | ⟨g, o, cap, cur, rfl, h2, h3, h4, h5, h6, h7⟩
 ·omega
 ·refine ⟨g, o, cap, rfl, h2, (Array.getElem?_eq_some_iff.1 h3).1, h4, h5, fun j hj => ?_⟩
  rw [cell_of_row w g (o + j) cur e (0, 0) h3, h7 j hj, List.getElem?_eq_getElem hj]
/-- Popped. -/
theorem TailK.pop {w : World} {base : Nat} {e : TypeId} {g o k n cap : Nat} {xs : List Value} (h : TailK w base e k (.slice (some ⟨g, o, none⟩) (n + 1) cap) (n + 1) xs) :
  TailK w base e k (.slice (some ⟨g, o + k, none⟩) n (cap - 1)) n (xs.drop k) := by
 have hl := h.1
 refine ⟨by rw [List.length_drop, hl, Nat.add_mul, Nat.one_mul, Nat.add_sub_cancel], ?_⟩
 rcases h.2 with ⟨_, h⟩ | ⟨g', o', cap', cur, h1, h2, h3, h4, h5, h6, h7⟩
 ·omega
 ·simp only [Value.slice.injEq, Option.some.injEq, Addr.mk.injEq, and_true, true_and] at h1
  obtain ⟨⟨rfl, rfl⟩, rfl⟩ := h1
  have h8 : k + (cap - 1) * k = cap * k := by
   obtain ⟨c, rfl⟩ : ∃ c, cap = c + 1 := ⟨cap - 1, by omega⟩
   rw [Nat.add_sub_cancel, Nat.add_mul, Nat.one_mul, Nat.add_comm]
  refine .inr ⟨g, o + k, cap - 1, cur, rfl, h2, h3, by omega, by omega, by omega, fun j hj => ?_⟩
  rw [List.length_drop] at hj
  have := h7 (k + j) (by omega)
  rw [List.getElem_drop, show o + k + j = o + (k + j) from by omega]
  exact this
/-- Popped empty: the slice's address may have stayed. -/
theorem TailK.empty {w : World} {base : Nat} {e : TypeId} {g o k cap : Nat} {xs : List Value} (h : TailK w base e k (.slice (some ⟨g, o, none⟩) 0 cap) 0 xs) (o' : Nat) (ho : o' ≤ o) : TailK w base e k (.slice (some ⟨g, o', none⟩) 0 0) 0 [] := by
 refine ⟨by simp, ?_⟩
 rcases h.2 with ⟨h, _⟩ | ⟨g', o2, cap', cur, h1, h2, h3, h4, h5, h6, h7⟩
 ·simp at h
 ·simp only [Value.slice.injEq, Option.some.injEq, Addr.mk.injEq, and_true, true_and] at h1
  obtain ⟨⟨rfl, rfl⟩, rfl⟩ := h1
  exact .inr ⟨g, o', 0, cur, rfl, h2, h3, by omega, by simp [maxLen], by omega, fun j hj => by simp at hj⟩

theorem setCells_row {e : TypeId} (b : Nat) : ∀ (vs : List Value) (o : Nat) (w : World) (cur : Array Value), w.heap[b]? = some (.cells cur e (0, 0)) → o + vs.length ≤ cur.size →
  ∃ cur', (w.setCells b o vs).heap[b]? = some (.cells cur' e (0, 0)) ∧ cur'.size = cur.size ∧ (∀ j, j < o → cur'[j]? = cur[j]?) ∧ (∀ j (h : j < vs.length), cur'[o + j]? = some vs[j]) ∧ w.grownBy (w.setCells b o vs) (some b)
 | [], o, w, cur, h, hs => ⟨cur, h, rfl, fun _ _ => rfl, fun j hj => by simp at hj, grown_refl w _⟩
 | v :: vs, o, w, cur, h, hs => by
  have h1 := heap_setCell_same w b o cur e v h
  obtain ⟨cur', k1, k2, k3, k4, k5⟩ := setCells_row b vs (o + 1) (w.setCell ⟨b, o, none⟩ v) (cur.setIfInBounds o v) h1 (by rw [List.length_cons] at hs; rw [Array.size_setIfInBounds]; omega)
  rw [List.length_cons] at hs
  refine ⟨cur', k1, by rw [k2, Array.size_setIfInBounds], fun j hj => ?_, fun j hj => ?_, grown_trans (grown_setCell w ⟨b, o, none⟩ v) k5⟩
  ·rw [k3 j (by omega), Array.getElem?_setIfInBounds_ne (by omega)]
  ·cases j with
   | zero =>
    rw [Nat.add_zero, k3 o (by omega), Array.getElem?_setIfInBounds_self_of_lt (by omega)]
    rfl
   | succ j =>
    have := k4 j (by simpa using hj)
    rw [show o + (j + 1) = o + 1 + j from by omega]
    simpa using this

theorem run_append_tail {P : Program} (w : World) (t ty : TypeId) (base : Nat) (e : TypeId) (i : TypeInfo) (z : Value) (size bytes : Nat) (h1 : P.underlying t = some (.slice e)) (h2 : P.info? e = some i) (h3 : i.zero = some z)
  (h4 : i.size = size) (h5 : i.bytes = bytes) (h6 : z.cells.size = size) (h7 : 0 < size)
  (v : Value) (n : Nat) (xs : List Value) (hown : TailK w base e size v n xs)
  (ad : Addr) (news : List Value) (hl : news.length = size) (hnews : ∀ j u, news[j]? = some u → w.cell? (ad.add j) = some u) (hc1 : ∀ u ∈ news, u.oneCell' = true)
  (b1 : n + 1 ≤ maxLen) (b2 : (n + 1) * bytes ≤ 140737488355328) (hbase : base ≤ w.heap.size) :
  ∃ g o cap w', (Builtin.append_ #[t, t] ty #[v, .slice (some ad) 1 1]).run P w = .ok (.slice (some ⟨g, o, none⟩) (n + 1) cap) w' ∧ TailK w' base e size (.slice (some ⟨g, o, none⟩) (n + 1) cap) (n + 1) (xs ++ news) ∧ w.grownBy w' v.ownBlock ∧ (v.ownBlock = some g ∨ w.heap.size ≤ g) ∧ g < w'.heap.size := by
 have hl' : news.length = 1 * size := by rw [hl, Nat.one_mul]
 rcases hown.2 with ⟨rfl, rfl⟩ | ⟨g, off, cap, cur, rfl, k2, k3, k4, k5, k6, k7⟩
 ·have hx : xs = [] := List.eq_nil_of_length_eq_zero (by rw [hown.1]; simp)
  subst hx
  obtain ⟨g, cap, w', r1, r2, r3, r4, r5⟩ := run_append_lies (P := P) w t ty base e i z size bytes h1 h2 h3 h4 h5 h6 h7 (.slice none 0 0) 0 [] (World.ownsRow_nil w base e size) ad 1 1 news hl' hnews hc1 (by omega) b1 b2 hbase w.heap.size rfl
  refine ⟨g, 0, cap, w', r1, TailK.of_owns r2, r3, ?_, r5⟩
  rcases r4 with r4 | r4
  ·simp [Value.ownBlock] at r4
  ·exact .inr (Nat.le_of_eq r4.symm)
 ·have hxl := hown.1
  have hcell : ∀ j u, xs[j]? = some u → w.cell? ⟨g, off + j, none⟩ = some u := by
   intro j u hj
   obtain ⟨hlt, rfl⟩ := List.getElem?_eq_some_iff.1 hj
   rw [cell_of_row w g (off + j) cur e (0, 0) k3]
   exact k7 j hlt
  have hg := (Array.getElem?_eq_some_iff.1 k3).1
  by_cases hr : n + 1 ≤ cap
  ·subst h4
   have hfit : off + n * i.size + news.length ≤ cur.size := by
    have h8 : n * i.size + i.size ≤ cap * i.size := by
     have := Nat.mul_le_mul_right i.size hr
     rwa [Nat.add_mul, Nat.one_mul] at this
    omega
   have hrun := run_append_room_cells (P := P) w t ty e i h1 h2 g off n cap ad 1 1 news hl' hnews hc1 hr
    (fun j hj => by rw [cell_of_row w g _ cur e (0, 0) k3, Array.getElem?_eq_getElem (by omega)]; rfl) (fun j hj => by simp [World.frozen?, k3])
   obtain ⟨cur', c1, c2, c3, c4, c5⟩ := setCells_row g news (off + n * i.size) w cur k3 hfit
   refine ⟨g, off, cap, _, hrun, ⟨by rw [List.length_append, hxl, hl, Nat.add_mul, Nat.one_mul], .inr ⟨g, off, cap, cur', rfl, k2, c1, hr, k5, by rw [c2]; exact k6, fun j hj => ?_⟩⟩, by simpa [Value.ownBlock] using c5, .inl rfl, Nat.lt_of_lt_of_le hg c5.size⟩
   rw [List.length_append] at hj
   by_cases e1 : j < xs.length
   ·rw [List.getElem_append_left e1, c3 _ (by omega)]
    exact k7 j e1
   ·rw [List.getElem_append_right (by omega)]
    have := c4 (j - xs.length) (by omega)
    rw [show off + n * i.size + (j - xs.length) = off + j from by omega] at this
    exact this
  ·obtain ⟨v', w', r1, r2, r3⟩ := run_append_arg_grows (P := P) w t ty e i z size bytes h1 h2 h3 h4 h5 h6 h7 ⟨g, off, none⟩ n cap xs hxl (fun j u hj => by rw [Addr.add_lit]; exact hcell j u hj) ad 1 1 news hl' hnews (by omega) b1 b2
   obtain ⟨g', cap', rfl, q1, q2⟩ := r2.form (by omega)
   exact ⟨g', 0, cap', w', r1, TailK.of_owns (own_lower r2 hbase), ⟨r3.os, r3.tape, r3.output, r3.size, fun k hk _ => r3.block k hk (by simp)⟩, .inr q1, q2⟩

/-- At a step of a region that draws. -/
theorem step_append_tail {P : Program} (w : World) {ops : Array Oper} {o : Oper} {a : Act} {K : Act → World → Prop} {Q : Exit → Act → World → Prop} {E : Prop} (hgd : o.guard = none) (s x : Operand) (t : TypeId)
  (ho : o.op = .call { callee := .builtin .append, args := #[s, x], argTypes := #[t, t] })
  (base : Nat) (e : TypeId) (i : TypeInfo) (z : Value) (size bytes : Nat) (ht : P.underlying t = some (.slice e)) (hi : P.info? e = some i) (hz : i.zero = some z)
  (hsize : i.size = size) (hby : i.bytes = bytes) (hzs : z.cells.size = size) (hsz : 0 < size)
  (v : Value) (n : Nat) (xs : List Value) (hs : a.eval s = v) (hown : TailK w base e size v n xs)
  (ad : Addr) (news : List Value) (hx : a.eval x = .slice (some ad) 1 1) (hl : news.length = size) (hnews : ∀ j u, news[j]? = some u → w.cell? (ad.add j) = some u) (h1 : ∀ u ∈ news, u.oneCell' = true)
  (h63 : n + 1 ≤ maxLen) (hbytes : (n + 1) * bytes ≤ 140737488355328) (hbase : base ≤ w.heap.size)
  (h : ∀ g off cap w', TailK w' base e size (.slice (some ⟨g, off, none⟩) (n + 1) cap) (n + 1) (xs ++ news) → w.grownBy w' v.ownBlock → (v.ownBlock = some g ∨ w.heap.size ≤ g) → g < w'.heap.size → K (a.put o.dst (.slice (some ⟨g, off, none⟩) (n + 1) cap)) w') :
  if Region.wanted o (yielded ops a.tmps) = true then Oper.wp P o a w K Q else E := by
 have hw : Region.wanted o (yielded ops a.tmps) = true := by simp [Region.wanted, hgd]
 rw [if_pos hw]
 obtain ⟨g, off, cap, w', hr, h2, h3, h4, h5⟩ := run_append_tail (P := P) w t o.type base e i z size bytes ht hi hz hsize hby hzs hsz v n xs hown ad news hl hnews h1 h63 hbytes hbase
 unfold Oper.wp execOp
 simp only [ho, resolve, invoke, builtin, Sem.run_bind, Sem.run_pure, Result.andThen_ok, List.map_toArray, List.map_cons, List.map_nil, hs, hx, hr]
 exact h g off cap w' h2 h3 h4 h5

end Go.Proofs.YtpoleaekcjjedaaGreatDoor

namespace Go.Proofs.YtpoleaekcjjedaaGreatDoor
open Go Go.RowKit

/-- Rows of the call's own, no two in one block. -/
structure Pile (ei lo : Nat) (w : World) (vs : List Value) (css : List (List Value)) : Prop where
 len : vs.length = css.length
 row : ∀ (i : Nat) (h : i < vs.length) (h' : i < css.length), w.ownsRow lo ei 1 vs[i] css[i].length css[i]
 far : ∀ (i j : Nat) (h : i < vs.length) (h' : j < vs.length), i ≠ j → vs[i].ownBlock = none ∨ vs[i].ownBlock ≠ vs[j].ownBlock
theorem Pile.nil (ei lo : Nat) (w : World) : Pile ei lo w [] [] := ⟨rfl, fun _ h => absurd h (Nat.not_lt_zero _), fun _ _ h => absurd h (Nat.not_lt_zero _)⟩
theorem Pile.below {ei lo : Nat} {w w' : World} {vs : List Value} {css : List (List Value)} (h : Pile ei lo w vs css) (hb : Below w.heap.size w w') : Pile ei lo w' vs css :=
 ⟨h.len, fun i hi hi' => owns_below (h.row i hi hi') hb, h.far⟩
theorem Pile.lower {ei lo lo' : Nat} {w : World} {vs : List Value} {css : List (List Value)} (h : Pile ei lo w vs css) (hl : lo' ≤ lo) : Pile ei lo' w vs css :=
 ⟨h.len, fun i hi hi' => own_lower (h.row i hi hi') hl, h.far⟩
theorem Pile.turns {ei base lo hi : Nat} {w w' : World} {vs : List Value} {css : List (List Value)} (h : Pile ei base w vs css) (ht : Turns lo hi w w') (hb : hi ≤ base) : Pile ei base w' vs css :=
 ⟨h.len, fun i hi hi' => owns_turns (h.row i hi hi') ht (fun b e => .inr (Nat.le_trans hb ((h.row i hi hi').lt b e).1)), h.far⟩
theorem Pile.kept {ei lo : Nat} {w w' : World} {vs : List Value} {css : List (List Value)} {row : Option Nat} (h : Pile ei lo w vs css) (hg : w.grownBy w' row) (hr : ∀ (i : Nat) (h : i < vs.length), vs[i].ownBlock = none ∨ vs[i].ownBlock ≠ row) : Pile ei lo w' vs css :=
 ⟨h.len, fun i hi hi' => (h.row i hi hi').kept hg (hr i hi), h.far⟩
/-- A row of another type was written. -/
theorem Pile.other {ei eo lo lo2 size n : Nat} {w w' : World} {vs : List Value} {css : List (List Value)} {v : Value} {xs : List Value} (h : Pile ei lo w vs css) (he : ei ≠ eo) (ho : w.ownsRow lo2 eo size v n xs) (hg : w.grownBy w' v.ownBlock) : Pile ei lo w' vs css :=
 h.kept hg fun i hi => own_types (h.row i hi (by rw [← h.len]; exact hi)) ho he
theorem own_type_far {w : World} {base e size n b : Nat} {v : Value} {xs : List Value} (ho : w.ownsRow base e size v n xs) {a : Array Value} {t : TypeId} {fr : Nat × Nat} (hb : w.heap[b]? = some (.cells a t fr)) (he : e ≠ t) : v.ownBlock = none ∨ v.ownBlock ≠ some b := by
 rcases ho.2 with ⟨rfl, -⟩ | ⟨g, c, u, rfl, -, hg, -⟩
 ·exact .inl rfl
 ·refine .inr fun e2 => ?_
  simp only [Value.ownBlock, Option.some.injEq] at e2
  subst e2
  rw [hg] at hb
  simp only [Option.some.injEq, Obj.cells.injEq] at hb
  exact he hb.2.1
/-- A cell of a block of another type was written. -/
theorem Pile.set {ei lo : Nat} {w : World} {vs : List Value} {css : List (List Value)} (h : Pile ei lo w vs css) {b : Nat} {cs : List Value} {t : TypeId} (hb : Blk w b cs t) (he : ei ≠ t) (i : Nat) (u : Value) : Pile ei lo (w.setCell ⟨b, i, none⟩ u) vs css :=
 h.kept (grown_setCell w ⟨b, i, none⟩ u) fun j hj => own_type_far (h.row j hj (by rw [← h.len]; exact hj)) hb he
/-- One row is written. -/
theorem Pile.put {ei lo : Nat} {w w' : World} {vs : List Value} {css : List (List Value)} (h : Pile ei lo w vs css) (j : Nat) (hj : j < vs.length) (ys : List Value) (hg : w.grownBy w' vs[j].ownBlock) (ho : w'.ownsRow lo ei 1 vs[j] ys.length ys) : Pile ei lo w' vs (css.set j ys) := by
 refine ⟨by simpa using h.len, fun i hi hi' => ?_, h.far⟩
 by_cases hij : j = i
 ·subst hij
  simpa using ho
 ·rw [List.getElem_set_ne hij]
  exact (h.row i hi (by simpa using hi')).kept hg (h.far i j hi hj (fun e => hij e.symm))
/-- One row more, which lies behind all that was there. -/
theorem Pile.push {ei lo B : Nat} {w0 w : World} {rv : Value} {vs : List Value} {css : List (List Value)} {ys : List Value} (h : Pile ei lo w0 vs css) (hB : w0.heap.size ≤ B) (hb : Below w0.heap.size w0 w) (hr : w.ownsRow B ei 1 rv ys.length ys) (hlo : lo ≤ B) :
  Pile ei lo w (vs ++ [rv]) (css ++ [ys]) := by
 have hk := h.below hb
 have hl := h.len
 refine ⟨by simp [hl], fun i hi hi' => ?_, fun i j hi hj hij => ?_⟩
 ·by_cases hlt : i < vs.length
  ·rw [List.getElem_append_left hlt]
   simp only [List.getElem_append_left (show i < css.length by omega)]
   exact hk.row i hlt (by omega)
  ·have e : i = vs.length := by simp at hi; omega
   subst e
   rw [List.getElem_concat_length rfl]
   have : (css ++ [ys])[vs.length] = ys := by simp [hl]
   rw [this]
   exact own_lower hr hlo
 ·have hold : ∀ (i : Nat) (h : i < vs.length) b, vs[i].ownBlock = some b → b < w0.heap.size := fun i hi b e => ((h.row i hi (by omega)).lt b e).2
  have hnb : ∀ b, rv.ownBlock = some b → B ≤ b := fun b e => (hr.lt b e).1
  by_cases h1' : i < vs.length <;> by_cases h2' : j < vs.length
  ·rw [List.getElem_append_left h1', List.getElem_append_left h2']
   exact h.far i j h1' h2' hij
  ·have e : j = vs.length := by simp at hj; omega
   subst e
   rw [List.getElem_append_left h1', List.getElem_concat_length rfl]
   cases hb1 : vs[i].ownBlock with
   | none => exact .inl rfl
   | some b => exact .inr fun e => by have := hold i h1' b hb1; have := hnb b e.symm; omega
  ·have e : i = vs.length := by simp at hi; omega
   subst e
   rw [List.getElem_append_left h2', List.getElem_concat_length rfl]
   cases hb1 : rv.ownBlock with
   | none => exact .inl rfl
   | some b => exact .inr fun e => by have := hold j h2' b e.symm; have := hnb b hb1; omega
  ·simp at hi hj; omega
theorem Pile.one {ei lo B : Nat} {w : World} {rv : Value} {ys : List Value} (hr : w.ownsRow B ei 1 rv ys.length ys) (hlo : lo ≤ B) : Pile ei lo w [rv] [ys] := by
 refine ⟨rfl, fun i hi hi' => ?_, fun i j hi hj hij => ?_⟩
 ·obtain rfl : i = 0 := by simp at hi; omega
  exact own_lower hr hlo
 ·simp at hi hj; omega
theorem Pile.old {ei lo : Nat} {w : World} {vs : List Value} {css : List (List Value)} (h : Pile ei lo w vs css) {i : Nat} (hi : i < vs.length) {b : Nat} (e : vs[i].ownBlock = some b) : lo ≤ b ∧ b < w.heap.size :=
 (h.row i hi (by rw [← h.len]; exact hi)).lt b e

/-- Blocks of types other than these are as they were. -/
def Only (Ts : List TypeId) (w w' : World) : Prop := ∀ (b : Nat) (a : Array Value) (T : TypeId) (fr : Nat × Nat), w.heap[b]? = some (.cells a T fr) → T ∉ Ts → w'.heap[b]? = some (.cells a T fr)
theorem Only.refl (Ts : List TypeId) (w : World) : Only Ts w w := fun _ _ _ _ h _ => h
theorem Only.trans {Ts Us : List TypeId} {a b c : World} (h : Only Ts a b) (k : Only Us b c) : Only (Ts ++ Us) a c := fun x y T fr hx hT => by
 rw [List.mem_append] at hT
 exact k x y T fr (h x y T fr hx (fun e => hT (.inl e))) (fun e => hT (.inr e))
theorem Only.step {Ts : List TypeId} {a b c : World} (h : Only Ts a b) (k : Only Ts b c) : Only Ts a c := fun x y T fr hx hT => k x y T fr (h x y T fr hx hT) hT
theorem Only.below {w w' : World} (Ts : List TypeId) (hb : Below w.heap.size w w') : Only Ts w w' := fun b _ _ _ h _ => (hb.block b (Array.getElem?_eq_some_iff.1 h).1).trans h
theorem Only.grown {base e size n : Nat} {w w' : World} {v : Value} {xs : List Value} (ho : w.ownsRow base e size v n xs) (hg : w.grownBy w' v.ownBlock) : Only [e] w w' := fun b a T fr h hT => by
 refine (hg.block b (Array.getElem?_eq_some_iff.1 h).1 ?_).trans h
 intro e2
 rcases own_type_far ho h (fun e3 => hT (by rw [e3]; simp)) with h1 | h1
 ·rw [h1] at e2; cases e2
 ·exact h1 e2.symm
theorem Only.own {Ts : List TypeId} {w w' : World} (h : Only Ts w w') {base e size n : Nat} {v : Value} {xs : List Value} (ho : w.ownsRow base e size v n xs) (he : e ∉ Ts) : w'.ownsRow base e size v n xs := by
 refine ⟨ho.1, ?_⟩
 rcases ho.2 with hn | ⟨g, cap, cur, rfl, hb, hgg, rest⟩
 ·exact .inl hn
 ·exact .inr ⟨g, cap, cur, rfl, hb, h g _ _ _ hgg he, rest⟩
theorem Only.blk {Ts : List TypeId} {w w' : World} (h : Only Ts w w') {b : Nat} {cs : List Value} {t : TypeId} (hb : Blk w b cs t) (he : t ∉ Ts) : Blk w' b cs t := h b _ _ _ hb he
theorem Only.mono {Ts Us : List TypeId} {w w' : World} (h : Only Ts w w') (hs : ∀ T ∈ Ts, T ∈ Us) : Only Us w w' := fun b a T fr hb hT => h b a T fr hb (fun e => hT (hs T e))
theorem Only.pile {Ts : List TypeId} {w w' : World} (h : Only Ts w w') {ei lo : Nat} {vs : List Value} {css : List (List Value)} (ho : Pile ei lo w vs css) (he : ei ∉ Ts) : Pile ei lo w' vs css :=
 ⟨ho.len, fun i hi hi' => h.own (ho.row i hi hi') he, ho.far⟩

end Go.Proofs.YtpoleaekcjjedaaGreatDoor

namespace Go.Proofs.YtpoleaekcjjedaaGreatDoor
open Go Go.RowKit

/-- A slice of slices of texts. -/
def StrssAt (lo : Nat) (w : World) (v : Value) (xss : List (List ByteArray)) : Prop :=
 ∃ vs : List Value, vs.length = xss.length ∧ SliceK 1 encV lo w v vs ∧ ∀ i (h : i < vs.length) (h' : i < xss.length), SliceK 1 encS lo w vs[i] xss[i]
theorem StrssAt.below {lo : Nat} {w w' : World} {v : Value} {xss : List (List ByteArray)} (h : StrssAt lo w v xss) (hb : Below w.heap.size w w') : StrssAt lo w' v xss := by
 obtain ⟨vs, h1, h2, h3⟩ := h
 exact ⟨vs, h1, h2.below hb, fun i hi hi' => (h3 i hi hi').below hb⟩
def txts (xs : List ByteArray) : List Value := xs.map Value.string
/-- A slice of slices of texts of the call's own. -/
structure OwnStrss (lo : Nat) (w : World) (v : Value) (vs : List Value) (xss : List (List ByteArray)) : Prop where
 out : w.ownsRow lo 22 1 v vs.length vs
 rows : Pile 9 lo w vs (xss.map txts)
theorem OwnStrss.len {lo : Nat} {w : World} {v : Value} {vs : List Value} {xss : List (List ByteArray)} (h : OwnStrss lo w v vs xss) : vs.length = xss.length := by have := h.rows.len; simpa using this
theorem OwnStrss.none (lo : Nat) (w : World) : OwnStrss lo w (.slice none 0 0) [] [] := ⟨World.ownsRow_nil _ _ _ _, Pile.nil _ _ _⟩
theorem OwnStrss.below {lo : Nat} {w w' : World} {v : Value} {vs : List Value} {xss : List (List ByteArray)} (h : OwnStrss lo w v vs xss) (hb : Below w.heap.size w w') : OwnStrss lo w' v vs xss := ⟨owns_below h.out hb, h.rows.below hb⟩
theorem OwnStrss.lower {lo lo' : Nat} {w : World} {v : Value} {vs : List Value} {xss : List (List ByteArray)} (h : OwnStrss lo w v vs xss) (hl : lo' ≤ lo) : OwnStrss lo' w v vs xss := ⟨own_lower h.out hl, h.rows.lower hl⟩
theorem OwnStrss.turns {base lo hi : Nat} {w w' : World} {v : Value} {vs : List Value} {xss : List (List ByteArray)} (h : OwnStrss base w v vs xss) (ht : Turns lo hi w w') (hb : hi ≤ base) : OwnStrss base w' v vs xss :=
 ⟨owns_turns h.out ht (fun b e => .inr (Nat.le_trans hb (h.out.lt b e).1)), h.rows.turns ht hb⟩
theorem Only.strss {Ts : List TypeId} {w w' : World} (h : Only Ts w w') {lo : Nat} {v : Value} {vs : List Value} {xss : List (List ByteArray)} (ho : OwnStrss lo w v vs xss) (h1 : 22 ∉ Ts) (h2 : 9 ∉ Ts) : OwnStrss lo w' v vs xss :=
 ⟨h.own ho.out h1, h.pile ho.rows h2⟩
theorem OwnStrss.rowAt {lo : Nat} {w : World} {v : Value} {vs : List Value} {xss : List (List ByteArray)} (h : OwnStrss lo w v vs xss) (i : Nat) (hi : i < vs.length) (hi' : i < xss.length) : w.ownsRow lo 9 1 vs[i] xss[i].length (txts xss[i]) := by
 have := h.rows.row i hi (by simpa using hi')
 simpa [txts] using this
theorem OwnStrss.at {lo : Nat} {w : World} {v : Value} {vs : List Value} {xss : List (List ByteArray)} (h : OwnStrss lo w v vs xss) : StrssAt lo w v xss :=
 ⟨vs, h.len, SliceK.of_owns encV_len rfl (by rw [flat_encV]; exact h.out), fun i hi hi' => SliceK.of_owns (e := 9) encS_len rfl (by rw [flat_encS]; exact h.rowAt i hi hi')⟩

/-- A list of texts of the call's own. -/
def OwnStrs (lo : Nat) (w : World) (v : Value) (xs : List ByteArray) : Prop := w.ownsRow lo 9 1 v xs.length (txts xs)
theorem OwnStrs.below {lo : Nat} {w w' : World} {v : Value} {xs : List ByteArray} (h : OwnStrs lo w v xs) (hb : Below w.heap.size w w') : OwnStrs lo w' v xs := owns_below h hb
theorem OwnStrs.lower {lo lo' : Nat} {w : World} {v : Value} {xs : List ByteArray} (h : OwnStrs lo w v xs) (hl : lo' ≤ lo) : OwnStrs lo' w v xs := own_lower h hl
theorem OwnStrs.turns {base lo hi : Nat} {w w' : World} {v : Value} {xs : List ByteArray} (h : OwnStrs base w v xs) (ht : Turns lo hi w w') (hb : hi ≤ base) : OwnStrs base w' v xs := owns_turns h ht (fun b e => .inr (Nat.le_trans hb (World.ownsRow.lt h b e).1))
theorem OwnStrs.at {lo : Nat} {w : World} {v : Value} {xs : List ByteArray} (h : OwnStrs lo w v xs) : SliceK 1 encS lo w v xs := SliceK.of_owns (e := 9) encS_len rfl (by rw [flat_encS]; exact h)
theorem Only.strs {Ts : List TypeId} {w w' : World} (h : Only Ts w w') {lo : Nat} {v : Value} {xs : List ByteArray} (ho : OwnStrs lo w v xs) (h2 : 9 ∉ Ts) : OwnStrs lo w' v xs := h.own ho h2

theorem txts_len (xs : List ByteArray) : (txts xs).length = xs.length := by simp [txts]
def totalS : List (List ByteArray) → Nat
 | [] => 0
 | xs :: r => xs.length + totalS r
theorem totalS_append (a b : List (List ByteArray)) : totalS (a ++ b) = totalS a + totalS b := by
 induction a with
 | nil => simp [totalS]
 | cons x r ih => simp [totalS, ih]; omega
theorem totalS_take (xss : List (List ByteArray)) (j : Nat) (h : j < xss.length) : totalS (xss.take (j + 1)) = totalS (xss.take j) + xss[j].length := by
 rw [List.take_succ_eq_append_getElem h, totalS_append]; simp [totalS]
theorem totalS_take_le (xss : List (List ByteArray)) (j : Nat) : totalS (xss.take j) ≤ totalS xss := by
 conv => rhs; rw [← List.take_append_drop j xss, totalS_append]
 omega
theorem totalS_few {n : Nat} : ∀ {l : List (List ByteArray)}, (∀ r ∈ l, r.length ≤ n) → totalS l ≤ n * l.length
 | [], _ => by simp [totalS]
 | a :: l, h => by
  have h1 := h a (by simp)
  have h2 := totalS_few (l := l) (fun r hr => h r (List.mem_cons_of_mem _ hr))
  simp only [totalS, List.length_cons, Nat.mul_add, Nat.mul_one]
  omega

end Go.Proofs.YtpoleaekcjjedaaGreatDoor
