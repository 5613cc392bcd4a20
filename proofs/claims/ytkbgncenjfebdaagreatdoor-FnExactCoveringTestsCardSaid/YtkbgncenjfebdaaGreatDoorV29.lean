/-
  Lists of lists of texts: compared where they are the same, marked, held.
  What the joining walks of the exact laws share: copies of systems, boxes, which blocks a mark can turn.
-/
import Derived.Test.YtkbgncenjfebdaaGreatDoorV28
import Derived.Test.YtkbgncenjfebdaaGreatDoorV19
namespace Go.Proofs.YtkbgncenjfebdaaGreatDoor
open Go Go.RowKit

def renumS (k : Int) : List (List ByteArray) → List (List ByteArray)
 | [] => []
 | xs :: r => mrkS k xs.length :: renumS (k + xs.length) r
theorem renumS_len (k : Int) (xss : List (List ByteArray)) : (renumS k xss).length = xss.length := by
 induction xss generalizing k with
 | nil => rfl
 | cons x r ih => simp [renumS, ih]
theorem renumS_append (k : Int) (a b : List (List ByteArray)) : renumS k (a ++ b) = renumS k a ++ renumS (k + totalS a) b := by
 induction a generalizing k with
 | nil => simp [renumS, totalS]
 | cons x r ih => simp [renumS, totalS, ih]; congr 1; omega
theorem renumS_get (k : Int) (xss : List (List ByteArray)) (j : Nat) (h : j < xss.length) (h' : j < (renumS k xss).length) : (renumS k xss)[j] = mrkS (k + totalS (xss.take j)) xss[j].length := by
 induction xss generalizing k j with
 | nil => simp at h
 | cons x r ih =>
  cases j with
  | zero => simp [renumS, totalS]
  | succ j =>
   simp only [renumS, List.getElem_cons_succ, List.take_succ_cons, totalS]
   rw [ih (k + x.length) j (by simpa using h) (by simpa [renumS] using h')]
   congr 1
   omega
theorem renumS_step (k : Int) (xss : List (List ByteArray)) (j : Nat) (h : j < xss.length) :
  (renumS k (xss.take j) ++ xss.drop j).set j (mrkS (k + totalS (xss.take j)) xss[j].length) = renumS k (xss.take (j + 1)) ++ xss.drop (j + 1) := by
 rw [List.set_append_right _ _ (by rw [renumS_len]; simp; omega), renumS_len, List.drop_eq_getElem_cons h, List.take_succ_eq_append_getElem h, renumS_append]
 simp only [List.length_take, Nat.min_eq_left (Nat.le_of_lt h), Nat.sub_self, List.set_cons_zero, renumS, List.append_assoc, List.cons_append, List.nil_append]

set_option maxHeartbeats 400000 in
theorem eqStringSS_same (va vb : Value) (lo lo' : Nat) (xss : List (List ByteArray)) (w : World) (hva : StrssAt lo w va xss) (hvb : StrssAt lo' w vb xss) :
  Calls Tryz.prog 25 #[va, vb] w fun e w' => e = .returned (.bool true) ∧ Below w.heap.size w w' := by
 obtain ⟨us, hu, ⟨a, ca, rfl, hna, hca, ha⟩, hus⟩ := hva
 obtain ⟨vs, hv, ⟨b, cb, rfl, hnb, hcb, hb⟩, hvs⟩ := hvb
 have HU := Lib.hid hus
 have HV := Lib.hid hvs
 have HL := Lib.hid hu
 have HM := Lib.hid hv
 have hl : us.length = vs.length := by omega
 rw [← hl] at hnb ⊢
 have HN := Lib.hid hl
 clear hu hv hus hvs hl
 go_enter Tryz.func25, Tryz.ntmps25
 go_wp2
 go_loopw [5] (fun i wr => ∃ k : Nat, k ≤ us.length ∧ i = .int .i64 k ∧ Below w.heap.size w wr) (fun i _ => us.length - (intOf i).toNat)
 case atStart => exact ⟨0, Nat.zero_le _, rfl, Below.refl _ _⟩
 case round =>
  obtain ⟨k, hk, rfl, hbl⟩ := hrel
  by_cases hlt : k < us.length
  ·have hlv : k < vs.length := by have := HN.out; omega
   have hlx : k < xss.length := by have := HL.out; omega
   obtain ⟨b1, o1, rfl, -, h1, c1⟩ := (ha.below hbl).one hlt
   obtain ⟨b2, o2, rfl, -, h2, c2⟩ := (hb.below hbl).one hlv
   have s1 := (HU.out k hlt hlx).below hbl
   have s2 := (HV.out k hlv hlx).below hbl
   generalize us[k] = p1 at *
   generalize vs[k] = p2 at *
   generalize xss[k] = ys at *
   have S1 := Lib.hid s1
   have S2 := Lib.hid s2
   obtain ⟨_, _, rfl, -⟩ := s1
   obtain ⟨_, _, rfl, -⟩ := s2
   simp only [encV, List.getElem?_cons_zero] at c1 c2
   replace c1 := later_cell h1 c1
   replace c2 := later_cell h2 c2
   clear ha hb
   go_wp2
   refine wp_region_later (by kernel_rfl) (by kernel_rfl) ?_
   repeat (go_big_quiet_step ((go_at_call 17; exact later_call (eqStringS_same _ _ _ _ _ _ (SliceK.below S1.out (Later.h _)) (SliceK.below S2.out (Later.h _))))))
   refine wpQuiet_nil ?_
   intro _ hw9
   obtain ⟨nl, hw8⟩ := hw9
   subst hw8
   go_wp2
   go_roundw
   case rel => exact ⟨k + 1, by omega, by go_num, hbl.trans (nl.h.mono hbl.size)⟩
   case measure => simp [intOf]; omega
  ·clear ha hb
   go_wp2
   go_ret
   exact ⟨rfl, hbl⟩

set_option maxHeartbeats 400000 in
theorem heldStrss_is (lo : Nat) (v : Value) (vs : List Value) (xss : List (List ByteArray)) (k : Int) (w : World) (h1 : 0 ≤ k) (h2 : k + (totalS xss : Int) ≤ 1000000000) (hv : OwnStrss lo w v vs (renumS k xss)) :
  Calls Tryz.prog 27 #[v, .int .i64 k] w fun e w' => e = .returned (.int .i64 (k + (totalS xss : Int))) ∧ Below w.heap.size w w' := by
 have HV := Lib.hid hv
 have hl := hv.len
 rw [renumS_len] at hl
 have hsl : SliceK 1 encV lo w v vs := SliceK.of_owns encV_len rfl (by rw [flat_encV]; exact hv.out)
 obtain ⟨a, cap, rfl, hn, hcap, hr⟩ := hsl
 have HR := Lib.hid hr
 have HL := Lib.hid hl
 clear hv hl hr
 go_enter Tryz.func27, Tryz.ntmps27
 go_wp2
 go_loopw [1, 5] (fun q i wr => ∃ j : Nat, j ≤ vs.length ∧ q = .int .i64 (k + totalS (xss.take j)) ∧ i = .int .i64 j ∧ Below w.heap.size w wr) (fun _ i _ => vs.length - (intOf i).toNat)
 case atStart => exact ⟨0, Nat.zero_le _, by simp [totalS], rfl, Below.refl _ _⟩
 case round =>
  obtain ⟨j, hj, rfl, rfl, hb⟩ := hrel
  have HB := Lib.hid hb
  by_cases hlt : j < vs.length
  ·have hx : j < xss.length := by rw [← HL.out]; exact hlt
   obtain ⟨b, off, rfl, -, -, c1⟩ := (HR.out.below hb).one hlt
   have s1 := ((HV.out.at).choose_spec.2.2)
   have s1 : wr.ownsRow lo 9 1 vs[j] ((renumS k xss)[j]'(by rw [renumS_len]; exact hx)).length (txts ((renumS k xss)[j]'(by rw [renumS_len]; exact hx))) := (HV.out.below hb).rowAt j hlt (by rw [renumS_len]; exact hx)
   rw [renumS_get _ _ _ hx] at s1
   have ht := totalS_take xss j hx
   have htl := totalS_take_le xss (j + 1)
   simp only [encV, List.getElem?_cons_zero] at c1
   generalize vs[j] = p at *
   have S1 : Hid (OwnStrs lo wr p (mrkS (k + totalS (xss.take j)) xss[j].length)) := s1
   obtain ⟨_, _, rfl, -⟩ := owns_slice s1
   have HT := Lib.hid ht
   have hle : k + totalS (xss.take j) + (xss[j].length : Int) ≤ 1000000000 := by omega
   clear ht htl s1 hb
   go_wp2_with fail
   refine (heldStrs_is lo _ xss[j] _ _ (by omega) hle S1.out).mono ?_
   rintro e w1 ⟨rfl, hb1⟩
   have HB1 := Lib.hid (HB.out.trans (hb1.mono HB.out.size))
   clear hb1
   go_wp2_with fail
   go_roundw
   case rel => exact ⟨j + 1, by omega, by rw [HT.out]; go_num, by go_num, HB1.out⟩
   case measure => simp [intOf]; omega
  ·clear hb
   go_wp2
   go_ret
   obtain rfl : j = vs.length := by omega
   exact ⟨ret_int (by rw [HL.out]; simp), HB.out⟩

set_option maxHeartbeats 400000 in
theorem markStrss_is (lo : Nat) (v : Value) (vs : List Value) (xss : List (List ByteArray)) (k : Int) (w : World) (h1 : 0 ≤ k) (h2 : k + (totalS xss : Int) ≤ 1000000000) (hlo : lo ≤ w.heap.size) (hv : OwnStrss lo w v vs xss) :
  Calls Tryz.prog 26 #[v, .int .i64 k] w fun e w' => e = .returned (.int .i64 (k + (totalS xss : Int))) ∧ Below lo w w' ∧ OwnStrss lo w' v vs (renumS k xss) ∧ Only [9] w w' := by
 have HV := Lib.hid hv
 have hl := hv.len
 rcases hv.out.2 with ⟨rfl, h0⟩ | ⟨g, cap, cur, rfl, -, -, hnc, hcm, -⟩
 ·have hx : xss = [] := List.eq_nil_of_length_eq_zero (by rw [← hl]; exact h0)
  subst hx
  clear hv
  go_enter Tryz.func26, Tryz.ntmps26
  go_wp2
  go_loop [1, 5] (fun q i => q = .int .i64 k ∧ i = .int .i64 0) (fun _ _ => 0)
  case atStart => exact ⟨rfl, rfl⟩
  case round =>
   obtain ⟨rfl, rfl⟩ := hrel
   go_wp2
   go_ret
   exact ⟨ret_int (by simp [totalS]), Below.refl _ _, HV.out, Only.refl _ _⟩
 ·have HL := Lib.hid hl
  have hmx : vs.length ≤ 9223372036854775807 := by simp only [maxLen] at hcm; omega
  clear hv hcm hnc hl
  go_enter Tryz.func26, Tryz.ntmps26
  go_wp2
  go_loopw [1, 5] (fun q i wr => ∃ j : Nat, j ≤ vs.length ∧ q = .int .i64 (k + totalS (xss.take j)) ∧ i = .int .i64 j ∧ Below lo w wr ∧ OwnStrss lo wr (.slice (some ⟨g, 0, none⟩) vs.length cap) vs (renumS k (xss.take j) ++ xss.drop j) ∧ Only [9] w wr) (fun _ i _ => vs.length - (intOf i).toNat)
  case atStart => exact ⟨0, Nat.zero_le _, by simp [totalS], rfl, Below.refl _ _, by simpa [renumS] using HV.out, Only.refl _ _⟩
  case round =>
   obtain ⟨j, hj, rfl, rfl, hb, ho, hon⟩ := hrel
   have HON := Lib.hid hon
   have HB := Lib.hid hb
   have HO := Lib.hid ho
   have hsz := hb.size
   clear hb HV hon
   by_cases hlt : j < vs.length
   ·have hx : j < xss.length := by rw [← HL.out]; exact hlt
    have c1 := ho.out.cellAt j (by omega)
    rw [List.getElem?_eq_getElem hlt] at c1
    have hzl : j < (renumS k (xss.take j) ++ xss.drop j).length := by simp [renumS_len]; omega
    have hrow := ho.rowAt j hlt hzl
    have hz : (renumS k (xss.take j) ++ xss.drop j)[j] = xss[j] := by
     rw [List.getElem_append_right (by rw [renumS_len]; simp; omega)]
     simp only [renumS_len, List.length_take, Nat.min_eq_left (Nat.le_of_lt hx), Nat.sub_self, List.getElem_drop, Nat.add_zero]
    rw [hz] at hrow
    have ht := totalS_take xss j hx
    have htl := totalS_take_le xss (j + 1)
    have HT := Lib.hid ht
    have hle : k + totalS (xss.take j) + (xss[j].length : Int) ≤ 1000000000 := by omega
    have HR := Lib.hid hrow
    have hp : ∃ p, p = vs[j] := ⟨_, rfl⟩
    obtain ⟨p, hp⟩ := hp
    rw [← hp] at c1
    have HP := Lib.hid hp
    have HM : Hid (OwnStrs lo wr p xss[j]) := by rw [HP.out]; exact HR.out
    have hlo2 : lo ≤ wr.heap.size := by omega
    clear hp hrow ht htl ho hz
    go_wp2_with fail
    refine (markStringS_is lo p (txts xss[j]) _ _ (by omega) (by rw [txts_len]; exact hle) (by rw [txts_len]; exact HM.out)).mono ?_
    rintro e w1 ⟨rfl, hg, hq⟩
    rw [txts_len] at hq ⊢
    have hb2 : Below lo wr w1 := below_grown hg hlo2 (fun b e => (World.ownsRow.lt HM.out b e).1)
    have HO2 : Hid (OwnStrss lo w1 (.slice (some ⟨g, 0, none⟩) vs.length cap) vs (renumS k (xss.take (j + 1)) ++ xss.drop (j + 1))) := by
     refine ⟨HO.out.out.kept hg (own_types HO.out.out HM.out (by decide)), ?_⟩
     have := HO.out.rows.put j hlt (txts (mrkS (k + totalS (xss.take j)) xss[j].length)) (by rw [← HP.out]; exact hg) (by rw [← HP.out, txts_len, mrkS_len]; exact hq)
     rw [← List.map_set, renumS_step _ _ _ hx] at this
     exact this
    have HB2 := Lib.hid hb2
    have HON2 : Hid (Only [9] w w1) := HON.out.step (Only.grown HM.out hg)
    clear hg hq hb2 HO HR HM
    go_wp2_with fail
    go_roundw
    case rel => exact ⟨j + 1, by omega, by rw [HT.out]; go_num, by go_num, HB.out.trans HB2.out, HO2.out, HON2.out⟩
    case measure => simp [intOf]; omega
   ·clear ho
    go_wp2
    go_ret
    obtain rfl : j = vs.length := by omega
    exact ⟨ret_int (by rw [HL.out]; simp), HB.out, by rw [show renumS k xss = renumS k (xss.take vs.length) ++ xss.drop vs.length from by rw [HL.out]; simp]; exact HO.out, HON.out⟩

end Go.Proofs.YtkbgncenjfebdaaGreatDoor

namespace Go.Proofs.YtkbgncenjfebdaaGreatDoor
open Go Go.RowKit

theorem blk4 {w : World} {b : Nat} {c0 c1 c2 c3 : Value} {T : TypeId} (h : Blk w b [c0, c1, c2, c3] T) :
  w.cell? ⟨b, 0, none⟩ = some c0 ∧ w.cell? ⟨b, 1, none⟩ = some c1 ∧ w.cell? ⟨b, 2, none⟩ = some c2 ∧ w.cell? ⟨b, 3, none⟩ = some c3 :=
 ⟨h.cell 0 rfl, h.cell 1 rfl, h.cell 2 rfl, h.cell 3 rfl⟩
theorem boxNew (w : World) (a : Array Value) (T : TypeId) : Below w.heap.size w (w.alloc (.cells a T)) := (Below.refl _ _).alloc (Nat.le_refl _) _

/-- A copy of a system, with both slices in blocks of its own. -/
structure Copy (B : Nat) (t : Lts) (b1 b2 : Nat) (w : World) : Prop where
 h1 : B ≤ b1
 h2 : b1 < b2
 h3 : b2 < w.heap.size
 o1 : w.ownsRow B 9 1 (.slice (some ⟨b1, 0, none⟩) t.labels.length t.labels.length) t.labels.length (t.labels.map .string)
 o2 : w.ownsRow b2 93 3 (.slice (some ⟨b2, 0, none⟩) t.edges.length t.edges.length) t.edges.length (t.edges.flatMap encE)
theorem Copy.below {B : Nat} {t : Lts} {b1 b2 : Nat} {w w' : World} (h : Copy B t b1 b2 w) (hb : Below w.heap.size w w') : Copy B t b1 b2 w' :=
 ⟨h.h1, h.h2, Nat.lt_of_lt_of_le h.h3 hb.size, owns_below h.o1 hb, owns_below h.o2 hb⟩
theorem Copy.labels {B : Nat} {t : Lts} {b1 b2 : Nat} {w : World} (h : Copy B t b1 b2 w) : SliceK 1 encS 0 w (.slice (some ⟨b1, 0, none⟩) t.labels.length t.labels.length) t.labels :=
 SliceK.of_owns (e := 9) encS_len rfl (by rw [flat_encS]; exact own_lower h.o1 (Nat.zero_le _))
theorem Copy.edges {B : Nat} {t : Lts} {b1 b2 : Nat} {w : World} (h : Copy B t b1 b2 w) : SliceK 3 encE 0 w (.slice (some ⟨b2, 0, none⟩) t.edges.length t.edges.length) t.edges :=
 SliceK.of_owns (e := 93) encE_len rfl (own_lower h.o2 (Nat.zero_le _))
theorem Copy.at {B : Nat} {t : Lts} {b1 b2 : Nat} {w : World} (h : Copy B t b1 b2 w) : LtsAt 0 w (.agg #[.int .i64 t.states, .int .i64 t.initial, .slice (some ⟨b1, 0, none⟩) t.labels.length t.labels.length, .slice (some ⟨b2, 0, none⟩) t.edges.length t.edges.length]) t :=
 ⟨_, _, rfl, h.labels, h.edges⟩
theorem Copy.turns {B : Nat} {t : Lts} {b1 b2 lo hi : Nat} {w w' : World} (h : Copy B t b1 b2 w) (ht : Turns lo hi w w') (hB : hi ≤ B) : Copy B t b1 b2 w' :=
 ⟨h.h1, h.h2, Nat.lt_of_lt_of_le h.h3 ht.size, owns_turns h.o1 ht (fun b e => by have := (h.o1.lt b e).1; omega), owns_turns h.o2 ht (fun b e => by have := (h.o2.lt b e).1; have := h.h1; have := h.h2; omega)⟩
def CopyMade (t : Lts) (w : World) (e : Ending) (w' : World) : Prop := ∃ b1 b2, e = .returned (.agg #[.int .i64 t.states, .int .i64 t.initial, .slice (some ⟨b1, 0, none⟩) t.labels.length t.labels.length, .slice (some ⟨b2, 0, none⟩) t.edges.length t.edges.length]) ∧ Below w.heap.size w w' ∧ Copy w.heap.size t b1 b2 w'
theorem copy_any (lo : Nat) (t : Lts) (lv ev : Value) (w : World) (hl : t.labels.length ≤ 1048576) (he : t.edges.length ≤ 1048576) (h1 : SliceK 1 encS lo w lv t.labels) (h2 : SliceK 3 encE lo w ev t.edges) :
  Calls Tryz.prog 12 #[.agg #[.int .i64 t.states, .int .i64 t.initial, lv, ev]] w (CopyMade t w) :=
 (toLts_any (.agg #[.int .i64 t.states, .int .i64 t.initial, lv, ev]) lo t w hl he ⟨lv, ev, rfl, h1, h2⟩).mono fun _ _ ⟨b1, b2, he, hb, h1, h2, h3, h4, h5⟩ => ⟨b1, b2, he, hb, h1, h2, h3, h4, h5⟩

end Go.Proofs.YtkbgncenjfebdaaGreatDoor
