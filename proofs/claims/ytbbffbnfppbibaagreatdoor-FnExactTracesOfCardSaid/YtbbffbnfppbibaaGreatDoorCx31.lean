/-
  Lists of lists of texts: compared where they are the same, marked, held; lists of texts likewise.
  Traces with their states, how they lie in the program's memory; what both texts return as traces.
  The library's Clone at lists of texts.
  What the implementation's out computes: the edges from a state.
-/
import Derived.Test.YtbbffbnfppbibaaGreatDoorCx25
import Derived.Test.YtbbffbnfppbibaaGreatDoorCx22
import Derived.Test.YtbbffbnfppbibaaGreatDoorCx7
import Derived.Test.YtbbffbnfppbibaaGreatDoorCx5
namespace Go.Proofs.YtbbffbnfppbibaaGreatDoor
open Go Go.RowKit

/-- A slice of slices of texts. -/
def StrssAt (lo : Nat) (w : World) (v : Value) (xss : List (List ByteArray)) : Prop :=
  ∃ vs : List Value, vs.length = xss.length ∧ SliceK 1 encV lo w v vs ∧ ∀ i (h : i < vs.length) (h' : i < xss.length), SliceK 1 encS lo w vs[i] xss[i]
theorem StrssAt.below {lo : Nat} {w w' : World} {v : Value} {xss : List (List ByteArray)} (h : StrssAt lo w v xss) (hb : Below w.heap.size w w') : StrssAt lo w' v xss := by
  obtain ⟨vs, h1, h2, h3⟩ := h
  exact ⟨vs, h1, h2.below hb, fun i hi hi' => (h3 i hi hi').below hb⟩
def txts (xs : List ByteArray) : List Value := xs.map Value.string
/-- A slice of slices of texts of the call's own. -/
structure OwnStrss (lo : Nat) (w : World) (v : Value) (vs : List Value) (xss : List (List ByteArray)) : Prop where
  out : w.ownsRow lo 22 1 v vs.length vs
  rows : Pile 9 lo w vs (xss.map txts)
theorem OwnStrss.len {lo : Nat} {w : World} {v : Value} {vs : List Value} {xss : List (List ByteArray)} (h : OwnStrss lo w v vs xss) : vs.length = xss.length := by have := h.rows.len; simpa using this
theorem OwnStrss.none (lo : Nat) (w : World) : OwnStrss lo w (.slice none 0 0) [] [] := ⟨World.ownsRow_nil _ _ _ _, Pile.nil _ _ _⟩
theorem OwnStrss.below {lo : Nat} {w w' : World} {v : Value} {vs : List Value} {xss : List (List ByteArray)} (h : OwnStrss lo w v vs xss) (hb : Below w.heap.size w w') : OwnStrss lo w' v vs xss := ⟨owns_below h.out hb, h.rows.below hb⟩
theorem OwnStrss.lower {lo lo' : Nat} {w : World} {v : Value} {vs : List Value} {xss : List (List ByteArray)} (h : OwnStrss lo w v vs xss) (hl : lo' ≤ lo) : OwnStrss lo' w v vs xss := ⟨own_lower h.out hl, h.rows.lower hl⟩
theorem OwnStrss.turns {base lo hi : Nat} {w w' : World} {v : Value} {vs : List Value} {xss : List (List ByteArray)} (h : OwnStrss base w v vs xss) (ht : Turns lo hi w w') (hb : hi ≤ base) : OwnStrss base w' v vs xss :=
  ⟨owns_turns h.out ht (fun b e => .inr (Nat.le_trans hb (h.out.lt b e).1)), h.rows.turns ht hb⟩
theorem Only.strss {Ts : List TypeId} {w w' : World} (h : Only Ts w w') {lo : Nat} {v : Value} {vs : List Value} {xss : List (List ByteArray)} (ho : OwnStrss lo w v vs xss) (h1 : 22 ∉ Ts) (h2 : 9 ∉ Ts) : OwnStrss lo w' v vs xss :=
  ⟨h.own ho.out h1, h.pile ho.rows h2⟩
theorem OwnStrss.rowAt {lo : Nat} {w : World} {v : Value} {vs : List Value} {xss : List (List ByteArray)} (h : OwnStrss lo w v vs xss) (i : Nat) (hi : i < vs.length) (hi' : i < xss.length) : w.ownsRow lo 9 1 vs[i] xss[i].length (txts xss[i]) := by
  have := h.rows.row i hi (by simpa using hi')
  simpa [txts] using this
theorem OwnStrss.at {lo : Nat} {w : World} {v : Value} {vs : List Value} {xss : List (List ByteArray)} (h : OwnStrss lo w v vs xss) : StrssAt lo w v xss :=
  ⟨vs, h.len, SliceK.of_owns encV_len rfl (by rw [flat_encV]; exact h.out), fun i hi hi' => SliceK.of_owns (e := 9) encS_len rfl (by rw [flat_encS]; exact h.rowAt i hi hi')⟩

/-- A list of texts of the call's own. -/
def OwnStrs (lo : Nat) (w : World) (v : Value) (xs : List ByteArray) : Prop := w.ownsRow lo 9 1 v xs.length (txts xs)
theorem OwnStrs.below {lo : Nat} {w w' : World} {v : Value} {xs : List ByteArray} (h : OwnStrs lo w v xs) (hb : Below w.heap.size w w') : OwnStrs lo w' v xs := owns_below h hb
theorem OwnStrs.lower {lo lo' : Nat} {w : World} {v : Value} {xs : List ByteArray} (h : OwnStrs lo w v xs) (hl : lo' ≤ lo) : OwnStrs lo' w v xs := own_lower h hl
theorem OwnStrs.turns {base lo hi : Nat} {w w' : World} {v : Value} {xs : List ByteArray} (h : OwnStrs base w v xs) (ht : Turns lo hi w w') (hb : hi ≤ base) : OwnStrs base w' v xs := owns_turns h ht (fun b e => .inr (Nat.le_trans hb (World.ownsRow.lt h b e).1))
theorem OwnStrs.at {lo : Nat} {w : World} {v : Value} {xs : List ByteArray} (h : OwnStrs lo w v xs) : SliceK 1 encS lo w v xs := SliceK.of_owns (e := 9) encS_len rfl (by rw [flat_encS]; exact h)
theorem Only.strs {Ts : List TypeId} {w w' : World} (h : Only Ts w w') {lo : Nat} {v : Value} {xs : List ByteArray} (ho : OwnStrs lo w v xs) (h2 : 9 ∉ Ts) : OwnStrs lo w' v xs := h.own ho h2

theorem txts_len (xs : List ByteArray) : (txts xs).length = xs.length := by simp [txts]
theorem markStrs_is (lo : Nat) (v : Value) (xs : List ByteArray) (k : Int) (w : World) (h1 : 0 ≤ k) (h2 : k + (xs.length : Int) ≤ 1000000000) (hlo : lo ≤ w.heap.size) (hv : OwnStrs lo w v xs) :
    Calls Tryz.prog 29 #[v, .int .i64 k] w fun e w' => e = .returned (.int .i64 (k + (xs.length : Int))) ∧ Below lo w w' ∧ OwnStrs lo w' v (mrkS k xs.length) ∧ Only [9] w w' := by
  have h := markStringS_is lo v (txts xs) k w h1 (by rw [txts_len]; exact h2) (by rw [txts_len]; exact hv)
  rw [txts_len] at h
  refine h.mono ?_
  rintro e w' ⟨rfl, hg, ho⟩
  refine ⟨rfl, below_grown hg hlo (fun b e => (World.ownsRow.lt hv b e).1), ?_, Only.grown hv hg⟩
  unfold OwnStrs
  rw [mrkS_len]
  exact ho
theorem heldStrs_is (lo : Nat) (v : Value) (xs : List ByteArray) (k : Int) (w : World) (h1 : 0 ≤ k) (h2 : k + (xs.length : Int) ≤ 1000000000) (hv : OwnStrs lo w v (mrkS k xs.length)) :
    Calls Tryz.prog 30 #[v, .int .i64 k] w fun e w' => e = .returned (.int .i64 (k + (xs.length : Int))) ∧ Below w.heap.size w w' :=
  heldStringS_is v lo xs.length k w h1 h2 hv.at

def totalS : List (List ByteArray) → Nat
  | [] => 0
  | xs :: r => xs.length + totalS r
def renumS (k : Int) : List (List ByteArray) → List (List ByteArray)
  | [] => []
  | xs :: r => mrkS k xs.length :: renumS (k + xs.length) r
theorem totalS_append (a b : List (List ByteArray)) : totalS (a ++ b) = totalS a + totalS b := by
  induction a with
  | nil => simp [totalS]
  | cons x r ih => simp [totalS, ih]; omega
theorem totalS_take (xss : List (List ByteArray)) (j : Nat) (h : j < xss.length) : totalS (xss.take (j + 1)) = totalS (xss.take j) + xss[j].length := by
  rw [List.take_succ_eq_append_getElem h, totalS_append]; simp [totalS]
theorem totalS_take_le (xss : List (List ByteArray)) (j : Nat) : totalS (xss.take j) ≤ totalS xss := by
  conv => rhs; rw [← List.take_append_drop j xss, totalS_append]
  omega
theorem totalS_few {n : Nat} : ∀ {l : List (List ByteArray)}, (∀ r ∈ l, r.length ≤ n) → totalS l ≤ n * l.length
  | [], _ => by simp [totalS]
  | a :: l, h => by
    have h1 := h a (by simp)
    have h2 := totalS_few (l := l) (fun r hr => h r (List.mem_cons_of_mem _ hr))
    simp only [totalS, List.length_cons, Nat.mul_add, Nat.mul_one]
    omega
theorem renumS_len (k : Int) (xss : List (List ByteArray)) : (renumS k xss).length = xss.length := by
  induction xss generalizing k with
  | nil => rfl
  | cons x r ih => simp [renumS, ih]
theorem renumS_append (k : Int) (a b : List (List ByteArray)) : renumS k (a ++ b) = renumS k a ++ renumS (k + totalS a) b := by
  induction a generalizing k with
  | nil => simp [renumS, totalS]
  | cons x r ih => simp [renumS, totalS, ih]; congr 1; omega
theorem renumS_get (k : Int) (xss : List (List ByteArray)) (j : Nat) (h : j < xss.length) (h' : j < (renumS k xss).length) : (renumS k xss)[j] = mrkS (k + totalS (xss.take j)) xss[j].length := by
  induction xss generalizing k j with
  | nil => simp at h
  | cons x r ih =>
    cases j with
    | zero => simp [renumS, totalS]
    | succ j =>
      simp only [renumS, List.getElem_cons_succ, List.take_succ_cons, totalS]
      rw [ih (k + x.length) j (by simpa using h) (by simpa [renumS] using h')]
      congr 1
      omega
theorem renumS_step (k : Int) (xss : List (List ByteArray)) (j : Nat) (h : j < xss.length) :
    (renumS k (xss.take j) ++ xss.drop j).set j (mrkS (k + totalS (xss.take j)) xss[j].length) = renumS k (xss.take (j + 1)) ++ xss.drop (j + 1) := by
  rw [List.set_append_right _ _ (by rw [renumS_len]; simp; omega), renumS_len, List.drop_eq_getElem_cons h, List.take_succ_eq_append_getElem h, renumS_append]
  simp only [List.length_take, Nat.min_eq_left (Nat.le_of_lt h), Nat.sub_self, List.set_cons_zero, renumS, List.append_assoc, List.cons_append, List.nil_append]

set_option maxHeartbeats 400000 in
theorem eqStringSS_same (va vb : Value) (lo lo' : Nat) (xss : List (List ByteArray)) (w : World) (hva : StrssAt lo w va xss) (hvb : StrssAt lo' w vb xss) :
    Calls Tryz.prog 23 #[va, vb] w fun e w' => e = .returned (.bool true) ∧ Below w.heap.size w w' := by
  obtain ⟨us, hu, ⟨a, ca, rfl, hna, hca, ha⟩, hus⟩ := hva
  obtain ⟨vs, hv, ⟨b, cb, rfl, hnb, hcb, hb⟩, hvs⟩ := hvb
  have HU := Lib.hid hus
  have HV := Lib.hid hvs
  have HL := Lib.hid hu
  have HM := Lib.hid hv
  have hl : us.length = vs.length := by omega
  rw [← hl] at hnb ⊢
  have HN := Lib.hid hl
  clear hu hv hus hvs hl
  go_enter Tryz.func23, Tryz.ntmps23
  go_wp2
  go_loopw [5] (fun i wr => ∃ k : Nat, k ≤ us.length ∧ i = .int .i64 k ∧ Below w.heap.size w wr) (fun i _ => us.length - (intOf i).toNat)
  case atStart => exact ⟨0, Nat.zero_le _, rfl, Below.refl _ _⟩
  case round =>
    obtain ⟨k, hk, rfl, hbl⟩ := hrel
    by_cases hlt : k < us.length
    · have hlv : k < vs.length := by have := HN.out; omega
      have hlx : k < xss.length := by have := HL.out; omega
      obtain ⟨b1, o1, rfl, -, h1, c1⟩ := (ha.below hbl).one hlt
      obtain ⟨b2, o2, rfl, -, h2, c2⟩ := (hb.below hbl).one hlv
      have s1 := (HU.out k hlt hlx).below hbl
      have s2 := (HV.out k hlv hlx).below hbl
      generalize us[k] = p1 at *
      generalize vs[k] = p2 at *
      generalize xss[k] = ys at *
      have S1 := Lib.hid s1
      have S2 := Lib.hid s2
      obtain ⟨_, _, rfl, -⟩ := s1
      obtain ⟨_, _, rfl, -⟩ := s2
      simp only [encV, List.getElem?_cons_zero] at c1 c2
      replace c1 := later_cell h1 c1
      replace c2 := later_cell h2 c2
      clear ha hb
      go_wp2
      refine wp_region_later (by kernel_rfl) (by kernel_rfl) ?_
      repeat (go_big_quiet_step ((go_at_call 28; exact later_call (eqStringS_same _ _ _ _ _ _ (SliceK.below S1.out (Later.h _)) (SliceK.below S2.out (Later.h _))))))
      refine wpQuiet_nil ?_
      intro _ hw9
      obtain ⟨nl, hw8⟩ := hw9
      subst hw8
      go_wp2
      go_roundw
      case rel => exact ⟨k + 1, by omega, by go_num, hbl.trans (nl.h.mono hbl.size)⟩
      case measure => simp [intOf]; omega
    · clear ha hb
      go_wp2
      go_ret
      exact ⟨rfl, hbl⟩

set_option maxHeartbeats 400000 in
theorem heldStrss_is (lo : Nat) (v : Value) (vs : List Value) (xss : List (List ByteArray)) (k : Int) (w : World) (h1 : 0 ≤ k) (h2 : k + (totalS xss : Int) ≤ 1000000000) (hv : OwnStrss lo w v vs (renumS k xss)) :
    Calls Tryz.prog 25 #[v, .int .i64 k] w fun e w' => e = .returned (.int .i64 (k + (totalS xss : Int))) ∧ Below w.heap.size w w' := by
  have HV := Lib.hid hv
  have hl := hv.len
  rw [renumS_len] at hl
  have hsl : SliceK 1 encV lo w v vs := SliceK.of_owns encV_len rfl (by rw [flat_encV]; exact hv.out)
  obtain ⟨a, cap, rfl, hn, hcap, hr⟩ := hsl
  have HR := Lib.hid hr
  have HL := Lib.hid hl
  clear hv hl hr
  go_enter Tryz.func25, Tryz.ntmps25
  go_wp2
  go_loopw [1, 5] (fun q i wr => ∃ j : Nat, j ≤ vs.length ∧ q = .int .i64 (k + totalS (xss.take j)) ∧ i = .int .i64 j ∧ Below w.heap.size w wr) (fun _ i _ => vs.length - (intOf i).toNat)
  case atStart => exact ⟨0, Nat.zero_le _, by simp [totalS], rfl, Below.refl _ _⟩
  case round =>
    obtain ⟨j, hj, rfl, rfl, hb⟩ := hrel
    have HB := Lib.hid hb
    by_cases hlt : j < vs.length
    · have hx : j < xss.length := by rw [← HL.out]; exact hlt
      obtain ⟨b, off, rfl, -, -, c1⟩ := (HR.out.below hb).one hlt
      have s1 := ((HV.out.at).choose_spec.2.2)
      have s1 : wr.ownsRow lo 9 1 vs[j] ((renumS k xss)[j]'(by rw [renumS_len]; exact hx)).length (txts ((renumS k xss)[j]'(by rw [renumS_len]; exact hx))) := (HV.out.below hb).rowAt j hlt (by rw [renumS_len]; exact hx)
      rw [renumS_get _ _ _ hx] at s1
      have ht := totalS_take xss j hx
      have htl := totalS_take_le xss (j + 1)
      simp only [encV, List.getElem?_cons_zero] at c1
      generalize vs[j] = p at *
      have S1 : Hid (OwnStrs lo wr p (mrkS (k + totalS (xss.take j)) xss[j].length)) := s1
      obtain ⟨_, _, rfl, -⟩ := owns_slice s1
      have HT := Lib.hid ht
      have hle : k + totalS (xss.take j) + (xss[j].length : Int) ≤ 1000000000 := by omega
      clear ht htl s1 hb
      go_wp2_with fail
      refine (heldStrs_is lo _ xss[j] _ _ (by omega) hle S1.out).mono ?_
      rintro e w1 ⟨rfl, hb1⟩
      have HB1 := Lib.hid (HB.out.trans (hb1.mono HB.out.size))
      clear hb1
      go_wp2_with fail
      go_roundw
      case rel => exact ⟨j + 1, by omega, by rw [HT.out]; go_num, by go_num, HB1.out⟩
      case measure => simp [intOf]; omega
    · clear hb
      go_wp2
      go_ret
      obtain rfl : j = vs.length := by omega
      exact ⟨ret_int (by rw [HL.out]; simp), HB.out⟩

set_option maxHeartbeats 400000 in
theorem markStrss_is (lo : Nat) (v : Value) (vs : List Value) (xss : List (List ByteArray)) (k : Int) (w : World) (h1 : 0 ≤ k) (h2 : k + (totalS xss : Int) ≤ 1000000000) (hlo : lo ≤ w.heap.size) (hv : OwnStrss lo w v vs xss) :
    Calls Tryz.prog 24 #[v, .int .i64 k] w fun e w' => e = .returned (.int .i64 (k + (totalS xss : Int))) ∧ Below lo w w' ∧ OwnStrss lo w' v vs (renumS k xss) ∧ Only [9] w w' := by
  have HV := Lib.hid hv
  have hl := hv.len
  rcases hv.out.2 with ⟨rfl, h0⟩ | ⟨g, cap, cur, rfl, -, -, hnc, hcm, -⟩
  · have hx : xss = [] := List.eq_nil_of_length_eq_zero (by rw [← hl]; exact h0)
    subst hx
    clear hv
    go_enter Tryz.func24, Tryz.ntmps24
    go_wp2
    go_loop [1, 5] (fun q i => q = .int .i64 k ∧ i = .int .i64 0) (fun _ _ => 0)
    case atStart => exact ⟨rfl, rfl⟩
    case round =>
      obtain ⟨rfl, rfl⟩ := hrel
      go_wp2
      go_ret
      exact ⟨ret_int (by simp [totalS]), Below.refl _ _, HV.out, Only.refl _ _⟩
  · have HL := Lib.hid hl
    have hmx : vs.length ≤ 9223372036854775807 := by simp only [maxLen] at hcm; omega
    clear hv hcm hnc hl
    go_enter Tryz.func24, Tryz.ntmps24
    go_wp2
    go_loopw [1, 5] (fun q i wr => ∃ j : Nat, j ≤ vs.length ∧ q = .int .i64 (k + totalS (xss.take j)) ∧ i = .int .i64 j ∧ Below lo w wr ∧ OwnStrss lo wr (.slice (some ⟨g, 0, none⟩) vs.length cap) vs (renumS k (xss.take j) ++ xss.drop j) ∧ Only [9] w wr) (fun _ i _ => vs.length - (intOf i).toNat)
    case atStart => exact ⟨0, Nat.zero_le _, by simp [totalS], rfl, Below.refl _ _, by simpa [renumS] using HV.out, Only.refl _ _⟩
    case round =>
      obtain ⟨j, hj, rfl, rfl, hb, ho, hon⟩ := hrel
      have HON := Lib.hid hon
      have HB := Lib.hid hb
      have HO := Lib.hid ho
      have hsz := hb.size
      clear hb HV hon
      by_cases hlt : j < vs.length
      · have hx : j < xss.length := by rw [← HL.out]; exact hlt
        have c1 := ho.out.cellAt j (by omega)
        rw [List.getElem?_eq_getElem hlt] at c1
        have hzl : j < (renumS k (xss.take j) ++ xss.drop j).length := by simp [renumS_len]; omega
        have hrow := ho.rowAt j hlt hzl
        have hz : (renumS k (xss.take j) ++ xss.drop j)[j] = xss[j] := by
          rw [List.getElem_append_right (by rw [renumS_len]; simp; omega)]
          simp only [renumS_len, List.length_take, Nat.min_eq_left (Nat.le_of_lt hx), Nat.sub_self, List.getElem_drop, Nat.add_zero]
        rw [hz] at hrow
        have ht := totalS_take xss j hx
        have htl := totalS_take_le xss (j + 1)
        have HT := Lib.hid ht
        have hle : k + totalS (xss.take j) + (xss[j].length : Int) ≤ 1000000000 := by omega
        have HR := Lib.hid hrow
        have hp : ∃ p, p = vs[j] := ⟨_, rfl⟩
        obtain ⟨p, hp⟩ := hp
        rw [← hp] at c1
        have HP := Lib.hid hp
        have HM : Hid (OwnStrs lo wr p xss[j]) := by rw [HP.out]; exact HR.out
        have hlo2 : lo ≤ wr.heap.size := by omega
        clear hp hrow ht htl ho hz
        go_wp2_with fail
        refine (markStringS_is lo p (txts xss[j]) _ _ (by omega) (by rw [txts_len]; exact hle) (by rw [txts_len]; exact HM.out)).mono ?_
        rintro e w1 ⟨rfl, hg, hq⟩
        rw [txts_len] at hq ⊢
        have hb2 : Below lo wr w1 := below_grown hg hlo2 (fun b e => (World.ownsRow.lt HM.out b e).1)
        have HO2 : Hid (OwnStrss lo w1 (.slice (some ⟨g, 0, none⟩) vs.length cap) vs (renumS k (xss.take (j + 1)) ++ xss.drop (j + 1))) := by
          refine ⟨HO.out.out.kept hg (own_types HO.out.out HM.out (by decide)), ?_⟩
          have := HO.out.rows.put j hlt (txts (mrkS (k + totalS (xss.take j)) xss[j].length)) (by rw [← HP.out]; exact hg) (by rw [← HP.out, txts_len, mrkS_len]; exact hq)
          rw [← List.map_set, renumS_step _ _ _ hx] at this
          exact this
        have HB2 := Lib.hid hb2
        have HON2 : Hid (Only [9] w w1) := HON.out.step (Only.grown HM.out hg)
        clear hg hq hb2 HO HR HM
        go_wp2_with fail
        go_roundw
        case rel => exact ⟨j + 1, by omega, by rw [HT.out]; go_num, by go_num, HB.out.trans HB2.out, HO2.out, HON2.out⟩
        case measure => simp [intOf]; omega
      · clear ho
        go_wp2
        go_ret
        obtain rfl : j = vs.length := by omega
        exact ⟨ret_int (by rw [HL.out]; simp), HB.out, by rw [show renumS k xss = renumS k (xss.take vs.length) ++ xss.drop vs.length from by rw [HL.out]; simp]; exact HO.out, HON.out⟩

end Go.Proofs.YtbbffbnfppbibaaGreatDoor

namespace Go.Proofs.YtbbffbnfppbibaaGreatDoor
open Go Go.RowKit

def encN (p : TNode × Value) : List Value := [.int .i64 p.1.at_, .int .i64 0, p.2]
theorem encN_len (p : TNode × Value) : (encN p).length = 3 := rfl
/-- The traces found, in a slice of the call's own, each trace in a row of its own. -/
structure OwnAll (B : Nat) (w : World) (v : Value) (ns : List (TNode × Value)) : Prop where
  all : w.ownsRow B 74 3 v ns.length (ns.flatMap encN)
  rows : Pile 9 B w (ns.map Prod.snd) (ns.map fun p => txts p.1.tr)
theorem OwnAll.below {B : Nat} {w w' : World} {v : Value} {ns : List (TNode × Value)} (h : OwnAll B w v ns) (hb : Below w.heap.size w w') : OwnAll B w' v ns := ⟨owns_below h.all hb, h.rows.below hb⟩
theorem OwnAll.row {B : Nat} {w : World} {v : Value} {ns : List (TNode × Value)} (h : OwnAll B w v ns) {i : Nat} (hi : i < ns.length) : w.ownsRow B 9 1 ns[i].2 ns[i].1.tr.length (txts ns[i].1.tr) := by
  have := h.rows.row i (by simpa using hi) (by simpa using hi)
  simpa [txts_len] using this
theorem OwnAll.cells {B : Nat} {w : World} {v : Value} {ns : List (TNode × Value)} (h : OwnAll B w v ns) {i : Nat} (hi : i < ns.length) :
    ∃ b c, v = .slice (some ⟨b, 0, none⟩) ns.length c ∧ B ≤ b ∧ b < w.heap.size ∧ w.cell? ⟨b, i * 3, none⟩ = some (.int .i64 ns[i].1.at_) ∧ w.cell? ⟨b, i * 3 + 1, none⟩ = some (.int .i64 0) ∧ w.cell? ⟨b, i * 3 + 2, none⟩ = some ns[i].2 := by
  have hs : SliceK 3 encN B w v ns := SliceK.of_owns encN_len rfl h.all
  obtain ⟨a, c, rfl, -, -, hrow⟩ := hs
  rcases hrow with h0 | ⟨b, o, rfl, h1, h2, h3⟩
  · omega
  · obtain ⟨rfl, -⟩ : o = 0 ∧ B ≤ b := by
      rcases h.all.2 with ⟨e, -⟩ | ⟨g, cap, cur, e, hg, -⟩
      · simp at e
      · simp only [Value.slice.injEq, Option.some.injEq, Addr.mk.injEq, and_true, true_and] at e
        exact ⟨e.1.2, h1⟩
    refine ⟨b, c, rfl, h1, h2, ?_, ?_, ?_⟩
    · have := h3 i hi 0 (by omega); simpa [encN] using this
    · have := h3 i hi 1 (by omega); simpa [encN] using this
    · have := h3 i hi 2 (by omega); simpa [encN] using this
/-- One trace more: its row lies behind all that was there, the slice was appended to. -/
theorem OwnAll.push {B GE : Nat} {w wA w6 : World} {v v' tv : Value} {ns : List (TNode × Value)} {p : TNode} (h : OwnAll B w v ns) (hGE : w.heap.size ≤ GE) (hB : B ≤ GE) (hb : Below w.heap.size w wA) (hr : wA.ownsRow GE 9 1 tv p.tr.length (txts p.tr))
    (hg : wA.grownBy w6 v.ownBlock) (ho : w6.ownsRow B 74 3 v' (ns.length + 1) (ns.flatMap encN ++ [.int .i64 p.at_, .int .i64 0, tv])) : OwnAll B w6 v' (ns ++ [(p, tv)]) := by
  refine ⟨?_, ?_⟩
  · rw [List.length_append, List.flatMap_append]
    simpa [encN] using ho
  · have h1 := h.rows.push hGE hb (by rw [txts_len]; exact hr) hB
    have h2 := h1.other (by decide) (owns_below h.all hb) hg
    simpa using h2

def RetTrc (t : Lts) (q : Int) (w : World) (e : Ending) (w' : World) : Prop :=
  Below w.heap.size w w' ∧ ∃ (xss : List (List ByteArray)) (code : Int) (v : Value) (vs : List Value), e = .returned (.tuple #[v, .int .i64 code]) ∧ TracesIs t q xss code ∧ OwnStrss w.heap.size w' v vs xss
theorem trc_none {t : Lts} {q code : Int} {w w' : World} (hb : Below w.heap.size w w') (h : TracesIs t q [] code) : RetTrc t q w (.returned (.tuple #[.slice none 0 0, .int .i64 code])) w' :=
  ⟨hb, [], code, _, [], rfl, h, OwnStrss.none _ _⟩
theorem TracesIs.few2 {t : Lts} {q code : Int} {xs : List (List ByteArray)} (h : TracesIs t q xs code) : totalS xs ≤ 2400 := by
  have h1 := h.few
  have h2 := totalS_few h1.2
  omega
end Go.Proofs.YtbbffbnfppbibaaGreatDoor

namespace Go.Proofs.YtbbffbnfppbibaaGreatDoor
open Go Go.RowKit

theorem CloneS_own (lo : Nat) (v : Value) (xs : List ByteArray) (w : World) (hv : SliceK 1 encS lo w v xs) (hz : xs.length ≤ 1048576) :
    Calls Tryz.prog 53 #[v] w fun e w' => ∃ v', e = .returned v' ∧ w'.ownsRow w.heap.size 9 1 v' xs.length (xs.map Value.string) ∧ Below w.heap.size w w' := by
  obtain ⟨a, c, rfl, hn, hc, hrow⟩ := hv
  cases a with
  | none =>
    have h0 : xs.length = 0 := by
      rcases hrow with h | ⟨b, o, h, -⟩
      · exact h
      · cases h
    have hx : xs = [] := List.eq_nil_of_length_eq_zero h0
    subst hx
    refine (Tryz.slices_Clone_string_nil _ _ w).mono ?_
    rintro e w' ⟨rfl, rfl⟩
    exact ⟨_, rfl, World.ownsRow_nil _ _ _ _, Below.refl _ _⟩
  | some a =>
    rcases hrow with h0 | ⟨b, o, h, -, hb, hcell⟩
    · have hx : xs = [] := List.eq_nil_of_length_eq_zero h0
      subst hx
      refine (Tryz.slices_Clone_string_zero a c w).mono ?_
      rintro e w' ⟨v', rfl, ho, -, hb⟩
      exact ⟨v', rfl, ho, hb⟩
    · cases h
      refine (Tryz.slices_Clone_string b o xs.length c xs w (Nat.le_refl _) (by omega) (fun j hj => ?_)).mono ?_
      · have := hcell j hj 0 (by omega)
        rw [List.getD_eq_getElem?_getD, List.getElem?_eq_getElem hj]
        simpa [encS] using this
      · rintro e w' ⟨v', rfl, ho, -, hb2⟩
        rw [List.take_length] at ho
        exact ⟨v', rfl, ho, hb2⟩

end Go.Proofs.YtbbffbnfppbibaaGreatDoor

namespace Go.Proofs.YtbbffbnfppbibaaGreatDoor
open Go Go.RowKit

set_option maxRecDepth 100000 in
set_option maxHeartbeats 2000000 in
theorem out_any (lo : Nat) (t : Lts) (lv ev : Value) (s : Int) (w : World) (hsmall : t.edges.length ≤ 1073741824) (he : SliceK 3 encE lo w ev t.edges) :
    Calls Tryz.prog 52 #[.agg #[.int .i64 t.states, .int .i64 t.initial, lv, ev], .int .i64 s] w (MadeOut t s w) := by
  obtain ⟨ae, ce, rfl, hen, hec, hrow⟩ := he
  obtain ⟨i0, hi, hz0, hz1, hz2⟩ := info_parts info_edge2
  have HB0 : Hid (Below w.heap.size w (w.alloc (.cells #[.int .i64 t.states, .int .i64 t.initial, lv, .slice ae t.edges.length ce] 31))) := (Below.refl _ _).alloc (Nat.le_refl _) _
  go_enter Tryz.func52, Tryz.ntmps52
  go_wp2_with fail
  go_loopw [5, 11] (fun v i wr => ∃ k : Nat, k ≤ t.edges.length ∧ i = .int .i64 k ∧ Below w.heap.size w wr ∧ wr.ownsRow w.heap.size 62 3 v ((t.edges.take k).filter fun e => e.src == s).length (((t.edges.take k).filter fun e => e.src == s).flatMap encE)) (fun _ i _ => t.edges.length - (intOf i).toNat)
  case atStart => exact ⟨0, Nat.zero_le _, rfl, HB0.out, World.ownsRow_nil _ _ _ _⟩
  case round =>
    obtain ⟨k, hk, rfl, hbl, ho⟩ := hrel
    have HBL := Lib.hid hbl
    have HO := Lib.hid ho
    have hsz := hbl.size
    have hfl : ((t.edges.take k).filter fun e => e.src == s).length ≤ k := Nat.le_trans (List.length_filter_le _ _) (List.length_take_le _ _)
    clear hbl ho
    by_cases hlt : k < t.edges.length
    · obtain ⟨be, oe, rfl, -, hbe, e1, e2, e3⟩ := (hrow.below HBL.out).edge hlt
      clear hrow
      have HBA : Hid (Below w.heap.size w (wr.alloc (.cells #[.int .i64 t.edges[k].src, .int .i64 t.edges[k].lab, .int .i64 t.edges[k].dst] 62))) := HBL.out.alloc hsz _
      have HOA : Hid ((wr.alloc (.cells #[.int .i64 t.edges[k].src, .int .i64 t.edges[k].lab, .int .i64 t.edges[k].dst] 62)).ownsRow w.heap.size 62 3 u5 ((t.edges.take k).filter fun e => e.src == s).length (((t.edges.take k).filter fun e => e.src == s).flatMap encE)) := HO.out.alloc _
      cases g : (t.edges[k].src == s)
      · have HL : Hid ((t.edges.take (k + 1)).filter (fun e => e.src == s) = (t.edges.take k).filter fun e => e.src == s) := by
          unfold Hid
          rw [List.take_succ_eq_append_getElem hlt, List.filter_append]
          simp [g]
        go_wp2_with fail
        go_roundw
        case rel => exact ⟨k + 1, by omega, by go_num, HBA.out, by rw [HL.out]; exact HOA.out⟩
        case measure => simp [intOf]; omega
      · have HL : Hid ((t.edges.take (k + 1)).filter (fun e => e.src == s) = ((t.edges.take k).filter fun e => e.src == s) ++ [t.edges[k]]) := by
          unfold Hid
          rw [List.take_succ_eq_append_getElem hlt, List.filter_append]
          simp [g]
        generalize hfs : (t.edges.take k).filter (fun e => e.src == s) = fs at *
        have HFS := Lib.hid hfs
        clear hfs
        go_wp2_with (at_builtin; refine wpList_append_own _ rfl _ _ 29 rfl w.heap.size 62 i0 (.agg #[.int .i64 0, .int .i64 0, .int .i64 0]) 3 24 Tryz.underlying29 hi hz0 hz1 hz2 rfl (by decide) _ _ _ rfl (HOA.out.alloc _) ⟨wr.heap.size + 1, 0, none⟩ 1 1 (encE t.edges[k]) rfl rfl ?c1 ?c2 ?c3 ?c4 ?c5 ?_)
        case c1 => have := three_new (wr.alloc (.cells #[.int .i64 t.edges[k].src, .int .i64 t.edges[k].lab, .int .i64 t.edges[k].dst] 62)) t.edges[k] 62; simpa using this
        case c2 => intro u hu; simp [encE] at hu; rcases hu with rfl | rfl | rfl <;> rfl
        case c3 => simp [maxLen]; omega
        case c4 => omega
        case c5 => simp; omega
        intro v' w1 ho1 hg1 _
        have HO2 : Hid (w1.ownsRow w.heap.size 62 3 v' (fs ++ [t.edges[k]]).length ((fs ++ [t.edges[k]]).flatMap encE)) := by
          unfold Hid
          rw [List.length_append, List.flatMap_append, List.flatMap_singleton]
          exact ho1
        have HB2 : Hid (Below w.heap.size w w1) := (HBA.out.alloc (by simp; omega) _).grown hg1 (by simp; omega) (fun b e => (HO.out.lt b e).1)
        clear ho1 hg1
        go_wp2_with fail
        go_roundw
        case rel => exact ⟨k + 1, by omega, by go_num, HB2.out, by rw [HL.out]; exact HO2.out⟩
        case measure => simp [intOf]; omega
    · clear hrow
      go_wp2_with fail
      go_ret
      obtain rfl : k = t.edges.length := by omega
      exact ⟨_, rfl, HBL.out, by unfold outOf; have := HO.out; rw [List.take_length] at this; exact this⟩

end Go.Proofs.YtbbffbnfppbibaaGreatDoor
