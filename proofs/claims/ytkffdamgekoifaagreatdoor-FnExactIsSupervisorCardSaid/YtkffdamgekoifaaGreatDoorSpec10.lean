/-
  What the reference's functions on lists of numbers and of names compute.
-/
import Derived.Test.YtkffdamgekoifaaGreatDoorSpec5
import Derived.Test.YtkffdamgekoifaaGreatDoorTri
namespace Go.Proofs.YtkffdamgekoifaaGreatDoor
open Go Go.RowKit

set_option maxRecDepth 100000 in
set_option maxHeartbeats 1000000 in
theorem l00Has_any (lo : Nat) (v : Value) (xs : List Int) (n : Int) (w : World) (hv : SliceK 1 encI lo w v xs) : Calls Tryz.prog 37 #[v, .int .i64 n] w fun e w' => e = .returned (.bool (xs.contains n)) ∧ Below w.heap.size w w' := by
  obtain ⟨a, cap, rfl, hn, hcap, hrow⟩ := hv
  go_enter Tryz.func37, Tryz.ntmps37
  go_wp2
  go_loopw [5] (fun i wr => ∃ k : Nat, k ≤ xs.length ∧ i = .int .i64 k ∧ Below w.heap.size w wr ∧ ∀ j (h : j < xs.length), j < k → xs[j] ≠ n) (fun i _ => xs.length - (intOf i).toNat)
  case atStart => exact ⟨0, Nat.zero_le _, rfl, Below.refl _ _, fun _ _ h => by omega⟩
  case round =>
    obtain ⟨k, hk, rfl, hbl, hx⟩ := hrel
    have HX := Lib.hid hx
    have HBL := Lib.hid hbl
    have hsz := hbl.size
    clear hx
    by_cases hlt : k < xs.length
    · obtain ⟨b, o, rfl, -, hb, c⟩ := (hrow.below hbl).one hlt
      simp only [encI, List.getElem?_cons_zero] at c
      clear hrow hbl
      cases g : (xs[k] == n)
      · have HG : Hid (xs[k] ≠ n) := by unfold Hid; simpa using g
        go_wp2
        go_roundw
        case rel => exact ⟨k + 1, by omega, by go_num, HBL.out, fun j h h' => by
            by_cases e : j = k
            · subst e; exact HG.out
            · exact HX.out j h (by omega)⟩
        case measure => simp [intOf]; omega
      · have HG : Hid (xs.contains n = true) := by
          unfold Hid
          rw [List.contains_iff_mem]
          exact (eq_of_beq g) ▸ List.getElem_mem hlt
        go_wp2
        go_ret
        exact ⟨ret_bool HG.out.symm, HBL.out⟩
    · clear hrow hbl
      go_wp2
      go_ret
      refine ⟨ret_bool ?_, HBL.out⟩
      symm
      rw [Bool.eq_false_iff]
      intro h
      rw [List.contains_iff_mem] at h
      obtain ⟨j, hj, e⟩ := List.mem_iff_getElem.1 h
      exact HX.out j hj (by omega) e

set_option maxRecDepth 100000 in
set_option maxHeartbeats 1000000 in
theorem l00Same_any (lo lo2 : Nat) (v v2 : Value) (xs ys : List Int) (w : World) (hv : SliceK 1 encI lo w v xs) (hv2 : SliceK 1 encI lo2 w v2 ys) : Calls Tryz.prog 57 #[v, v2] w fun e w' => e = .returned (.bool (xs == ys)) ∧ Below w.heap.size w w' := by
  obtain ⟨a, cap, rfl, hn, hcap, hrow⟩ := hv
  obtain ⟨a2, cap2, rfl, hn2, hcap2, hrow2⟩ := hv2
  by_cases hl : xs.length = ys.length
  · have hl1 : ((xs.length : Int) == (ys.length : Int)) = true := by rw [beq_iff_eq]; omega
    have HL := Lib.hid hl
    rw [← hl] at hn2
    have hl2 : (ys.length : Int) = (xs.length : Int) := by omega
    clear hl
    go_enter Tryz.func57, Tryz.ntmps57
    go_wp2
    clear hl1
    go_loopw [5] (fun i wr => ∃ k : Nat, k ≤ xs.length ∧ i = .int .i64 k ∧ Below w.heap.size w wr ∧ ∀ j (h : j < xs.length) (h2 : j < ys.length), j < k → xs[j] = ys[j]) (fun i _ => xs.length - (intOf i).toNat)
    case atStart => exact ⟨0, Nat.zero_le _, rfl, Below.refl _ _, fun _ _ _ h => by omega⟩
    case round =>
      obtain ⟨k, hk, rfl, hbl, hx⟩ := hrel
      have HX := Lib.hid hx
      have HBL := Lib.hid hbl
      have hsz := hbl.size
      clear hx
      by_cases hlt : k < xs.length
      · have hlt2 : k < ys.length := by have := HL.out; omega
        obtain ⟨b, o, rfl, -, hb, c⟩ := (hrow.below hbl).one hlt
        obtain ⟨b2, o2, rfl, -, hb2, c2⟩ := (hrow2.below hbl).one hlt2
        simp only [encI, List.getElem?_cons_zero] at c c2
        have s1 := later_cell hb c
        have s2 := later_cell hb2 c2
        clear hrow hrow2 hbl c c2
        cases g : (xs[k] == ys[k])
        · have HG : Hid ((xs == ys) = false) := by
            unfold Hid
            rw [beq_eq_false_iff_ne] at g ⊢
            intro e
            subst e
            exact g rfl
          go_wp2
          refine wp_region_later (by kernel_rfl) (by kernel_rfl) ?_
          repeat (go_big_quiet_step ((fail)))
          refine wpQuiet_nil ?_
          intro _ hw9
          obtain ⟨nl, hw8⟩ := hw9
          subst hw8
          go_wp2
          go_ret
          exact ⟨ret_bool HG.out.symm, HBL.out.trans (nl.h.mono hsz)⟩
        · have HG : Hid (xs[k] = ys[k]) := eq_of_beq g
          go_wp2
          refine wp_region_later (by kernel_rfl) (by kernel_rfl) ?_
          repeat (go_big_quiet_step ((fail)))
          refine wpQuiet_nil ?_
          intro _ hw9
          obtain ⟨nl, hw8⟩ := hw9
          subst hw8
          go_wp2
          go_roundw
          case rel => exact ⟨k + 1, by omega, by go_num, HBL.out.trans (nl.h.mono hsz), fun j h h2 h' => by
              by_cases e : j = k
              · subst e; exact HG.out
              · exact HX.out j h h2 (by omega)⟩
          case measure => simp [intOf]; omega
      · clear hrow hrow2 hbl
        go_wp2
        go_ret
        refine ⟨ret_bool ?_, HBL.out⟩
        symm
        rw [beq_iff_eq]
        exact List.ext_getElem HL.out (fun j h1 h2 => HX.out j h1 h2 (by omega))
  · have hl1 : ((xs.length : Int) == (ys.length : Int)) = false := by rw [beq_eq_false_iff_ne]; omega
    have HG : Hid ((xs == ys) = false) := by
      unfold Hid
      rw [beq_eq_false_iff_ne]
      exact fun e => hl (by rw [e])
    clear hl hrow hrow2
    go_enter Tryz.func57, Tryz.ntmps57
    go_wp2
    go_ret
    exact ⟨ret_bool HG.out.symm, Below.refl _ _⟩

/-- The first place of a list among lists, or -1. -/
def rowAt (xss : List (List Int)) (xs : List Int) : Int := if xss.findIdx (fun ys => ys == xs) < xss.length then (xss.findIdx (fun ys => ys == xs) : Nat) else -1

theorem findIdx_hit {α : Type} {p : α → Bool} {l : List α} {k : Nat} (hk : k < l.length) (h1 : ∀ j (h : j < l.length), j < k → p l[j] = false) (h2 : p l[k] = true) : l.findIdx p = k := by
  rw [List.findIdx_eq hk]
  exact ⟨h2, fun j hj => h1 j (by omega) hj⟩
theorem findIdx_none {α : Type} {p : α → Bool} {l : List α} (h1 : ∀ j (h : j < l.length), p l[j] = false) : l.findIdx p = l.length := by
  rw [List.findIdx_eq_length]
  intro x hx
  obtain ⟨j, hj, rfl⟩ := List.mem_iff_getElem.1 hx
  exact h1 j hj

set_option maxRecDepth 100000 in
set_option maxHeartbeats 1000000 in
theorem l27Row_any (lo lo2 : Nat) (v v2 : Value) (xss : List (List Int)) (xs : List Int) (w : World) (hv : IntssAt lo w v xss) (hv2 : SliceK 1 encI lo2 w v2 xs) : Calls Tryz.prog 36 #[v, v2] w fun e w' => e = .returned (.int .i64 (rowAt xss xs)) ∧ Below w.heap.size w w' := by
  obtain ⟨vs, hvl, ⟨a, cap, rfl, hn, hcap, hrow⟩, heach⟩ := hv
  have HE := Lib.hid heach
  have HV2 := Lib.hid hv2
  have HVL := Lib.hid hvl
  clear heach hvl
  obtain ⟨a2, cap2, rfl, -⟩ := hv2
  go_enter Tryz.func36, Tryz.ntmps36
  go_wp2
  go_loopw [5] (fun i wr => ∃ k : Nat, k ≤ vs.length ∧ i = .int .i64 k ∧ Below w.heap.size w wr ∧ ∀ j (h : j < xss.length), j < k → (xss[j] == xs) = false) (fun i _ => vs.length - (intOf i).toNat)
  case atStart => exact ⟨0, Nat.zero_le _, rfl, Below.refl _ _, fun _ _ h => by omega⟩
  case round =>
    obtain ⟨k, hk, rfl, hbl, hx⟩ := hrel
    have HX := Lib.hid hx
    have HBL := Lib.hid hbl
    have hsz := hbl.size
    clear hx
    by_cases hlt : k < vs.length
    · have hlt2 : k < xss.length := by have := HVL.out; omega
      obtain ⟨b, o, rfl, -, hb, c⟩ := (hrow.below hbl).one hlt
      simp only [encV, List.getElem?_cons_zero] at c
      have HS := Lib.hid ((HE.out k hlt hlt2).below hbl)
      obtain ⟨u, hu⟩ : ∃ u, u = vs[k] := ⟨_, rfl⟩
      rw [← hu] at c HS
      obtain ⟨au, cu, rfl, -⟩ := HS.out
      clear hrow hbl hu
      have HC := Lib.hid (l00Same_any lo lo2 _ _ _ _ wr HS.out (HV2.out.below HBL.out))
      cases g : (xss[k] == xs)
      · rw [g] at HC
        have HG := Lib.hid g
        clear g
        go_wp2_with fail
        refine Calls.mono HC.out ?_
        rintro e w1 ⟨rfl, hb1⟩
        have HB1 := Lib.hid (HBL.out.trans (hb1.mono hsz))
        clear hb1
        go_wp2_with fail
        go_roundw
        case rel => exact ⟨k + 1, by omega, by go_num, HB1.out, fun j h h' => by
            by_cases e : j = k
            · subst e; exact HG.out
            · exact HX.out j h (by omega)⟩
        case measure => simp [intOf]; omega
      · rw [g] at HC
        have HG : Hid (rowAt xss xs = (k : Int)) := by
          unfold Hid rowAt
          rw [findIdx_hit hlt2 HX.out g, if_pos hlt2]
        clear g
        go_wp2_with fail
        refine Calls.mono HC.out ?_
        rintro e w1 ⟨rfl, hb1⟩
        have HB1 := Lib.hid (HBL.out.trans (hb1.mono hsz))
        clear hb1
        go_wp2_with fail
        go_ret
        exact ⟨ret_int HG.out.symm, HB1.out⟩
    · clear hrow hbl
      go_wp2
      go_ret
      refine ⟨ret_int ?_, HBL.out⟩
      unfold rowAt
      rw [findIdx_none (fun j h => HX.out j h (by have := HVL.out; omega)), if_neg (by omega)]

/-- The first place of a text among texts, or -1. -/
def textAt (ss : List ByteArray) (s : ByteArray) : Int := if ss.findIdx (fun t => t.toList == s.toList) < ss.length then (ss.findIdx (fun t => t.toList == s.toList) : Nat) else -1

set_option maxRecDepth 100000 in
set_option maxHeartbeats 1000000 in
theorem l11Find_any (lo : Nat) (v : Value) (ss : List ByteArray) (s : ByteArray) (w : World) (hv : SliceK 1 encS lo w v ss) : Calls Tryz.prog 34 #[v, .string s] w fun e w' => e = .returned (.int .i64 (textAt ss s)) ∧ Below w.heap.size w w' := by
  obtain ⟨a, cap, rfl, hn, hcap, hrow⟩ := hv
  go_enter Tryz.func34, Tryz.ntmps34
  go_wp2
  go_loopw [5] (fun i wr => ∃ k : Nat, k ≤ ss.length ∧ i = .int .i64 k ∧ Below w.heap.size w wr ∧ ∀ j (h : j < ss.length), j < k → (ss[j].toList == s.toList) = false) (fun i _ => ss.length - (intOf i).toNat)
  case atStart => exact ⟨0, Nat.zero_le _, rfl, Below.refl _ _, fun _ _ h => by omega⟩
  case round =>
    obtain ⟨k, hk, rfl, hbl, hx⟩ := hrel
    have HX := Lib.hid hx
    have HBL := Lib.hid hbl
    have hsz := hbl.size
    clear hx
    by_cases hlt : k < ss.length
    · obtain ⟨b, o, rfl, -, hb, c⟩ := (hrow.below hbl).one hlt
      simp only [encS, List.getElem?_cons_zero] at c
      clear hrow hbl
      cases g : (ss[k].toList == s.toList)
      · have HG := Lib.hid g
        go_wp2
        go_roundw
        case rel => exact ⟨k + 1, by omega, by go_num, HBL.out, fun j h h' => by
            by_cases e : j = k
            · subst e; exact HG.out
            · exact HX.out j h (by omega)⟩
        case measure => simp [intOf]; omega
      · have HG : Hid (textAt ss s = (k : Int)) := by
          unfold Hid textAt
          rw [findIdx_hit hlt HX.out g, if_pos hlt]
        go_wp2
        go_ret
        exact ⟨ret_int HG.out.symm, HBL.out⟩
    · clear hrow hbl
      go_wp2
      go_ret
      refine ⟨ret_int ?_, HBL.out⟩
      unfold textAt
      rw [findIdx_none (fun j h => HX.out j h (by omega)), if_neg (by omega)]

theorem l01LabelName_any (s : ByteArray) (w : World) (hs : s.size ≤ 1073741824) : Calls Tryz.prog 35 #[.string s] w fun e w' => e = .returned (.string (s.extract 0 (openAt s.data.toList))) ∧ w = w' := by
  have hle := openAt_le s.data.toList
  rw [len_data] at hle
  have HL := Lib.hid hle
  go_enter Tryz.func35, Tryz.ntmps35
  go_wp2_with fail
  refine (l01Open_any s _ hs).mono ?_
  rintro e w' ⟨rfl, rfl⟩
  obtain ⟨n, hn⟩ : ∃ n, n = openAt s.data.toList := ⟨_, rfl⟩
  rw [← hn] at hle ⊢
  have HN := Lib.hid hn
  clear hn
  go_wp2_with fail
  go_ret
  exact ⟨by rw [← HN.out]; rfl, rfl⟩

end Go.Proofs.YtkffdamgekoifaaGreatDoor
