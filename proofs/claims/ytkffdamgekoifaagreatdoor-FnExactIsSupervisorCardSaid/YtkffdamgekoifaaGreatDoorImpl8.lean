/-
  What the implementation's isState and compareEdges compute.
-/
import Derived.Test.YtkffdamgekoifaaGreatDoorImpl1
import Derived.StillTailTactics
namespace Go.Proofs.YtkffdamgekoifaaGreatDoor
open Go Go.RowKit

theorem isState_any (lv ev : Value) (s i k : Int) (w : World) (h1 : 1 ≤ s) (h2 : s ≤ 40) :
    Calls Tryz.prog 68 #[.agg #[.int .i64 s, .int .i64 i, lv, ev], .int .i64 k] w fun e w' => e = .returned (.bool (inB k 0 (s - 1))) ∧ Below w.heap.size w w' := by
  have HB : Hid (Below w.heap.size w (w.alloc (.cells #[.int .i64 s, .int .i64 i, lv, ev] 34))) := (Below.refl _ _).alloc (Nat.le_refl _) _
  go_enter Tryz.func68, Tryz.ntmps68
  go_wp2_with fail
  refine (within_any _ _ _ _).mono ?_
  rintro e w' ⟨rfl, rfl⟩
  go_wp2_with fail
  go_ret
  exact ⟨rfl, HB.out⟩

def cmpI (a b : Int) : Int := if a < b then -1 else if b < a then 1 else 0

theorem isNaN_any (a : Int) (w : World) : Calls Tryz.prog 94 #[.int .i64 a] w fun e w' => e = .returned (.bool false) ∧ w = w' := by
  go_enter Tryz.func94, Tryz.ntmps94
  go_wp2
  go_ret
  exact ⟨ret_bool (by simp), rfl⟩

theorem Compare_any (a b : Int) (w : World) : Calls Tryz.prog 81 #[.int .i64 a, .int .i64 b] w fun e w' => e = .returned (.int .i64 (cmpI a b)) ∧ w = w' := by
  by_cases h1 : a < b
  · have HF : Hid (cmpI a b = -1) := by unfold Hid cmpI; rw [if_pos h1]
    go_enter Tryz.func81, Tryz.ntmps81
    go_wp2_with fail
    refine (isNaN_any _ _).mono ?_
    rintro e w' ⟨rfl, rfl⟩
    go_wp2_with fail
    refine (isNaN_any _ _).mono ?_
    rintro e w' ⟨rfl, rfl⟩
    go_wp2_with fail
    go_ret
    exact ⟨ret_int HF.out.symm, rfl⟩
  · by_cases h2 : b < a
    · have HF : Hid (cmpI a b = 1) := by unfold Hid cmpI; rw [if_neg h1, if_pos h2]
      go_enter Tryz.func81, Tryz.ntmps81
      go_wp2_with fail
      refine (isNaN_any _ _).mono ?_
      rintro e w' ⟨rfl, rfl⟩
      go_wp2_with fail
      refine (isNaN_any _ _).mono ?_
      rintro e w' ⟨rfl, rfl⟩
      go_wp2_with fail
      go_ret
      exact ⟨ret_int HF.out.symm, rfl⟩
    · have HF : Hid (cmpI a b = 0) := by unfold Hid cmpI; rw [if_neg h1, if_neg h2]
      go_enter Tryz.func81, Tryz.ntmps81
      go_wp2_with fail
      refine (isNaN_any _ _).mono ?_
      rintro e w' ⟨rfl, rfl⟩
      go_wp2_with fail
      refine (isNaN_any _ _).mono ?_
      rintro e w' ⟨rfl, rfl⟩
      go_wp2_with fail
      go_ret
      exact ⟨ret_int HF.out.symm, rfl⟩

def orI (xs : List Int) : Int := (xs.find? fun x => x != 0).getD 0

theorem orI_hit {xs : List Int} {k : Nat} (h : k < xs.length) (hb : ∀ j (h : j < xs.length), j < k → xs[j] = 0) (hn : xs[k] ≠ 0) : orI xs = xs[k] := by
  unfold orI
  have : xs.find? (fun x => x != 0) = some xs[k] := by
    rw [List.find?_eq_some_iff_getElem]
    exact ⟨by simpa using hn, k, h, rfl, fun j hj => by simpa using hb j (by omega) hj⟩
  rw [this]; rfl
theorem orI_none {xs : List Int} (hb : ∀ j (h : j < xs.length), xs[j] = 0) : orI xs = 0 := by
  unfold orI
  have : xs.find? (fun x => x != 0) = none := by
    rw [List.find?_eq_none]
    intro x hx
    obtain ⟨j, hj, rfl⟩ := List.mem_iff_getElem.1 hx
    simpa using hb j hj
  rw [this]; rfl

theorem Or_any (lo : Nat) (v : Value) (xs : List Int) (w : World) (hv : SliceK 1 encI lo w v xs) :
    Calls Tryz.prog 80 #[v] w fun e w' => e = .returned (.int .i64 (orI xs)) ∧ w = w' := by
  obtain ⟨a, c, rfl, hcn, hcc, hrow⟩ := hv
  go_enter Tryz.func80, Tryz.ntmps80
  go_wp2_with fail
  go_loop [8] (fun i => ∃ k : Nat, k ≤ xs.length ∧ i = .int .i64 k ∧ ∀ j (h : j < xs.length), j < k → xs[j] = 0) (fun i => xs.length - (intOf i).toNat)
  case atStart => exact ⟨0, Nat.zero_le _, rfl, fun _ _ h => by omega⟩
  case round =>
    obtain ⟨k, hk, rfl, ha⟩ := hrel
    have HA := Lib.hid ha
    clear ha
    by_cases hlt : k < xs.length
    · obtain ⟨b1, o1, rfl, -, hbs, c1⟩ := hrow.one hlt
      simp only [encI, List.getElem?_cons_zero] at c1
      clear hrow
      obtain ⟨x, hx⟩ : ∃ x, x = xs[k] := ⟨_, rfl⟩
      rw [← hx] at c1
      have HX := Lib.hid hx
      clear hx
      cases h0 : (x != 0)
      · have h0' : x = 0 := by simpa using h0
        go_wp2_with fail
        go_round
        case rel => exact ⟨k + 1, by omega, by go_num, fun j h hj => by
          by_cases e : j = k
          · subst e; rw [← HX.out]; exact h0'
          · exact HA.out j h (by omega)⟩
        case measure => simp [intOf]; omega
      · have hf : orI xs = x := by rw [HX.out]; exact orI_hit hlt HA.out (by rw [← HX.out]; simpa using h0)
        have HF := Lib.hid hf
        clear hf
        go_wp2_with fail
        go_ret
        exact ⟨ret_int HF.out.symm, rfl⟩
    · clear hrow
      go_wp2_with fail
      go_ret
      exact ⟨ret_int (orI_none fun j h => HA.out j h (by omega)).symm, rfl⟩

def cmpE (a b : Edge) : Int := orI [cmpI a.src b.src, cmpI a.lab b.lab, cmpI a.dst b.dst]
theorem cmpE_less (a b : Edge) : decide (0 ≤ cmpE a b) = !edgeLess a b := by
  unfold cmpE orI edgeLess cmpI
  by_cases h1 : a.src < b.src
  · have : a.src ≠ b.src := by omega
    simp [h1, this]
  · by_cases h2 : b.src < a.src
    · have : a.src ≠ b.src := by omega
      simp [h1, h2, this]
    · have e : a.src = b.src := by omega
      by_cases h3 : a.lab < b.lab
      · have : a.lab ≠ b.lab := by omega
        simp [h3, this, e]
      · by_cases h4 : b.lab < a.lab
        · have : a.lab ≠ b.lab := by omega
          simp [h3, h4, this, e]
        · have e2 : a.lab = b.lab := by omega
          by_cases h5 : a.dst < b.dst
          · simp [h5, e, e2]
          · by_cases h6 : b.dst < a.dst
            · simp [h5, h6, e, e2]
            · simp [h5, h6, e, e2]

theorem still_same {P : Program} {f : FuncId} {args : Array Value} {w : World} {v : Value} (h : Calls P f args w fun e w' => e = .returned v ∧ w = w') : Calls P f args w fun e w' => e = .returned v ∧ w' = w :=
  h.mono fun _ _ ⟨he, hw⟩ => ⟨he, hw.symm⟩

def edgeV (e : Edge) : Value := .agg #[.int .i64 e.src, .int .i64 e.lab, .int .i64 e.dst]

set_option maxRecDepth 100000 in
theorem compareEdges_any (a b : Edge) (w : World) : Calls Tryz.prog 73 #[.agg #[.int .i64 a.src, .int .i64 a.lab, .int .i64 a.dst], .agg #[.int .i64 b.src, .int .i64 b.lab, .int .i64 b.dst]] w fun e w' => e = .returned (.int .i64 (cmpE a b)) ∧ Below w.heap.size w w' := by
  obtain ⟨W, hW⟩ : ∃ W, W = (w.alloc (.cells #[.int .i64 a.src, .int .i64 a.lab, .int .i64 a.dst] 73)).alloc (.cells #[.int .i64 b.src, .int .i64 b.lab, .int .i64 b.dst] 73) := ⟨_, rfl⟩
  have HB : Hid (Below w.heap.size w W) := by
    unfold Hid
    rw [hW]
    exact ((Below.refl _ _).alloc (Nat.le_refl _) _).alloc (by simp) _
  have a0 : W.cell? ⟨w.heap.size, 0, none⟩ = some (.int .i64 a.src) := by rw [hW]; simp
  have a1 : W.cell? ⟨w.heap.size, 1, none⟩ = some (.int .i64 a.lab) := by rw [hW]; simp
  have a2 : W.cell? ⟨w.heap.size, 2, none⟩ = some (.int .i64 a.dst) := by rw [hW]; simp
  have b0 : W.cell? ⟨w.heap.size + 1, 0, none⟩ = some (.int .i64 b.src) := by rw [hW]; simp
  have b1 : W.cell? ⟨w.heap.size + 1, 1, none⟩ = some (.int .i64 b.lab) := by rw [hW]; simp
  have b2 : W.cell? ⟨w.heap.size + 1, 2, none⟩ = some (.int .i64 b.dst) := by rw [hW]; simp
  go_enter Tryz.func73, Tryz.ntmps73
  go_wp2
  rw [← hW]
  clear hW
  go_still_tail 15, (by kernel_rfl)
  still_call (still_same (Compare_any _ _ _))
  repeat still_step
  still_call (still_same (Compare_any _ _ _))
  repeat still_step
  still_call (still_same (Compare_any _ _ _))
  repeat still_step
  refine wpStill_nil ?_
  change wpList _ _ _ _ _ W.drew
  obtain ⟨W2, hW2⟩ : ∃ W2, W2 = W.drew := ⟨_, rfl⟩
  rw [← hW2]
  have HB2 : Hid (Below w.heap.size w W2) := by
    unfold Hid
    rw [hW2]
    exact HB.out.drew
  clear hW2 a0 a1 a2 b0 b1 b2
  have HS : Hid (SliceK 1 encI 0 (W2.alloc (.cells #[.int .i64 (cmpI a.src b.src), .int .i64 (cmpI a.lab b.lab), .int .i64 (cmpI a.dst b.dst)] 3)) (.slice (some ⟨W2.heap.size, 0, none⟩) 3 3) [cmpI a.src b.src, cmpI a.lab b.lab, cmpI a.dst b.dst]) := by
    have := World.ownsRow_lit (base := 0) (e := 3) (size := 1) W2 #[.int .i64 (cmpI a.src b.src), .int .i64 (cmpI a.lab b.lab), .int .i64 (cmpI a.dst b.dst)] 3 (Nat.zero_le _) (by decide) (by simp)
    exact SliceK.of_owns (e := 3) encI_len rfl (by rw [flat_encI]; simpa using this)
  have HB3 : Hid (Below w.heap.size w (W2.alloc (.cells #[.int .i64 (cmpI a.src b.src), .int .i64 (cmpI a.lab b.lab), .int .i64 (cmpI a.dst b.dst)] 3))) := HB2.out.alloc HB2.out.size _
  go_wp2_with fail
  refine (Or_any 0 _ _ _ HS.out).mono ?_
  rintro e w' ⟨rfl, rfl⟩
  go_wp2_with fail
  go_ret
  exact ⟨rfl, HB3.out⟩

end Go.Proofs.YtkffdamgekoifaaGreatDoor
