/-
  What the implementation's isState and compareEdges compute.
  Plain laws: the order of texts; in a deterministic system at most one edge leaves a state with a label's text.
  What the library's functions on slices compute where the implementation's follow calls them.
-/
import Derived.Test.YtjoacldbgnphkaaGreatDoorD3
import Derived.StillTailTactics
namespace Go.Proofs.YtjoacldbgnphkaaGreatDoor
open Go Go.RowKit

theorem isState_any (lv ev : Value) (s i k : Int) (w : World) (h1 : 1 ≤ s) (h2 : s ≤ 40) :
  Calls Tryz.prog 45 #[.agg #[.int .i64 s, .int .i64 i, lv, ev], .int .i64 k] w fun e w' => e = .returned (.bool (inB k 0 (s - 1))) ∧ Below w.heap.size w w' := by
 have HB : Hid (Below w.heap.size w (w.alloc (.cells #[.int .i64 s, .int .i64 i, lv, ev] 32))) := (Below.refl _ _).alloc (Nat.le_refl _) _
 go_enter Tryz.func45, Tryz.ntmps45
 go_wp2_with fail
 refine (within_any _ _ _ _).mono ?_
 rintro e w' ⟨rfl, rfl⟩
 go_wp2_with fail
 go_ret
 exact ⟨rfl, HB.out⟩

def cmpI (a b : Int) : Int := if a < b then -1 else if b < a then 1 else 0

theorem isNaN_any (a : Int) (w : World) : Calls Tryz.prog 109 #[.int .i64 a] w fun e w' => e = .returned (.bool false) ∧ w = w' := by
 go_enter Tryz.func109, Tryz.ntmps109
 go_wp2
 go_ret
 exact ⟨ret_bool (by simp), rfl⟩

theorem Compare_any (a b : Int) (w : World) : Calls Tryz.prog 82 #[.int .i64 a, .int .i64 b] w fun e w' => e = .returned (.int .i64 (cmpI a b)) ∧ w = w' := by
 by_cases h1 : a < b
 ·have HF : Hid (cmpI a b = -1) := by unfold Hid cmpI; rw [if_pos h1]
  go_enter Tryz.func82, Tryz.ntmps82
  go_wp2_with fail
  refine (isNaN_any _ _).mono ?_
  rintro e w' ⟨rfl, rfl⟩
  go_wp2_with fail
  refine (isNaN_any _ _).mono ?_
  rintro e w' ⟨rfl, rfl⟩
  go_wp2_with fail
  go_ret
  exact ⟨ret_int HF.out.symm, rfl⟩
 ·by_cases h2 : b < a
  ·have HF : Hid (cmpI a b = 1) := by unfold Hid cmpI; rw [if_neg h1, if_pos h2]
   go_enter Tryz.func82, Tryz.ntmps82
   go_wp2_with fail
   refine (isNaN_any _ _).mono ?_
   rintro e w' ⟨rfl, rfl⟩
   go_wp2_with fail
   refine (isNaN_any _ _).mono ?_
   rintro e w' ⟨rfl, rfl⟩
   go_wp2_with fail
   go_ret
   exact ⟨ret_int HF.out.symm, rfl⟩
  ·have HF : Hid (cmpI a b = 0) := by unfold Hid cmpI; rw [if_neg h1, if_neg h2]
   go_enter Tryz.func82, Tryz.ntmps82
   go_wp2_with fail
   refine (isNaN_any _ _).mono ?_
   rintro e w' ⟨rfl, rfl⟩
   go_wp2_with fail
   refine (isNaN_any _ _).mono ?_
   rintro e w' ⟨rfl, rfl⟩
   go_wp2_with fail
   go_ret
   exact ⟨ret_int HF.out.symm, rfl⟩

def orI (xs : List Int) : Int := (xs.find? fun x => x != 0).getD 0

theorem orI_hit {xs : List Int} {k : Nat} (h : k < xs.length) (hb : ∀ j (h : j < xs.length), j < k → xs[j] = 0) (hn : xs[k] ≠ 0) : orI xs = xs[k] := by
 unfold orI
 have : xs.find? (fun x => x != 0) = some xs[k] := by
  rw [List.find?_eq_some_iff_getElem]
  exact ⟨by simpa using hn, k, h, rfl, fun j hj => by simpa using hb j (by omega) hj⟩
 rw [this]; rfl
theorem orI_none {xs : List Int} (hb : ∀ j (h : j < xs.length), xs[j] = 0) : orI xs = 0 := by
 unfold orI
 have : xs.find? (fun x => x != 0) = none := by
  rw [List.find?_eq_none]
  intro x hx
  obtain ⟨j, hj, rfl⟩ := List.mem_iff_getElem.1 hx
  simpa using hb j hj
 rw [this]; rfl

theorem Or_any (lo : Nat) (v : Value) (xs : List Int) (w : World) (hv : SliceK 1 encI lo w v xs) :
  Calls Tryz.prog 81 #[v] w fun e w' => e = .returned (.int .i64 (orI xs)) ∧ w = w' := by
 obtain ⟨a, c, rfl, hcn, hcc, hrow⟩ := hv
 go_enter Tryz.func81, Tryz.ntmps81
 go_wp2_with fail
 go_loop [8] (fun i => ∃ k : Nat, k ≤ xs.length ∧ i = .int .i64 k ∧ ∀ j (h : j < xs.length), j < k → xs[j] = 0) (fun i => xs.length - (intOf i).toNat)
 case atStart => exact ⟨0, Nat.zero_le _, rfl, fun _ _ h => by omega⟩
 case round =>
  obtain ⟨k, hk, rfl, ha⟩ := hrel
  have HA := Lib.hid ha
  clear ha
  by_cases hlt : k < xs.length
  ·obtain ⟨b1, o1, rfl, -, hbs, c1⟩ := hrow.one hlt
   simp only [encI, List.getElem?_cons_zero] at c1
   clear hrow
   obtain ⟨x, hx⟩ : ∃ x, x = xs[k] := ⟨_, rfl⟩
   rw [← hx] at c1
   have HX := Lib.hid hx
   clear hx
   cases h0 : (x != 0)
   ·have h0' : x = 0 := by simpa using h0
    go_wp2_with fail
    go_round
    case rel => exact ⟨k + 1, by omega, by go_num, fun j h hj => by
     by_cases e : j = k
     ·subst e; rw [← HX.out]; exact h0'
     ·exact HA.out j h (by omega)⟩
    case measure => simp [intOf]; omega
   ·have hf : orI xs = x := by rw [HX.out]; exact orI_hit hlt HA.out (by rw [← HX.out]; simpa using h0)
    have HF := Lib.hid hf
    clear hf
    go_wp2_with fail
    go_ret
    exact ⟨ret_int HF.out.symm, rfl⟩
  ·clear hrow
   go_wp2_with fail
   go_ret
   exact ⟨ret_int (orI_none fun j h => HA.out j h (by omega)).symm, rfl⟩

def cmpE (a b : Edge) : Int := orI [cmpI a.src b.src, cmpI a.lab b.lab, cmpI a.dst b.dst]
theorem cmpE_less (a b : Edge) : decide (0 ≤ cmpE a b) = !edgeLess a b := by
 unfold cmpE orI edgeLess cmpI
 by_cases h1 : a.src < b.src
 ·have : a.src ≠ b.src := by omega
  simp [h1, this]
 ·by_cases h2 : b.src < a.src
  ·have : a.src ≠ b.src := by omega
   simp [h1, h2, this]
  ·have e : a.src = b.src := by omega
   by_cases h3 : a.lab < b.lab
   ·have : a.lab ≠ b.lab := by omega
    simp [h3, this, e]
   ·by_cases h4 : b.lab < a.lab
    ·have : a.lab ≠ b.lab := by omega
     simp [h3, h4, this, e]
    ·have e2 : a.lab = b.lab := by omega
     by_cases h5 : a.dst < b.dst
     ·simp [h5, e, e2]
     ·by_cases h6 : b.dst < a.dst
      ·simp [h5, h6, e, e2]
      ·simp [h5, h6, e, e2]

theorem still_same {P : Program} {f : FuncId} {args : Array Value} {w : World} {v : Value} (h : Calls P f args w fun e w' => e = .returned v ∧ w = w') : Calls P f args w fun e w' => e = .returned v ∧ w' = w :=
 h.mono fun _ _ ⟨he, hw⟩ => ⟨he, hw.symm⟩

set_option maxRecDepth 100000 in
theorem compareEdges_any (a b : Edge) (w : World) : Calls Tryz.prog 64 #[.agg #[.int .i64 a.src, .int .i64 a.lab, .int .i64 a.dst], .agg #[.int .i64 b.src, .int .i64 b.lab, .int .i64 b.dst]] w fun e w' => e = .returned (.int .i64 (cmpE a b)) ∧ Below w.heap.size w w' := by
 obtain ⟨W, hW⟩ : ∃ W, W = (w.alloc (.cells #[.int .i64 a.src, .int .i64 a.lab, .int .i64 a.dst] 66)).alloc (.cells #[.int .i64 b.src, .int .i64 b.lab, .int .i64 b.dst] 66) := ⟨_, rfl⟩
 have HB : Hid (Below w.heap.size w W) := by
  unfold Hid
  rw [hW]
  exact ((Below.refl _ _).alloc (Nat.le_refl _) _).alloc (by simp) _
 have a0 : W.cell? ⟨w.heap.size, 0, none⟩ = some (.int .i64 a.src) := by rw [hW]; simp
 have a1 : W.cell? ⟨w.heap.size, 1, none⟩ = some (.int .i64 a.lab) := by rw [hW]; simp
 have a2 : W.cell? ⟨w.heap.size, 2, none⟩ = some (.int .i64 a.dst) := by rw [hW]; simp
 have b0 : W.cell? ⟨w.heap.size + 1, 0, none⟩ = some (.int .i64 b.src) := by rw [hW]; simp
 have b1 : W.cell? ⟨w.heap.size + 1, 1, none⟩ = some (.int .i64 b.lab) := by rw [hW]; simp
 have b2 : W.cell? ⟨w.heap.size + 1, 2, none⟩ = some (.int .i64 b.dst) := by rw [hW]; simp
 go_enter Tryz.func64, Tryz.ntmps64
 go_wp2
 rw [← hW]
 clear hW
 go_still_tail 15, (by kernel_rfl)
 still_call (still_same (Compare_any _ _ _))
 repeat still_step
 still_call (still_same (Compare_any _ _ _))
 repeat still_step
 still_call (still_same (Compare_any _ _ _))
 repeat still_step
 refine wpStill_nil ?_
 change wpList _ _ _ _ _ W.drew
 obtain ⟨W2, hW2⟩ : ∃ W2, W2 = W.drew := ⟨_, rfl⟩
 rw [← hW2]
 have HB2 : Hid (Below w.heap.size w W2) := by
  unfold Hid
  rw [hW2]
  exact HB.out.drew
 clear hW2 a0 a1 a2 b0 b1 b2
 have HS : Hid (SliceK 1 encI 0 (W2.alloc (.cells #[.int .i64 (cmpI a.src b.src), .int .i64 (cmpI a.lab b.lab), .int .i64 (cmpI a.dst b.dst)] 3)) (.slice (some ⟨W2.heap.size, 0, none⟩) 3 3) [cmpI a.src b.src, cmpI a.lab b.lab, cmpI a.dst b.dst]) := by
  have := World.ownsRow_lit (base := 0) (e := 3) (size := 1) W2 #[.int .i64 (cmpI a.src b.src), .int .i64 (cmpI a.lab b.lab), .int .i64 (cmpI a.dst b.dst)] 3 (Nat.zero_le _) (by decide) (by simp)
  exact SliceK.of_owns (e := 3) encI_len rfl (by rw [flat_encI]; simpa using this)
 have HB3 : Hid (Below w.heap.size w (W2.alloc (.cells #[.int .i64 (cmpI a.src b.src), .int .i64 (cmpI a.lab b.lab), .int .i64 (cmpI a.dst b.dst)] 3))) := HB2.out.alloc HB2.out.size _
 go_wp2_with fail
 refine (Or_any 0 _ _ _ HS.out).mono ?_
 rintro e w' ⟨rfl, rfl⟩
 go_wp2_with fail
 go_ret
 exact ⟨rfl, HB3.out⟩

end Go.Proofs.YtjoacldbgnphkaaGreatDoor

namespace Go.Proofs.YtjoacldbgnphkaaGreatDoor
open Go Go.RowKit

theorem less_lt : ∀ (x y : List UInt8), Op.bytesLess x y = decide (x < y)
 | [], [] => by simp [Op.bytesLess]
 | _ :: _, [] => by simp [Op.bytesLess]
 | [], _ :: _ => by simp [Op.bytesLess]
 | a :: x, b :: y => by
  rw [Op.bytesLess, less_lt x y]
  simp only [List.cons_lt_cons_iff]
  by_cases h1 : a < b <;> by_cases h2 : a = b <;> by_cases h3 : x < y <;> simp [h1, h2, h3]

theorem less_trans {x y z : List UInt8} (h1 : Op.bytesLess x y = true) (h2 : Op.bytesLess y z = true) : Op.bytesLess x z = true := by
 rw [less_lt, decide_eq_true_eq] at *
 exact List.lt_trans h1 h2
theorem less_irrefl (x : List UInt8) : Op.bytesLess x x = false := by
 rw [less_lt, decide_eq_false_iff_not]
 exact List.lt_irrefl x
theorem less_leq (x y : List UInt8) : (Op.bytesLess x y || x == y) = !Op.bytesLess y x := by
 rw [less_lt, less_lt]
 by_cases h : y < x
 ·have h1 : ¬ x < y := fun h' => List.lt_irrefl x (List.lt_trans h' h)
  have h2 : x ≠ y := fun e => List.lt_irrefl x (by rw [e] at h ⊢; exact h)
  simp [h, h1, h2]
 ·by_cases h1 : x < y
  ·simp [h, h1]
  ·have e : x = y := List.le_antisymm (List.not_lt.1 h) (List.not_lt.1 h1)
   simp [e]

theorem labels_less {ls : List ByteArray} (h : LabelsOk ls) (i j : Nat) (hi : 1 ≤ i) (hij : i < j) (hj : j < ls.length) : strLess ls[i] ls[j] = true := by
 induction j with
 | zero => omega
 | succ j ih =>
  rcases Nat.lt_or_ge i j with hlt | hge
  ·exact less_trans (ih hlt (by omega)) (h.rise j hj (by omega))
  ·obtain rfl : i = j := by omega
   exact h.rise i hj hi
theorem labels_inj {ls : List ByteArray} (h : LabelsOk ls) (i j : Nat) (hi : i < ls.length) (hj : j < ls.length) (e : ls[i].toList = ls[j].toList) : i = j := by
 have key : ∀ i j (hi : i < ls.length) (hj : j < ls.length), ls[i].toList = ls[j].toList → ¬ i < j := by
  intro i j hi hj e hlt
  by_cases h0 : i = 0
  ·subst h0
   exact h.other j hj (by omega) (by rw [← e]; exact h.first hi)
  ·have := labels_less h i j (by omega) hlt hj
   unfold strLess at this
   rw [e, less_irrefl] at this
   cases this
 rcases Nat.lt_trichotomy i j with hlt | heq | hgt
 ·exact absurd hlt (key i j hi hj e)
 ·exact heq
 ·exact absurd hgt (key j i hj hi e.symm)

theorem labAt_idx {t : Lts} {e : Edge} (h : EdgeOk t e) : ∃ hlt : e.lab.toNat < t.labels.length, labAt t e = t.labels[e.lab.toNat] := by
 have h0 := h.l0
 have h1 := h.l1
 have hlt : e.lab.toNat < t.labels.length := by omega
 exact ⟨hlt, by unfold labAt; rw [List.getD_eq_getElem?_getD, List.getElem?_eq_getElem hlt]; rfl⟩

/-- The states behind the edges that a label's text takes. -/
def behind (p : Lts) (q : Int) (l : ByteArray) : List Int := (p.edges.filter (hitB p q l)).map Edge.dst
end Go.Proofs.YtjoacldbgnphkaaGreatDoor

namespace Go.Proofs.YtjoacldbgnphkaaGreatDoor
open Go Go.RowKit

theorem Index_ints (lo : Nat) (v : Value) (x : Int) (xs : List Int) (w : World) (hv : SliceK 1 encI lo w v xs) :
  Calls Tryz.prog 122 #[v, .int .i64 x] w fun e w' => ∃ r : Int, e = .returned (.int .i64 r) ∧ decide (0 ≤ r) = xs.any (fun y => y == x) ∧ w = w' := by
 obtain ⟨a, c, rfl, hcn, hcc, hrow⟩ := hv
 go_enter Tryz.func122, Tryz.ntmps122
 go_wp2_with fail
 go_loop [8] (fun i => ∃ k : Nat, k ≤ xs.length ∧ i = .int .i64 k ∧ ∀ j (h : j < xs.length), j < k → (x == xs[j]) = false) (fun i => xs.length - (intOf i).toNat)
 case atStart => exact ⟨0, Nat.zero_le _, rfl, fun _ _ h => by omega⟩
 case round =>
  obtain ⟨k, hk, rfl, ha⟩ := hrel
  have HA := Lib.hid ha
  clear ha
  by_cases hlt : k < xs.length
  ·obtain ⟨b1, o1, rfl, -, hbs, c1⟩ := hrow.one hlt
   simp only [encI, List.getElem?_cons_zero] at c1
   clear hrow
   cases h0 : (x == xs[k])
   ·have H0 := Lib.hid h0
    go_wp2_with fail
    go_round
    case rel => exact ⟨k + 1, by omega, by go_num, fun j h hj => by
     by_cases e : j = k
     ·subst e; exact H0.out
     ·exact HA.out j h (by omega)⟩
    case measure => simp [intOf]; omega
   ·have HF : Hid (xs.any (fun y => y == x) = true) := by
     unfold Hid
     rw [List.any_eq_true]
     exact ⟨xs[k], List.getElem_mem _, by rw [beq_iff_eq] at h0 ⊢; exact h0.symm⟩
    go_wp2_with fail
    go_ret
    exact ⟨_, rfl, by rw [HF.out]; simp, rfl⟩
  ·clear hrow
   go_wp2_with fail
   go_ret
   refine ⟨_, rfl, ?_, rfl⟩
   have : xs.any (fun y => y == x) = false := by
    rw [List.any_eq_false]
    intro y hy
    obtain ⟨j, hj, rfl⟩ := List.mem_iff_getElem.1 hy
    have := HA.out j hj (by omega)
    simp at this ⊢
    exact fun e => this e.symm
   rw [this]; simp

theorem Contains_ints (lo : Nat) (v : Value) (x : Int) (xs : List Int) (w : World) (hv : SliceK 1 encI lo w v xs) :
  Calls Tryz.prog 90 #[v, .int .i64 x] w fun e w' => e = .returned (.bool (xs.any fun y => y == x)) ∧ w = w' := by
 have HV := Lib.hid hv
 clear hv
 go_enter Tryz.func90, Tryz.ntmps90
 go_wp2_with fail
 refine (Index_ints lo v x xs _ HV.out).mono ?_
 rintro e w' ⟨r, rfl, hr, rfl⟩
 have HR := Lib.hid hr
 clear hr
 go_wp2_with fail
 go_ret
 exact ⟨ret_bool HR.out, rfl⟩

end Go.Proofs.YtjoacldbgnphkaaGreatDoor
