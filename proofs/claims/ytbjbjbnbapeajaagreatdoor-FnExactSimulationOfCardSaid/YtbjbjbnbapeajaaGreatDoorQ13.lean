/-
  The program's simulation, for all kinds: the greatest set of pairs by rounds over a map.
  What the implementation's functions on lists of values and on labels compute.
  What the implementation's readNumbers computes.
  What the implementation's joined computes.
  What the implementation's labelOf computes.
-/
import Derived.Test.YtbjbjbnbapeajaaGreatDoorQ11
import Derived.Test.YtbjbjbnbapeajaaGreatDoorQ12
import Derived.Test.YtbjbjbnbapeajaaGreatDoorQ9
import Derived.Test.YtbjbjbnbapeajaaGreatDoorQ5
namespace Go.Proofs.YtbjbjbnbapeajaaGreatDoor
open Go Go.RowKit

/-- The pairs of the start, up to a place. -/
def fillK (R : PairSet) (P x y : Nat) : List (Int × Int) := (pall P x ++ prow x y).filter fun q => R q.1 q.2
theorem fillK_zero (R : PairSet) (P : Nat) : fillK R P 0 0 = [] := by simp [fillK, pall, prow]
theorem fillK_row (R : PairSet) (P x : Nat) : fillK R P x P = fillK R P (x + 1) 0 := by
 unfold fillK
 rw [pall_succ]
 simp [prow]
theorem fillK_yes {R : PairSet} {P x y : Nat} (h : R x y = true) : fillK R P x (y + 1) = fillK R P x y ++ [((x : Int), (y : Int))] := by
 unfold fillK
 rw [prow_succ, ← List.append_assoc, List.filter_append]
 simp [h]
theorem fillK_no {R : PairSet} {P x y : Nat} (h : R x y = false) : fillK R P x (y + 1) = fillK R P x y := by
 unfold fillK
 rw [prow_succ, ← List.append_assoc, List.filter_append]
 simp [h]
theorem fillK_fresh {R : PairSet} {P x y : Nat} : ((x : Int), (y : Int)) ∉ fillK R P x y := fun h => pair_fresh (List.mem_filter.1 h).1
theorem fillK_len {R : PairSet} {P x y S : Nat} (hS : S ≤ 40) (hP : P ≤ 40) (hx : x < S) (hy : y < P) : (fillK R P x y).length ≤ 1000000 := Nat.le_trans (List.length_filter_le _ _) (fill_len hS hP hx hy)
theorem fillK_all {κ : Int} {a b : Lts} {S P : Nat} (hS : (S : Int) = a.states) (hP : (P : Int) = b.states) : setOf (fillK (okK κ a b) P S 0) = stK κ a b := by
 funext x y
 rw [Bool.eq_iff_iff, setOf_iff]
 unfold fillK stK
 rw [List.mem_filter, Bool.and_eq_true, allG_iff]
 have h0 : prow S 0 = [] := by simp [prow]
 rw [h0, List.append_nil, mem_pall, hS, hP]

set_option maxRecDepth 100000 in
set_option maxHeartbeats 4000000 in
theorem simulationK_any (lo S P : Nat) (κ : Int) (a b : Lts) (la ea lb eb : Value) (w : World) (hκ : 0 ≤ κ ∧ κ ≤ 2) (hva : Valid a) (hvb : Valid b) (hS : (S : Int) = a.states) (hP : (P : Int) = b.states)
  (hla : SliceK 1 encS lo w la a.labels) (hea : SliceK 3 encE lo w ea a.edges) (hlb : SliceK 1 encS lo w lb b.labels) (heb : SliceK 3 encE lo w eb b.edges) :
  Calls Tryz.prog 35 #[.agg #[.int .i64 a.states, .int .i64 a.initial, la, ea], .agg #[.int .i64 b.states, .int .i64 b.initial, lb, eb], .int .i64 κ] w fun e w' => ∃ (mb : Nat) (ps : List (Int × Int)) (m : Int), e = .returned (.tuple #[.map (some mb), .int .i64 m]) ∧ Below w.heap.size w w' ∧ PairMap w' mb ps ∧ GreatA (ansK κ a b) (stK κ a b) (setOf ps) ∧ (m < 0 ↔ (a.initial, b.initial) ∈ ps) := by
 obtain ⟨la1, la2, la3, rfl⟩ : ∃ p n c, la = .slice p n c := by obtain ⟨p, c, e, -⟩ := hla; exact ⟨_, _, _, e⟩
 obtain ⟨ea1, ea2, ea3, rfl⟩ : ∃ p n c, ea = .slice p n c := by obtain ⟨p, c, e, -⟩ := hea; exact ⟨_, _, _, e⟩
 obtain ⟨lb1, lb2, lb3, rfl⟩ : ∃ p n c, lb = .slice p n c := by obtain ⟨p, c, e, -⟩ := hlb; exact ⟨_, _, _, e⟩
 obtain ⟨eb1, eb2, eb3, rfl⟩ : ∃ p n c, eb = .slice p n c := by obtain ⟨p, c, e, -⟩ := heb; exact ⟨_, _, _, e⟩
 have hS40 : S ≤ 40 := by have := hva.st1; omega
 have hP40 : P ≤ 40 := by have := hvb.st1; omega
 have hi40 : Small2 (a.initial, b.initial) := ⟨⟨hva.in0, by have := hva.in1; have := hva.st1; show a.initial < 40; omega⟩, hvb.in0, by have := hvb.in1; have := hvb.st1; show b.initial < 40; omega⟩
 have hSIM : ∀ (caps : Array Value) (N : PairSet) (w' : World), Below w.heap.size w w' → HasFn 63 caps N w' → ∀ x y : Int, (0 ≤ y ∧ y < b.states) →
   Calls Tryz.prog 64 #[.agg #[.int .i64 a.states, .int .i64 a.initial, .slice la1 la2 la3, .slice ea1 ea2 ea3, .int .i64 b.states, .int .i64 b.initial, .slice lb1 lb2 lb3, .slice eb1 eb2 eb3, .func (.func 63) #[] caps], .int .i64 κ, .int .i64 x, .int .i64 y] w' fun e w'' => e = .returned (.bool (simK κ a b N x y)) ∧ Below w'.heap.size w' w'' :=
  fun caps N w' hb' hH x y hy => simulated_any lo 63 κ caps N a b _ _ _ _ x y w' hva hvb hκ hy (hla.below hb') (hea.below hb') (hlb.below hb') (heb.below hb') (fun args w => by kernel_rfl) hH
 have hRA : ∀ (w' : World) (x : Int), Below w.heap.size w w' → Calls Tryz.prog 62 #[.agg #[.int .i64 a.states, .int .i64 a.initial, .slice la1 la2 la3, .slice ea1 ea2 ea3], .int .i64 x] w' (MadeTxQ (rdyQ a x) w') := fun w' x hb' => readyQ_any lo a _ _ x w' hva (hla.below hb') (hea.below hb')
 have hRB : ∀ (w' : World) (y : Int), Below w.heap.size w w' → Calls Tryz.prog 62 #[.agg #[.int .i64 b.states, .int .i64 b.initial, .slice lb1 lb2 lb3, .slice eb1 eb2 eb3], .int .i64 y] w' (MadeTxQ (rdyQ b y) w') := fun w' y hb' => readyQ_any lo b _ _ y w' hvb (hlb.below hb') (heb.below hb')
 have hz1 : ∀ x, (rdyQ a x).length ≤ 1048576 := fun x => by rw [rdyTo_all hva]; have := rdyTo_len a x a.labels.length; have := hva.labels.most; omega
 have hz2 : ∀ y, (rdyQ b y).length ≤ 1048576 := fun y => by rw [rdyTo_all hvb]; have := rdyTo_len b y b.labels.length; have := hvb.labels.most; omega
 have hEQ : ∀ (w' : World) (l1 l2 : Nat) (v1 v2 : Value) (x y : Int), SliceK 1 encS l1 w' v1 (rdyQ a x) → SliceK 1 encS l2 w' v2 (rdyQ b y) → Calls Tryz.prog 61 #[v1, v2] w' fun e w'' => ∃ c : Bool, e = .returned (.bool c) ∧ (c = true ↔ rdyQ a x = rdyQ b y) ∧ Below w'.heap.size w' w'' :=
  fun w' l1 l2 v1 v2 x y h1 h2 => EqualS_any l1 l2 v1 v2 _ _ w' h1 h2 (hz1 x) (hz2 y)
 obtain ⟨A, hAA⟩ : ∃ A, A = simK κ a b := ⟨_, rfl⟩
 have hA : MonoA A := by rw [hAA]; exact simK_mono κ a b
 rw [← hAA] at hSIM
 obtain ⟨R, hRR⟩ : ∃ R, R = okK κ a b := ⟨_, rfl⟩
 have HAA := Lib.hid hAA
 have HRR := Lib.hid hRR
 have HRA := Lib.hid hRA
 have HRB := Lib.hid hRB
 have HEQ := Lib.hid hEQ
 obtain ⟨ab, hab⟩ : ∃ ab, ab = w.heap.size := ⟨_, rfl⟩
 obtain ⟨bb, hbb⟩ : ∃ bb, bb = w.heap.size + 1 := ⟨_, rfl⟩
 obtain ⟨m0, hm0⟩ : ∃ m0, m0 = w.heap.size + 1 + 1 := ⟨_, rfl⟩
 obtain ⟨nb, hnb⟩ : ∃ nb, nb = w.heap.size + 1 + 1 + 1 := ⟨_, rfl⟩
 obtain ⟨W, hW⟩ : ∃ W, W = (((w.alloc (.cells #[.int .i64 a.states, .int .i64 a.initial, (.slice la1 la2 la3), (.slice ea1 ea2 ea3)] 29)).alloc (.cells #[.int .i64 b.states, .int .i64 b.initial, (.slice lb1 lb2 lb3), (.slice eb1 eb2 eb3)] 29)).alloc (.map #[] 0)).alloc (.cells #[.map (some (w.heap.size + 1 + 1))] 64) := ⟨_, rfl⟩
 have hb0 : Below w.heap.size w W := by rw [hW]; exact ((((Below.refl _ _).alloc (Nat.le_refl _) _).alloc (by simp) _).alloc (by simp; omega) _).alloc (by simp; omega) _
 have hM : SetMap W m0 [] := by
  have h := SetMap.made ((w.alloc (.cells #[.int .i64 a.states, .int .i64 a.initial, (.slice la1 la2 la3), (.slice ea1 ea2 ea3)] 29)).alloc (.cells #[.int .i64 b.states, .int .i64 b.initial, (.slice lb1 lb2 lb3), (.slice eb1 eb2 eb3)] 29))
  rw [World.size_alloc, World.size_alloc, ← hm0] at h
  rw [hW]
  exact h.below ((Below.refl _ _).alloc (Nat.le_refl _) _)
 have hSW : SimW ab bb nb m0 a b (.slice la1 la2 la3) (.slice ea1 ea2 ea3) (.slice lb1 lb2 lb3) (.slice eb1 eb2 eb3) [] w W := by
  refine ⟨hb0, by omega, by omega, ?_, ?_, ?_, ⟨hM, List.nodup_nil, fun q hq => by cases hq⟩⟩
  ·rw [hW, hab]; exact (((Blk.new w _ _).alloc _).alloc _).alloc _
  ·have h := ((Blk.new (w.alloc (.cells #[.int .i64 a.states, .int .i64 a.initial, (.slice la1 la2 la3), (.slice ea1 ea2 ea3)] 29)) [.int .i64 b.states, .int .i64 b.initial, (.slice lb1 lb2 lb3), (.slice eb1 eb2 eb3)] 29).alloc (.map #[] 0)).alloc (.cells #[.map (some (w.heap.size + 1 + 1))] 64)
   rw [World.size_alloc, ← hbb] at h
   rw [hW, ← hbb]
   exact h
  ·have h := Blk.new (((w.alloc (.cells #[.int .i64 a.states, .int .i64 a.initial, (.slice la1 la2 la3), (.slice ea1 ea2 ea3)] 29)).alloc (.cells #[.int .i64 b.states, .int .i64 b.initial, (.slice lb1 lb2 lb3), (.slice eb1 eb2 eb3)] 29)).alloc (.map #[] 0)) [.map (some (w.heap.size + 1 + 1))] 64
   rw [World.size_alloc, World.size_alloc, World.size_alloc, ← hnb, ← hm0] at h
   rw [hW, ← hm0]
   exact h
 have HSW := Lib.hid hSW
 have HW := Lib.hid hW
 have HAB := Lib.hid hab
 have HBB := Lib.hid hbb
 have HM0 := Lib.hid hm0
 have HNB := Lib.hid hnb
 have HA := Lib.hid hA
 have HI := Lib.hid hi40
 have HSIM := Lib.hid hSIM
 have HSS := Lib.hid hS
 have HPP := Lib.hid hP
 have HALL : Hid (setOf (fillK R P S 0) = stK κ a b) := by unfold Hid; rw [hRR]; exact fillK_all hS hP
 have hx0 := hSW.one.cell 0 rfl
 rw [← hS, hW, hab] at hx0
 have hmm := @run_makeMap Tryz.prog
 clear hA hAA hRR hRA hRB hEQ hz1 hz2 hκ hva hvb hla hea hlb heb hSIM hi40 hab hbb hm0 hnb hW hb0 hM hSW hS hP
 go_enter Tryz.func35, Tryz.ntmps35
 go_wp2_with fail
 rw [← HW.out]
 rw [← HNB.out, ← HM0.out, ← HBB.out, ← HAB.out]
 clear hx0
 go_loopw [20] (fun v20 wr => ∃ x : Nat, x ≤ S ∧ v20 = .int .i64 x ∧ SimW ab bb nb m0 a b (.slice la1 la2 la3) (.slice ea1 ea2 ea3) (.slice lb1 lb2 lb3) (.slice eb1 eb2 eb3) (fillK R P x 0) w wr) (fun v20 _ => S - (intOf v20).toNat)
 case atStart => exact ⟨0, Nat.zero_le _, rfl, by rw [fillK_zero]; exact HSW.out⟩
 case round =>
  clear HSW
  obtain ⟨x, hx, rfl, hsw⟩ := hrel
  obtain ⟨wC, rfl⟩ : ∃ wC : World, wC = wr := ⟨_, rfl⟩
  have HC := Lib.hid hsw
  by_cases hlt : x < S
  ·have hxi : (x : Int) < (S : Int) := by omega
   have p0 := hsw.two.cell 0 rfl
   rw [← HPP.out] at p0
   clear hsw
   go_wp2
   go_loopw [25] (fun v25 wr => ∃ y : Nat, y ≤ P ∧ v25 = .int .i64 y ∧ SimW ab bb nb m0 a b (.slice la1 la2 la3) (.slice ea1 ea2 ea3) (.slice lb1 lb2 lb3) (.slice eb1 eb2 eb3) (fillK R P x y) w wr) (fun v25 _ => P - (intOf v25).toNat)
   case atStart => exact ⟨0, Nat.zero_le _, rfl, HC.out⟩
   case round =>
    clear p0
    obtain ⟨y, hy, rfl, hsw⟩ := hrel
    obtain ⟨wD, rfl⟩ : ∃ wD : World, wD = wr := ⟨_, rfl⟩
    have HD := Lib.hid hsw
    clear hsw
    by_cases hlt2 : y < P
    ·have hyi : (y : Int) < (P : Int) := by omega
     by_cases hk1 : κ = 1
     ·have hro : R x y = decide (rdyQ a x = rdyQ b y) := by
       rw [HRR.out]
       unfold okK
       rw [hk1]
       rfl
      have HRO := Lib.hid hro
      have hD : Below wD.heap.size wD wD.drew := (Below.refl _ _).drew
      have HDD := Lib.hid hD
      have hbwD : Below w.heap.size w wD.drew := HD.out.bel.trans (hD.mono HD.out.bel.size)
      have HR1 := Lib.hid (HRA.out wD.drew x hbwD)
      have HR2 : Hid (∀ w', Below wD.heap.size wD w' → Calls Tryz.prog 62 #[.agg #[.int .i64 b.states, .int .i64 b.initial, .slice lb1 lb2 lb3, .slice eb1 eb2 eb3], .int .i64 y] w' (MadeTxQ (rdyQ b y) w')) := fun w' h => HRB.out w' y (HD.out.bel.trans (h.mono HD.out.bel.size))
      have HSWp : Hid (∀ w', Below wD.heap.size wD w' → w'.cell? ⟨ab, 0, none⟩ = some (.int .i64 a.states) ∧ w'.cell? ⟨ab, 1, none⟩ = some (.int .i64 a.initial) ∧ w'.cell? ⟨ab, 2, none⟩ = some (.slice la1 la2 la3) ∧ w'.cell? ⟨ab, 3, none⟩ = some (.slice ea1 ea2 ea3) ∧ w'.cell? ⟨bb, 0, none⟩ = some (.int .i64 b.states) ∧ w'.cell? ⟨bb, 1, none⟩ = some (.int .i64 b.initial) ∧ w'.cell? ⟨bb, 2, none⟩ = some (.slice lb1 lb2 lb3) ∧ w'.cell? ⟨bb, 3, none⟩ = some (.slice eb1 eb2 eb3)) := fun w' h =>
       ⟨(HD.out.one.below h).cell 0 rfl, (HD.out.one.below h).cell 1 rfl, (HD.out.one.below h).cell 2 rfl, (HD.out.one.below h).cell 3 rfl, (HD.out.two.below h).cell 0 rfl, (HD.out.two.below h).cell 1 rfl, (HD.out.two.below h).cell 2 rfl, (HD.out.two.below h).cell 3 rfl⟩
      clear hro hD hbwD
      subst hk1
      go_wp2
      go_region_held3 (fun w' => w'.cell? ⟨ab, 0, none⟩ = some (.int .i64 a.states) ∧ w'.cell? ⟨ab, 1, none⟩ = some (.int .i64 a.initial) ∧ w'.cell? ⟨ab, 2, none⟩ = some (.slice la1 la2 la3) ∧ w'.cell? ⟨ab, 3, none⟩ = some (.slice ea1 ea2 ea3) ∧ w'.cell? ⟨bb, 0, none⟩ = some (.int .i64 b.states) ∧ w'.cell? ⟨bb, 1, none⟩ = some (.int .i64 b.initial) ∧ w'.cell? ⟨bb, 2, none⟩ = some (.slice lb1 lb2 lb3) ∧ w'.cell? ⟨bb, 3, none⟩ = some (.slice eb1 eb2 eb3))
       (first
        | with_reducible exact HSWp.out _ HDD.out
        | with_reducible exact HSWp.out _ hq1
        | with_reducible exact HSWp.out _ hq2
        | with_reducible exact HSWp.out _ hq3
        | go_keep)
       (first
        | (go_at_call_of 62 (Value.agg #[Value.int .i64 a.states, Value.int .i64 a.initial, Value.slice la1 la2 la3, Value.slice ea1 ea2 ea3]); refine Calls.mono HR1.out ?_; rintro e w1 ⟨v1, rfl, hb1, ho1⟩; have hq1 : Below wD.heap.size wD w1 := HDD.out.trans (hb1.mono (by simp)))
        | (go_at_call_of 62 (Value.agg #[Value.int .i64 b.states, Value.int .i64 b.initial, Value.slice lb1 lb2 lb3, Value.slice eb1 eb2 eb3]); refine Calls.mono (HR2.out _ hq1) ?_; rintro e w2 ⟨v2, rfl, hb2, ho2⟩; have hq2 : Below wD.heap.size wD w2 := hq1.trans (hb2.mono hq1.size))
        | (go_at_call 61; refine Calls.mono (HEQ.out _ _ _ _ _ _ _ (ho1.at.below hb2) ho2.at) ?_; rintro e w3 ⟨tc, rfl, htc, hb3⟩; have hq3 : Below wD.heap.size wD w3 := hq2.trans (hb3.mono hq2.size))
        | fail)
      all_goals (
       have HTC := Lib.hid htc
       have HN := Lib.hid (HD.out.below hq3)
       clear hb1 ho1 hq1 hb2 ho2 hq2 hb3 htc hq3 HR1 HR2 HSWp
       cases tc
       ·have HNO : Hid (fillK R P x (y + 1) = fillK R P x y) := fillK_no (by rw [HRO.out]; exact decide_eq_false (fun h => by have := HTC.out.2 h; cases this))
        go_wp2
        go_roundw
        case rel => exact ⟨y + 1, by omega, by go_num, by rw [HNO.out]; exact HN.out⟩
        case measure => simp [intOf]; omega
       ·have HYES : Hid (fillK R P x (y + 1) = fillK R P x y ++ [((x : Int), (y : Int))]) := fillK_yes (by rw [HRO.out]; exact decide_eq_true (HTC.out.1 rfl))
        obtain ⟨w', hup, hsw'⟩ := HN.out.push (small_nat (by omega) (by omega)) fillK_fresh (fillK_len hS40 hP40 hlt hlt2)
        have n0 := HN.out.name.cell 0 rfl
        have HN2 := Lib.hid hsw'
        clear hsw'
        go_wp2
        go_roundw
        case rel => exact ⟨y + 1, by omega, by go_num, by rw [HYES.out]; exact HN2.out⟩
        case measure => simp [intOf]; omega)
     ·have hkb : (κ != 1) = true := by simpa using hk1
      have HYES : Hid (fillK R P x (y + 1) = fillK R P x y ++ [((x : Int), (y : Int))]) := fillK_yes (by rw [HRR.out]; unfold okK; rw [hkb, Bool.true_or])
      clear hk1
      go_wp2
      refine wp_region_later (by kernel_rfl) (by kernel_rfl) ?_
      repeat (go_big_quiet_step ((fail)))
      refine wpQuiet_nil ?_
      intro _ hw9
      obtain ⟨nl, hw8⟩ := hw9
      subst hw8
      have HN := Lib.hid (HD.out.below nl.h)
      obtain ⟨w', hup, hsw'⟩ := HN.out.push (small_nat (by omega) (by omega)) fillK_fresh (fillK_len hS40 hP40 hlt hlt2)
      have n0 := HN.out.name.cell 0 rfl
      have HN2 := Lib.hid hsw'
      clear hsw'
      go_wp2
      go_roundw
      case rel => exact ⟨y + 1, by omega, by go_num, by rw [HYES.out]; exact HN2.out⟩
      case measure => simp [intOf]; omega
    ·have HY : Hid (y = P) := Lib.hid (show y = P by omega)
     go_wp2
     go_roundw
     case rel => exact ⟨x + 1, by omega, by go_num, by have h := HD.out; rw [HY.out, fillK_row] at h; exact h⟩
     case measure => simp [intOf]; omega
  ·have HXS : Hid (x = S) := Lib.hid (show x = S by omega)
   have a1 := hsw.one.cell 1 rfl
   have b1 := hsw.two.cell 1 rfl
   obtain ⟨ps0, hps0⟩ : ∃ ps0, ps0 = fillK R P S 0 := ⟨_, rfl⟩
   have HPS := Lib.hid hps0
   have HSC : Hid (SimW ab bb nb m0 a b (.slice la1 la2 la3) (.slice ea1 ea2 ea3) (.slice lb1 lb2 lb3) (.slice eb1 eb2 eb3) ps0 w wC) := by unfold Hid; rw [hps0, ← HXS.out]; exact hsw
   have HLE : Hid (ps0.length ≤ 1600) := by
    unfold Hid
    rw [hps0]
    unfold fillK
    refine Nat.le_trans (List.length_filter_le _ _) ?_
    rw [List.length_append, pall_len]
    have h1 : (prow S 0).length = 0 := by simp [prow]
    have h2 := Nat.mul_le_mul hS40 hP40
    omega
   have HAB0 : Hid (AboveA A (stK κ a b) (setOf ps0)) := by unfold Hid; rw [hps0, HALL.out]; exact AboveA.start _ _
   obtain ⟨W3, hW3⟩ : ∃ W3, W3 = wC.alloc (.cells #[.int .i64 a.initial, .int .i64 b.initial] 92) := ⟨_, rfl⟩
   obtain ⟨fb, hfb⟩ : ∃ fb, fb = wC.heap.size := ⟨_, rfl⟩
   have HS3 : Hid (SimW ab bb nb m0 a b (.slice la1 la2 la3) (.slice ea1 ea2 ea3) (.slice lb1 lb2 lb3) (.slice eb1 eb2 eb3) ps0 w W3) := by unfold Hid; rw [hW3]; exact HSC.out.below ((Below.refl _ _).alloc (Nat.le_refl _) _)
   have HF3 : Hid (Blk W3 fb [.int .i64 a.initial, .int .i64 b.initial] 92) := by unfold Hid; rw [hW3, hfb]; exact Blk.new _ _ _
   have HW3 := Lib.hid hW3
   have HFB := Lib.hid hfb
   obtain ⟨ai, hai⟩ : ∃ ai, ai = a.initial := ⟨_, rfl⟩
   obtain ⟨bi, hbi⟩ : ∃ bi, bi = b.initial := ⟨_, rfl⟩
   rw [← hai, ← hbi] at HW3 HF3 HI
   rw [← hai] at a1
   rw [← hbi] at b1
   have HAI := Lib.hid hai
   have HBI := Lib.hid hbi
   clear hsw hps0 hW3 hfb HC hx hai hbi
   go_wp2
   rw [← HW3.out, ← HFB.out]
   clear a1 b1
   go_loopg [12, 13] 1601 (fun gk v12 v13 wr => ∃ (mb : Nat) (ps : List (Int × Int)) (m r : Int), v12 = .int .i64 m ∧ v13 = .int .i64 r ∧ 0 ≤ r ∧ r + gk ≤ 1601 ∧ ps.length ≤ gk ∧ SimW ab bb nb mb a b (.slice la1 la2 la3) (.slice ea1 ea2 ea3) (.slice lb1 lb2 lb3) (.slice eb1 eb2 eb3) ps w wr ∧ Blk wr fb [.int .i64 ai, .int .i64 bi] 92 ∧ AboveA A (stK κ a b) (setOf ps) ∧ (m = -1 ∨ (0 ≤ m ∧ (ai, bi) ∉ ps)))
   case atStart => exact ⟨m0, ps0, -1, 0, rfl, rfl, by omega, by omega, Nat.le_succ_of_le HLE.out, HS3.out, HF3.out, HAB0.out, .inl rfl⟩
   case round =>
    clear HS3 HF3 HAB0 HLE HSC HPS HXS
    obtain ⟨mb, ps, m, r, rfl, rfl, hr0, hrg, hgk, hsw, hf, hab, hm⟩ := hrel
    obtain ⟨wE, rfl⟩ : ∃ wE : World, wE = wr := ⟨_, rfl⟩
    have HS := Lib.hid hsw
    have HF := Lib.hid hf
    have HAB2 := Lib.hid hab
    have HGK : Hid (r + gk ≤ 1601 ∧ ps.length ≤ gk) := ⟨hrg, hgk⟩
    have hr1 : r ≤ 1601 := by omega
    have n0 := hsw.name.cell 0 rfl
    have f0 := hf.cell 0 rfl
    have f1 := hf.cell 1 rfl
    have hlk := hsw.map.lookLit HI.out
    have hm2 : (m < 0 ∧ (ai, bi) ∈ ps) ∨ (m < 0 ∧ (ai, bi) ∉ ps) ∨ (¬ m < 0 ∧ (ai, bi) ∉ ps) := by
     rcases hm with h | ⟨h, h2⟩
     ·by_cases h3 : (ai, bi) ∈ ps
      ·exact .inl ⟨by omega, h3⟩
      ·exact .inr (.inl ⟨by omega, h3⟩)
     ·exact .inr (.inr ⟨by omega, h2⟩)
    have HM := Lib.hid hm
    have HR0 := Lib.hid hr0
    have a0 := hsw.one.cell 0 rfl
    have a1 := hsw.one.cell 1 rfl
    have a2 := hsw.one.cell 2 rfl
    have a3 := hsw.one.cell 3 rfl
    have b0 := hsw.two.cell 0 rfl
    have b1 := hsw.two.cell 1 rfl
    have b2 := hsw.two.cell 2 rfl
    have b3 := hsw.two.cell 3 rfl
    have hnl := hsw.name.lt
    have HPN := Lib.hid hsw.map.nodup
    have HPM := Lib.hid hsw.map.small
    have HML : Hid (mb < wE.heap.size) := hsw.map.map.lt
    have HLOW := Lib.hid hsw.bel.size
    obtain ⟨rbx, hrbx⟩ : ∃ rbx, rbx = wE.heap.size := ⟨_, rfl⟩
    obtain ⟨nm, hnm⟩ : ∃ nm, nm = wE.heap.size + 1 := ⟨_, rfl⟩
    obtain ⟨ir, hir⟩ : ∃ ir, ir = wE.heap.size + 1 + 1 := ⟨_, rfl⟩
    obtain ⟨PL, hPL⟩ : ∃ PL, PL = ps.length := ⟨_, rfl⟩
    have e1 : ((wE.alloc (.cells #[.int .i64 a.states, .int .i64 a.initial, (.slice la1 la2 la3), (.slice ea1 ea2 ea3), .int .i64 b.states, .int .i64 b.initial, (.slice lb1 lb2 lb3), (.slice eb1 eb2 eb3), .func (.func 63) #[] #[.pointer (some ⟨nb, 0, none⟩)]] 95)).alloc (.map #[] 0)).heap.size = wE.heap.size + 1 + 1 := by simp
    obtain ⟨W5, hW5⟩ : ∃ W5, W5 = (wE.alloc (.cells #[.int .i64 a.states, .int .i64 a.initial, (.slice la1 la2 la3), (.slice ea1 ea2 ea3), .int .i64 b.states, .int .i64 b.initial, (.slice lb1 lb2 lb3), (.slice eb1 eb2 eb3), .func (.func 63) #[] #[.pointer (some ⟨nb, 0, none⟩)]] 95)).alloc (.map #[] 0) := ⟨_, rfl⟩
    rw [← hW5] at e1
    have HE1 := Lib.hid e1
    obtain ⟨W6, hW6⟩ : ∃ W6, W6 = W5.alloc (.mapIter (some mb) PL #[] PL) := ⟨_, rfl⟩
    have hb5 : Below wE.heap.size wE W5 := by rw [hW5]; exact ((Below.refl _ _).alloc (Nat.le_refl _) _).alloc (by simp) _
    have hb56 : Below W5.heap.size W5 W6 := by rw [hW6]; exact (Below.refl _ _).alloc (Nat.le_refl _) _
    have hb6 : Below wE.heap.size wE W6 := hb5.trans (hb56.mono hb5.size)
    have HM5 : Hid (PairMap W5 mb ps) := hsw.map.below hb5
    have HS6 : Hid (SimW ab bb nb mb a b (.slice la1 la2 la3) (.slice ea1 ea2 ea3) (.slice lb1 lb2 lb3) (.slice eb1 eb2 eb3) ps w W6) := hsw.below hb6
    have HF6 : Hid (Blk W6 fb [.int .i64 ai, .int .i64 bi] 92) := hf.below hb6
    have HR6 : Hid (Blk W6 rbx [.int .i64 a.states, .int .i64 a.initial, (.slice la1 la2 la3), (.slice ea1 ea2 ea3), .int .i64 b.states, .int .i64 b.initial, (.slice lb1 lb2 lb3), (.slice eb1 eb2 eb3), .func (.func 63) #[] #[.pointer (some ⟨nb, 0, none⟩)]] 95) := by
     unfold Hid
     rw [hrbx]
     have h := (Blk.new wE [.int .i64 a.states, .int .i64 a.initial, (.slice la1 la2 la3), (.slice ea1 ea2 ea3), .int .i64 b.states, .int .i64 b.initial, (.slice lb1 lb2 lb3), (.slice eb1 eb2 eb3), .func (.func 63) #[] #[.pointer (some ⟨nb, 0, none⟩)]] 95).alloc (.map #[] 0)
     have h2 : Blk W5 wE.heap.size [.int .i64 a.states, .int .i64 a.initial, (.slice la1 la2 la3), (.slice ea1 ea2 ea3), .int .i64 b.states, .int .i64 b.initial, (.slice lb1 lb2 lb3), (.slice eb1 eb2 eb3), .func (.func 63) #[] #[.pointer (some ⟨nb, 0, none⟩)]] 95 := by rw [hW5]; exact h
     exact h2.below hb56
    have HN6 : Hid (PairMap W6 nm []) := by
     have h := SetMap.made (wE.alloc (.cells #[.int .i64 a.states, .int .i64 a.initial, (.slice la1 la2 la3), (.slice ea1 ea2 ea3), .int .i64 b.states, .int .i64 b.initial, (.slice lb1 lb2 lb3), (.slice eb1 eb2 eb3), .func (.func 63) #[] #[.pointer (some ⟨nb, 0, none⟩)]] 95))
     rw [World.size_alloc, ← hnm, ← hW5] at h
     exact ⟨h.below hb56, List.nodup_nil, fun q hq => by cases hq⟩
    have HI6 : Hid (IterG W6 ir mb PL #[]) := by
     have h := IterG.start W5 mb PL
     rw [← hW6, e1, ← hir] at h
     exact h
    have HW5 := Lib.hid hW5
    have HW6 := Lib.hid hW6
    have HRBX := Lib.hid hrbx
    have HNM := Lib.hid hnm
    have HIR := Lib.hid hir
    have HPL := Lib.hid hPL
    have HMN : Hid (mb ≠ nm) := by unfold Hid; have := HML.out; omega
    have hwn : w.heap.size ≤ nm := by have := HLOW.out; omega
    have hwi : w.heap.size ≤ ir := by have := HLOW.out; omega
    clear hsw hf hab hrg hgk hm hrbx hnm hir hPL hb5 hb56 hb6 hW5 hW6 e1
    have hpart : (m < 0 ∧ (ai, bi) ∈ ps) ∨ (m < 0 ∧ (ai, bi) ∉ ps) ∨ (¬ m < 0 ∧ (ai, bi) ∉ ps) := hm2
    clear hm2
    rcases hpart with ⟨h1, h2⟩ | ⟨h1, h2⟩ | ⟨h1, h2⟩
    case' inl =>
     have HMO : Hid (MissOk (ai, bi) ps m) := by
      rcases HM.out with h | ⟨h, -⟩
      ·exact .inl ⟨h, h2⟩
      ·exact absurd h1 (by omega)
     rw [decide_eq_true h2] at hlk
     have h3 : decide (m < 0) = true := decide_eq_true h1
     clear h2
    case' inr.inl =>
     have HMO : Hid (MissOk (ai, bi) ps r) := .inr ⟨HR0.out, h2⟩
     rw [decide_eq_false h2] at hlk
     have h3 : decide (m < 0) = true := decide_eq_true h1
     clear h2
    case' inr.inr =>
     have HMO : Hid (MissOk (ai, bi) ps m) := .inr ⟨by omega, h2⟩
     have h3 : decide (m < 0) = false := decide_eq_false h1
     clear h2 hlk
    all_goals (
     go_wp2_with (at_range; refine wpList_range_pairs rfl _ rfl rfl (by rw [← HW5.out]; exact HM5.out) ?_)
     try go_frame
     rw [← HW5.out]
     try rw [HE1.out]
     rw [← HIR.out, ← HNM.out, ← HRBX.out, ← HPL.out, ← HW6.out]
     clear a0 a1 a2 a3 b0 b1 b2 b3 n0 f0 f1
     go_loopg [68] 1601 (fun gk2 v68 wr => ∃ (seen : Array Nat) (qs : List (Int × Int)), PL - seen.size ≤ gk2 ∧ KeptSo (fun q => A (setOf ps) q.1 q.2) ps qs seen ∧ SimW ab bb nb mb a b (.slice la1 la2 la3) (.slice ea1 ea2 ea3) (.slice lb1 lb2 lb3) (.slice eb1 eb2 eb3) ps w wr ∧ Blk wr fb [.int .i64 ai, .int .i64 bi] 92 ∧ Blk wr rbx [.int .i64 a.states, .int .i64 a.initial, .slice la1 la2 la3, .slice ea1 ea2 ea3, .int .i64 b.states, .int .i64 b.initial, .slice lb1 lb2 lb3, .slice eb1 eb2 eb3, .func (.func 63) #[] #[.pointer (some ⟨nb, 0, none⟩)]] 95 ∧ PairMap wr nm qs ∧ IterG wr ir mb PL seen)
     case atStart => exact ⟨#[], [], by have := HGK.out; have := HPL.out; simp; omega, KeptSo.start _ _, HS6.out, HF6.out, HR6.out, HN6.out, HI6.out⟩
     case round =>
      clear HS6 HF6 HR6 HN6 HI6 HM5
      obtain ⟨seen, qs, hgk2, hks, hsw, hf, hrr, hn, hit⟩ := hrel
      obtain ⟨wF, rfl⟩ : ∃ wF : World, wF = wr := ⟨_, rfl⟩
      have HKS := Lib.hid hks
      have HSF := Lib.hid hsw
      have HFF := Lib.hid hf
      have HRF := Lib.hid hrr
      have HNF := Lib.hid hn
      have HIF := Lib.hid hit
      have HGK2 := Lib.hid hgk2
      clear hgk2 hks hsw hf hrr hn hit
      go_wp2_with (first
       | (at_next; refine wpList_next_pairs rfl _ rfl rfl HSF.out.map (by rw [← HPL.out]; exact HIF.out) ?_ ?_)
       | fail)
      ·intro hall
       have HKA : Hid (KeptA A ps qs) := HKS.out.all hall
       have n0 := HSF.out.name.cell 0 rfl
       have len1 := fun ty => HNF.out.len ty
       have len2 := fun ty => HSF.out.map.len ty
       obtain ⟨QL, hQL⟩ : ∃ QL, QL = qs.length := ⟨_, rfl⟩
       rw [← hQL] at len1
       rw [← HPL.out] at len2
       have HQL := Lib.hid hQL
       clear hall hQL
       by_cases hq : QL = PL
       ·have hqb : ((QL : Int) == (PL : Int)) = true := by subst hq; simp
        have HGR : Hid (GreatA A (stK κ a b) (setOf ps)) := HKA.out.done HNF.out.nodup HAB2.out (by rw [← HQL.out, ← HPL.out]; exact hq)
        clear hq
        go_wp2
        go_ret2
        exact ⟨mb, ps, _, rfl, HSF.out.bel, HSF.out.map, simK_great (by rw [← HAA.out]; exact HGR.out), by rw [← HAI.out, ← HBI.out]; exact HMO.out.iff⟩
       ·have hqb : ((QL : Int) == (PL : Int)) = false := by simp; omega
        have HLT : Hid (qs.length < ps.length) := by
         unfold Hid
         have h1 := HKA.out.len HNF.out.nodup
         have h2 := HQL.out
         have h3 := HPL.out
         omega
        have HST := Lib.hid (HSF.out.turn HNF.out hwn)
        have HFT : Hid (Blk (wF.setCell ⟨nb, 0, none⟩ (.map (some nm))) fb [.int .i64 ai, .int .i64 bi] 92) := blk_grown HFF.out (grown_setCell wF ⟨nb, 0, none⟩ _) (blk_type_ne HFF.out HSF.out.name (by decide))
        have HABN : Hid (AboveA A (stK κ a b) (setOf qs)) := HKA.out.next HA.out HAB2.out
        have n1 := HSF.out.name.frozen 0
        clear hq
        go_wp2
        go_roundg qs.length
        case measure => have := HLT.out; have := HGK.out; omega
        case rel => exact ⟨nm, qs, _, r + 1, rfl, by go_num, by have := HR0.out; omega, by have := HLT.out; have := HGK.out; omega, Nat.le_refl _, HST.out, HFT.out, HABN.out, HMO.out.next HKA.out⟩
      ·intro i hi x2 y2 w1 hxy hns hit1 hg1 hen
       rw [← HPL.out] at hit1
       have hmem : (x2, y2) ∈ ps := by rw [← hxy]; exact List.getElem_mem hi
       have hy2 : 0 ≤ y2 ∧ y2 < b.states := by have h := (stK_range HSS.out HPP.out x2 y2 (HAB2.out.low x2 y2 (setOf_iff.2 hmem))).2; rw [HPP.out] at h; exact h
       have hsm : Small2 (x2, y2) := HPM.out (x2, y2) (by rw [← hxy]; exact List.getElem_mem hi)
       have hs1 : SimW ab bb nb mb a b (.slice la1 la2 la3) (.slice ea1 ea2 ea3) (.slice lb1 lb2 lb3) (.slice eb1 eb2 eb3) ps w w1 := HSF.out.iter HIF.out hg1 hwi
       have hf1 := blk_grown HFF.out hg1 (blk_iter_ne HFF.out HIF.out)
       have hr1 := blk_grown HRF.out hg1 (blk_iter_ne HRF.out HIF.out)
       have hn1 : PairMap w1 nm qs := HNF.out.kept hg1 (by simpa using set_iter_ne HNF.out.map HIF.out)
       have hb2 : Below w1.heap.size w1 (w1.alloc (.cells #[.int .i64 x2, .int .i64 y2] 92)) := (Below.refl _ _).alloc (Nat.le_refl _) _
       obtain ⟨W8, hW8⟩ : ∃ W8, W8 = w1.alloc (.cells #[.int .i64 x2, .int .i64 y2] 92) := ⟨_, rfl⟩
       obtain ⟨pb, hpb⟩ : ∃ pb, pb = w1.heap.size := ⟨_, rfl⟩
       rw [← hW8] at hb2
       have HS8 : Hid (SimW ab bb nb mb a b (.slice la1 la2 la3) (.slice ea1 ea2 ea3) (.slice lb1 lb2 lb3) (.slice eb1 eb2 eb3) ps w W8) := hs1.below hb2
       have HF8 : Hid (Blk W8 fb [.int .i64 ai, .int .i64 bi] 92) := hf1.below hb2
       have HR8 : Hid (Blk W8 rbx [.int .i64 a.states, .int .i64 a.initial, .slice la1 la2 la3, .slice ea1 ea2 ea3, .int .i64 b.states, .int .i64 b.initial, .slice lb1 lb2 lb3, .slice eb1 eb2 eb3, .func (.func 63) #[] #[.pointer (some ⟨nb, 0, none⟩)]] 95) := hr1.below hb2
       have HN8 : Hid (PairMap W8 nm qs) := hn1.below hb2
       have HI8 : Hid (IterG W8 ir mb PL (seen.push i)) := hit1.below hb2
       have HP8 : Hid (Blk W8 pb [.int .i64 x2, .int .i64 y2] 92) := by unfold Hid; rw [hW8, hpb]; exact Blk.new _ _ _
       have HC8 := Lib.hid (HSIM.out #[.pointer (some ⟨nb, 0, none⟩)] (setOf ps) W8 HS8.out.bel (hasFn_of HS8.out.name HS8.out.map) x2 y2 hy2)
       obtain ⟨g, hg⟩ : ∃ g, g = A (setOf ps) x2 y2 := ⟨_, rfl⟩
       rw [← hg] at HC8
       have HGG := Lib.hid hg
       have HW8 := Lib.hid hW8
       have HPB := Lib.hid hpb
       have HSM2 := Lib.hid hsm
       have HXY := Lib.hid hxy
       have HNS := Lib.hid hns
       have HII := Lib.hid hi
       have r0 := HR8.out.cell 0 rfl
       have r1 := HR8.out.cell 1 rfl
       have r2 := HR8.out.cell 2 rfl
       have r3 := HR8.out.cell 3 rfl
       have r4 := HR8.out.cell 4 rfl
       have r5 := HR8.out.cell 5 rfl
       have r6 := HR8.out.cell 6 rfl
       have r7 := HR8.out.cell 7 rfl
       have r8 := HR8.out.cell 8 rfl
       have hrl := (hr1 : Blk w1 rbx [.int .i64 a.states, .int .i64 a.initial, .slice la1 la2 la3, .slice ea1 ea2 ea3, .int .i64 b.states, .int .i64 b.initial, .slice lb1 lb2 lb3, .slice eb1 eb2 eb3, .func (.func 63) #[] #[.pointer (some ⟨nb, 0, none⟩)]] 95).lt
       rw [hW8] at r0 r1 r2 r3 r4 r5 r6 r7 r8
       clear hmem hy2 hit1 hsm hs1 hf1 hr1 hn1 hb2 hW8 hpb hg hxy hns hg1
       go_wp2_with fail
       rw [← HW8.out]
       try rw [← HPB.out]
       refine Calls.mono HC8.out ?_
       rintro e w9 ⟨rfl, hb9⟩
       have HS9 := Lib.hid (HS8.out.below hb9)
       have HF9 := Lib.hid (HF8.out.below hb9)
       have HR9 := Lib.hid (HR8.out.below hb9)
       have HN9 := Lib.hid (HN8.out.below hb9)
       have HI9 := Lib.hid (HI8.out.below hb9)
       have p0 := (HP8.out.below hb9).cell 0 rfl
       have p1 := (HP8.out.below hb9).cell 1 rfl
       clear hb9 r0 r1 r2 r3 r4 r5 r6 r7 r8 hrl hen
       cases g
       ·have HKN := Lib.hid (HKS.out.noAt HII.out HNS.out HXY.out (show A (setOf ps) x2 y2 = false from HGG.out.symm))
        clear p0 p1
        go_wp2
        go_roundg (PL - (seen.size + 1))
        case measure => have := HGK2.out; have := HKN.out.push_size; have := HPL.out; omega
        case rel => exact ⟨seen.push i, qs, by simp, HKN.out, HS9.out, HF9.out, HR9.out, HN9.out, HI9.out⟩
       ·have HKY := Lib.hid (HKS.out.yesAt HII.out HNS.out HXY.out (show A (setOf ps) x2 y2 = true from HGG.out.symm))
        have hfr := HKS.out.freshAt HPN.out HII.out HNS.out HXY.out
        have hfew := HKS.out.few HN9.out.nodup
        obtain ⟨w10, hup, hn10, hg10⟩ := HN9.out.pushLit HSM2.out hfr (by have := HGK.out; omega)
        have HN10 := Lib.hid hn10
        have HS10 : Hid (SimW ab bb nb mb a b (.slice la1 la2 la3) (.slice ea1 ea2 ea3) (.slice lb1 lb2 lb3) (.slice eb1 eb2 eb3) ps w w10) := HS9.out.kept hg10 hwn (blk_set_ne HS9.out.one HN9.out.map) (blk_set_ne HS9.out.two HN9.out.map) (blk_set_ne HS9.out.name HN9.out.map) HMN.out
        have HF10 := Lib.hid (blk_grown HF9.out hg10 (blk_set_ne HF9.out HN9.out.map))
        have HR10 := Lib.hid (blk_grown HR9.out hg10 (blk_set_ne HR9.out HN9.out.map))
        have HI10 : Hid (IterG w10 ir mb PL (seen.push i)) := HI9.out.kept hg10 (by simpa using (set_iter_ne HN9.out.map HI9.out).symm)
        clear hfr hfew hn10 hg10
        go_wp2
        go_roundg (PL - (seen.size + 1))
        case measure => have := HGK2.out; have := HKY.out.push_size; have := HPL.out; omega
        case rel => exact ⟨seen.push i, qs ++ [(x2, y2)], by simp, HKY.out, HS10.out, HF10.out, HR10.out, HN10.out, HI10.out⟩)

end Go.Proofs.YtbjbjbnbapeajaaGreatDoor

namespace Go.Proofs.YtbjbjbnbapeajaaGreatDoor
open Go Go.RowKit

def isVal (n : Int) : Bool := decide (0 ≤ n) && decide (n ≤ 63)

theorem areValues1_any (n : Int) (w : World) : Calls Tryz.prog 162 #[.int .i64 n] w fun e w' => e = .returned (.bool (!isVal n)) ∧ w = w' := by
 go_enter Tryz.func162, Tryz.ntmps162
 go_wp2_with fail
 refine (isValue_any _ _).mono ?_
 rintro e w' ⟨rfl, rfl⟩
 have HF : Hid ((!decide (0 ≤ n) || !decide (n ≤ 63)) = !isVal n) := by unfold Hid isVal; rw [Bool.not_and]
 go_wp2_with fail
 go_ret
 exact ⟨ret_bool HF.out, rfl⟩

set_option maxHeartbeats 1000000 in
theorem IndexFunc_vals (lo : Nat) (v : Value) (xs : List Int) (w : World) (hv : SliceK 1 encI lo w v xs) :
  Calls Tryz.prog 140 #[v, .func (.func 162) #[] #[]] w fun e w' => ∃ r : Int, e = .returned (.int .i64 r) ∧ decide (0 ≤ r) = !xs.all isVal ∧ w = w' := by
 obtain ⟨a, c, rfl, hcn, hcc, hrow⟩ := hv
 go_enter Tryz.func140, Tryz.ntmps140
 go_wp2_with fail
 go_loop [8] (fun i => ∃ k : Nat, k ≤ xs.length ∧ i = .int .i64 k ∧ ∀ j (h : j < xs.length), j < k → isVal xs[j] = true) (fun i => xs.length - (intOf i).toNat)
 case atStart => exact ⟨0, Nat.zero_le _, rfl, fun _ _ h => by omega⟩
 case round =>
  obtain ⟨k, hk, rfl, ha⟩ := hrel
  have HA := Lib.hid ha
  clear ha
  by_cases hlt : k < xs.length
  ·obtain ⟨b1, o1, rfl, -, hbs, c1⟩ := hrow.one hlt
   simp only [encI, List.getElem?_cons_zero] at c1
   clear hrow
   obtain ⟨b, hb⟩ : ∃ b, isVal xs[k] = b := ⟨_, rfl⟩
   have HB := Lib.hid hb
   clear hb
   go_wp2_with fail
   refine (areValues1_any _ _).mono ?_
   rintro e w' ⟨rfl, rfl⟩
   rw [HB.out]
   cases b
   ·go_wp2_with fail
    go_ret
    refine ⟨_, rfl, ?_, rfl⟩
    have h1 : xs.all isVal = false := by
     rw [List.all_eq_false]
     exact ⟨xs[k], List.getElem_mem _, by rw [HB.out]; simp⟩
    rw [h1]; simp
   ·go_wp2_with fail
    go_round
    case rel => exact ⟨k + 1, by omega, by go_num, fun j h hj => by
     by_cases e : j = k
     ·subst e; exact HB.out
     ·exact HA.out j h (by omega)⟩
    case measure => simp [intOf]; omega
  ·clear hrow
   go_wp2_with fail
   go_ret
   refine ⟨_, rfl, ?_, rfl⟩
   have h1 : xs.all isVal = true := by
    rw [List.all_eq_true]
    intro x hxm
    obtain ⟨j, hj, rfl⟩ := List.mem_iff_getElem.1 hxm
    exact HA.out j hj (by omega)
   rw [h1]; simp

theorem ContainsFunc_vals (lo : Nat) (v : Value) (xs : List Int) (w : World) (hv : SliceK 1 encI lo w v xs) :
  Calls Tryz.prog 102 #[v, .func (.func 162) #[] #[]] w fun e w' => e = .returned (.bool (!xs.all isVal)) ∧ w = w' := by
 have HV := Lib.hid hv
 clear hv
 go_enter Tryz.func102, Tryz.ntmps102
 go_wp2_with fail
 refine (IndexFunc_vals lo v xs _ HV.out).mono ?_
 rintro e w' ⟨r, rfl, hr, rfl⟩
 have HR := Lib.hid hr
 clear hr
 go_wp2_with fail
 go_ret
 exact ⟨ret_bool HR.out, rfl⟩

theorem areValues_any (lo : Nat) (v : Value) (xs : List Int) (w : World) (hv : SliceK 1 encI lo w v xs) :
  Calls Tryz.prog 127 #[v] w fun e w' => e = .returned (.bool (xs.all isVal)) ∧ w = w' := by
 have HV := Lib.hid hv
 clear hv
 go_enter Tryz.func127, Tryz.ntmps127
 go_wp2_with fail
 refine (ContainsFunc_vals lo v xs _ HV.out).mono ?_
 rintro e w' ⟨rfl, rfl⟩
 go_wp2_with fail
 go_ret
 exact ⟨ret_bool (by simp), rfl⟩

end Go.Proofs.YtbjbjbnbapeajaaGreatDoor

namespace Go.Proofs.YtbjbjbnbapeajaaGreatDoor
open Go Go.RowKit

/-- Words read as numbers. -/
def decs (ss : List ByteArray) : List Int := ss.map fun s => (readDec s.data.toList).getD 0
def decsOk (ss : List ByteArray) : Bool := ss.all fun s => (readDec s.data.toList).isSome
def RetNums (ss : List ByteArray) (w : World) (e : Ending) (w' : World) : Prop :=
 ∃ v, e = .returned (.tuple #[v, .bool (decsOk ss)]) ∧ Below w.heap.size w w' ∧ (decsOk ss = true → w'.ownsRow w.heap.size 2 1 v (decs ss).length ((decs ss).map (Value.int .i64)))

theorem decsOk_none {ss : List ByteArray} {j : Nat} (h : j < ss.length) (hn : readDec ss[j].data.toList = none) : decsOk ss = false := by
 unfold decsOk
 rw [List.all_eq_false]
 exact ⟨ss[j], List.getElem_mem _, by rw [hn]; simp⟩

set_option maxRecDepth 100000 in
set_option maxHeartbeats 2000000 in
theorem readNumbers_any (lo : Nat) (v : Value) (ss : List ByteArray) (w : World) (hs : ∀ i (h : i < ss.length), ss[i].size ≤ 1073741824) (hl : ss.length ≤ 1073741824) (hv : SliceK 1 encS lo w v ss) (g : Glob w) :
  Calls Tryz.prog 91 #[v] w (RetNums ss w) := by
 obtain ⟨a, c, rfl, hcn, hcc, hrow⟩ := hv
 obtain ⟨i0, hi, hz0, hz1, hz2⟩ := info_parts info_int64
 have G := Lib.hid g
 have HSZ := Lib.hid hs
 clear g hs
 go_enter Tryz.func91, Tryz.ntmps91
 go_wp2_with fail
 go_loopw [4, 11] (fun v i wr => ∃ k : Nat, k ≤ ss.length ∧ i = .int .i64 k ∧ Below w.heap.size w wr ∧ wr.ownsRow w.heap.size 2 1 v k ((decs (ss.take k)).map (Value.int .i64)) ∧ ∀ q (h : q < ss.length), q < k → (readDec ss[q].data.toList).isSome = true) (fun _ i _ => ss.length - (intOf i).toNat)
 case atStart => exact ⟨0, Nat.zero_le _, rfl, Below.refl _ _, World.ownsRow_nil _ _ _ _, fun _ _ h => by omega⟩
 case round =>
  obtain ⟨k, hk, rfl, hb, ho, ha⟩ := hrel
  have HA := Lib.hid ha
  have HB := Lib.hid hb
  have HO := Lib.hid ho
  have hsz := hb.size
  clear ha hb ho
  by_cases hlt : k < ss.length
  ·obtain ⟨b1, o1, rfl, -, hbs, c1⟩ := (hrow.below HB.out).one hlt
   simp only [encS, List.getElem?_cons_zero] at c1
   clear hrow
   obtain ⟨p, hp⟩ : ∃ p, p = ss[k] := ⟨_, rfl⟩
   rw [← hp] at c1
   have HP := Lib.hid hp
   have hpz : p.size ≤ 1073741824 := by rw [hp]; exact HSZ.out k hlt
   clear hp
   obtain ⟨o, hd⟩ : ∃ o, readDec p.data.toList = o := ⟨_, rfl⟩
   have HD := Lib.hid hd
   clear hd
   go_wp2_with fail
   refine (ReadDecimal_any _ _ hpz (G.out.below HB.out)).mono ?_
   rintro e w1 ⟨rfl, hb1⟩
   have HB1 := Lib.hid hb1
   have hs1 := hb1.size
   clear hb1
   rw [HD.out]
   cases o with
   | none =>
    simp only [Option.isSome_none, Option.getD_none]
    go_wp2_with fail
    go_ret2
    have hf : decsOk ss = false := decsOk_none hlt (by rw [← HP.out]; exact HD.out)
    exact ⟨.slice none 0 0, by rw [hf]; rfl, HB.out.trans (HB1.out.mono hsz), fun h => by rw [hf] at h; cases h⟩
   | some n =>
    simp only [Option.isSome_some, Option.getD_some]
    have HO1 := Lib.hid (owns_below HO.out HB1.out)
    have HBB := Lib.hid (HB.out.trans (HB1.out.mono hsz))
    clear c1
    go_wp2_with (at_builtin; refine wpList_append_own _ rfl _ _ 68 rfl w.heap.size 2 i0 (.int .i64 0) 1 8 Tryz.underlying68 hi hz0 hz1 hz2 rfl (by decide) _ _ _ rfl (HO1.out.alloc _) ⟨w1.heap.size, 0, none⟩ 1 1 [.int .i64 n] rfl rfl ?c1 ?c2 ?c3 ?c4 ?c5 ?_)
    case c1 => exact (cell_one_new _ _ _)
    case c2 => intro u hu; simp at hu; subst hu; rfl
    case c3 => simp [maxLen]; omega
    case c4 => omega
    case c5 => simp; omega
    intro v' w3 ho1 hg1 _
    have HO2 : Hid (w3.ownsRow w.heap.size 2 1 v' (k + 1) ((decs (ss.take (k + 1))).map (Value.int .i64))) := by
     have e : (decs (ss.take (k + 1))).map (Value.int .i64) = (decs (ss.take k)).map (Value.int .i64) ++ [.int .i64 n] := by
      unfold decs
      rw [List.take_succ_eq_append_getElem hlt, List.map_append, List.map_append, ← HP.out]
      simp [HD.out]
     unfold Hid
     rw [e]
     exact ho1
    have HBX : Hid (Below w.heap.size w w3) := (HBB.out.alloc (by omega) _).grown hg1 (by simp; omega) (fun b e => (HO1.out.lt b e).1)
    clear ho1 hg1
    go_wp2
    go_roundw
    case rel => exact ⟨k + 1, by omega, by go_num, HBX.out, HO2.out, fun q h h' => by
     by_cases e : q = k
     ·subst e; rw [← HP.out, HD.out]; rfl
     ·exact HA.out q h (by omega)⟩
    case measure => simp [intOf]; omega
  ·obtain rfl : k = ss.length := by omega
   have HF : Hid (decsOk ss = true) := by
    unfold Hid decsOk
    rw [List.all_eq_true]
    intro x hx
    obtain ⟨q, hq, rfl⟩ := List.mem_iff_getElem.1 hx
    exact HA.out q hq hq
   have HO2 : Hid (wr.ownsRow w.heap.size 2 1 u4 (decs ss).length ((decs ss).map (Value.int .i64))) := by
    have := HO.out
    rw [List.take_length] at this
    unfold Hid
    rw [show (decs ss).length = ss.length from by simp [decs]]
    exact this
   clear hrow HO
   go_wp2_with fail
   go_ret2
   exact ⟨_, by rw [HF.out]; rfl, HB.out, fun _ => HO2.out⟩

end Go.Proofs.YtbjbjbnbapeajaaGreatDoor

namespace Go.Proofs.YtbjbjbnbapeajaaGreatDoor
open Go Go.RowKit

def wordsOf (xs : List Int) : List ByteArray := xs.map fun n => ⟨(Lib.itoa n).toArray⟩

set_option maxHeartbeats 1000000 in
theorem joined_any (v : Value) (sep : ByteArray) (lo : Nat) (xs : List Int) (w : World) (hn : xs.length ≤ 1048576) (hb : ∀ i (h : i < xs.length), -9223372036854775808 ≤ xs[i] ∧ xs[i] ≤ 9223372036854775807) (hv : SliceK 1 encI lo w v xs) (g : Glob w)
  (hlen : (Lib.join ((wordsOf xs).map (·.data.toList)) sep.data.toList).length ≤ 1073741824) :
  Calls Tryz.prog 128 #[v, .string sep] w fun e w' => e = .returned (.string ⟨(Lib.join ((wordsOf xs).map (·.data.toList)) sep.data.toList).toArray⟩) ∧ Below w.heap.size w w' := by
 obtain ⟨a, ca, rfl, hna, hca, ha⟩ := hv
 obtain ⟨i0, hi, hz0, hz1, hz2⟩ := info_parts info_str
 have HBD := Lib.hid hb
 have G := Lib.hid g
 have HLEN := Lib.hid hlen
 clear hb g hlen
 go_enter Tryz.func128, Tryz.ntmps128
 go_wp2_with (at_make; refine wpList_make_full _ rfl _ _ 22 rfl w.heap.size 9 i0 _ 1 Tryz.underlying22 hi hz0 hz1 .i64 .i64 _ _ xs.length rfl rfl rfl rfl ?_ ?_ ?_ ?_)
 ·rw [hz2]; omega
 ·simp [maxLen]; omega
 ·exact Nat.le_refl _
 ·intro w1 ho hg
  rw [toList_madeCells_one] at ho
  have hb1 : Below w.heap.size w w1 := (Below.refl _ w).grown hg (Nat.le_refl _) (fun _ h => by cases h)
  clear hi hz0 hz1 hz2 i0
  have HO := Lib.hid ho
  clear ho hg
  go_wp2_with fail
  have hwl : (wordsOf xs).length = xs.length := by simp [wordsOf]
  go_loopw [13] (fun i wr => ∃ k : Nat, k ≤ xs.length ∧ i = .int .i64 k ∧ Below w.heap.size w wr ∧ w.heap.size < wr.heap.size ∧ wr.ownsRow w.heap.size 9 1 (.slice (some ⟨w.heap.size, 0, none⟩) xs.length xs.length) xs.length (((wordsOf xs).take k).map .string ++ List.replicate ((wordsOf xs).length - k) (.string ⟨#[]⟩))) (fun i _ => xs.length - (intOf i).toNat)
  case atStart => exact ⟨0, Nat.zero_le _, rfl, hb1, (HO.out.lt _ rfl).2, by simpa [hwl] using HO.out⟩
  case round =>
   obtain ⟨k, hk, rfl, hbl, hsl, ho⟩ := hrel
   clear HO hb1
   have HBL := Lib.hid hbl
   have HO1 := Lib.hid ho
   have hsz := hbl.size
   clear ho hbl
   by_cases hlt : k < xs.length
   ·obtain ⟨b1, o1, rfl, -, h1, c1⟩ := (ha.below HBL.out).one hlt
    simp only [encI, List.getElem?_cons_zero] at c1
    clear ha
    go_wp2_with fail
    refine (Decimal_any _ _ (HBD.out k hlt).1 (HBD.out k hlt).2 (G.out.below HBL.out)).mono ?_
    rintro e w2 ⟨rfl, hb2⟩
    have hlt' : k < (wordsOf xs).length := by omega
    have ho3 := owns_below HO1.out hb2
    have c2 := ho3.cellAt k (by omega)
    rw [filled_get _ _ _ _ hlt'] at c2
    have c3 := ho3.frozenAt k
    have ho2 := ho3.stored k (.string (wordsOf xs)[k])
    rw [filled_set _ _ _ _ hlt'] at ho2
    have hwk : (wordsOf xs)[k] = ⟨(Lib.itoa xs[k]).toArray⟩ := by simp [wordsOf]
    rw [hwk] at ho2
    have HO := Lib.hid ho2
    have HB2 := Lib.hid (HBL.out.trans (hb2.mono hsz))
    have hs2 := hb2.size
    clear ho2 ho3 hb2 HO1 HBL c1
    go_wp2
    go_roundw
    case rel => exact ⟨k + 1, by omega, by go_num, HB2.out.setCell (by exact Nat.le_refl _) _, by simp; omega, HO.out.1⟩
    case measure => simp [intOf]; omega
   ·clear ha
    obtain rfl : k = xs.length := by omega
    have ho4 : wr.ownsRow w.heap.size 9 1 (.slice (some ⟨w.heap.size, 0, none⟩) (wordsOf xs).length (wordsOf xs).length) (wordsOf xs).length ((wordsOf xs).flatMap encS) := by
     have := HO1.out
     rw [flat_encS, hwl]
     rw [hwl, ← hwl, List.take_length, Nat.sub_self, List.replicate_zero, List.append_nil, hwl] at this
     exact this
    have HC : Hid (∀ (j : Nat) x, (wordsOf xs)[j]? = some x → wr.cell? ⟨w.heap.size, 0 + j, none⟩ = some (.string x)) := by
     intro j x hx
     obtain ⟨hj, rfl⟩ := List.getElem?_eq_some_iff.1 hx
     have := ho4.cellAt j (by omega)
     rw [Nat.zero_add, this, flat_encS]
     simp [hj]
    clear ho4
    have HJ := Tryz.strings_Join w.heap.size 0 xs.length (wordsOf xs) sep wr HC.out hsl (by omega) (by omega) (Nat.le_trans HLEN.out (by decide))
    rw [hwl] at HJ
    have HJJ := Lib.hid HJ
    clear HJ
    go_wp2_with fail
    refine Calls.mono HJJ.out ?_
    rintro e w2 ⟨rfl, hb2⟩
    have HB2 := Lib.hid (HBL.out.trans (hb2.mono hsz))
    clear hb2
    go_wp2_with fail
    go_ret
    exact ⟨rfl, HB2.out⟩

end Go.Proofs.YtbjbjbnbapeajaaGreatDoor

namespace Go.Proofs.YtbjbjbnbapeajaaGreatDoor
open Go Go.RowKit

def labB (name : List UInt8) (xs : List Int) : Bool := if name = tauL then xs.isEmpty else isAction name && decide (xs.length ≤ 2) && xs.all isVal
def labTxt (name : List UInt8) (xs : List Int) : List UInt8 := if xs.isEmpty then name else name ++ 40 :: (Lib.join ((wordsOf xs).map (·.data.toList)) [44] ++ [41])
def RetLab (name : List UInt8) (xs : List Int) (w : World) (e : Ending) (w' : World) : Prop :=
 ∃ t : ByteArray, e = .returned (.tuple #[.string t, .bool (labB name xs)]) ∧ Below w.heap.size w w' ∧ (labB name xs = true → t.data.toList = labTxt name xs)

theorem two_digits : ∀ n : Nat, n < 64 → (Lib.decDigits n).length ≤ 2 := by
 intro n hn
 rw [Lib.decDigits_length]
 by_cases h : n < 10
 ·rw [Lib.nDigits_small h]; decide
 ·rw [Lib.nDigits_big h, Lib.nDigits_small (by omega)]; decide
theorem itoa_short {n : Int} (h : isVal n = true) : (Lib.itoa n).length ≤ 2 := by
 unfold isVal at h
 simp at h
 unfold Lib.itoa
 rw [if_neg (by omega)]
 exact two_digits _ (by omega)
theorem join_short {xs : List Int} (h2 : xs.length ≤ 2) (h : xs.all isVal = true) : (Lib.join ((wordsOf xs).map (·.data.toList)) [44]).length ≤ 5 := by
 match xs, h2, h with
 | [], _, _ => simp [wordsOf, Lib.join]
 | [x], _, h =>
  have hx := itoa_short (List.all_eq_true.1 h x (by simp))
  simp [wordsOf, Lib.join_length, Lib.lens]; omega
 | [x, y], _, h =>
  have hx := itoa_short (List.all_eq_true.1 h x (by simp))
  have hy := itoa_short (List.all_eq_true.1 h y (by simp))
  simp [wordsOf, Lib.join_length, Lib.lens]; omega

set_option maxRecDepth 100000 in
set_option maxHeartbeats 1000000 in
theorem labelOf_any (v : Value) (s : ByteArray) (lo : Nat) (xs : List Int) (w : World) (hs : s.size ≤ 1073741824) (hn : xs.length ≤ 1073741824) (hv : SliceK 1 encI lo w v xs) (g : Glob w) :
  Calls Tryz.prog 94 #[.string s, v] w (RetLab s.data.toList xs w) := by
 have HV := Lib.hid hv
 obtain ⟨a, ca, rfl, -, -, -⟩ := hv
 by_cases ht : s.toList = tauL
 ·have hb : Hid (labB s.data.toList xs = ((xs.length : Int) == 0)) := by
   unfold Hid labB
   rw [if_pos (by rw [← Lib.toList_data]; exact ht)]
   cases xs with
   | nil => rfl
   | cons x r =>
    have : (((x :: r).length : Int) == 0) = false := by rw [beq_eq_false_iff_ne]; simp; omega
    rw [this]; rfl
  have ht' : (s.toList == tauL) = true := by simpa using ht
  unfold tauL at ht ht'
  go_enter Tryz.func94, Tryz.ntmps94
  go_wp2_with fail
  go_ret2
  refine ⟨⟨#[116, 97, 117]⟩, by rw [hb.out]; rfl, Below.refl _ _, fun h => ?_⟩
  rw [hb.out] at h
  have h0 : xs = [] := List.eq_nil_of_length_eq_zero (by simpa using h)
  subst h0
  unfold labTxt
  have e : s.data.toList = [116, 97, 117] := by rw [← Lib.toList_data]; exact ht
  rw [e]
  rfl
 ·have hnt : ¬ s.data.toList = tauL := by rw [← Lib.toList_data]; exact ht
  have ht' : (s.toList == tauL) = false := by simpa using ht
  have HL : Hid (labB s.data.toList xs = (isAction s.data.toList && decide (xs.length ≤ 2) && xs.all isVal)) := by unfold Hid labB; rw [if_neg hnt]
  unfold tauL at ht ht' hnt
  obtain ⟨b, hb⟩ : ∃ b, isAction s.data.toList = b := ⟨_, rfl⟩
  have HB := Lib.hid hb
  clear hb
  cases b
  ·have HF : Hid (labB s.data.toList xs = false) := by unfold Hid; rw [HL.out, HB.out]; rfl
   go_enter Tryz.func94, Tryz.ntmps94
   go_wp2_with fail
   refine (IsAction_any _ _ hs).mono ?_
   rintro e w' ⟨rfl, rfl⟩
   rw [HB.out]
   go_wp2_with fail
   go_ret2
   exact ⟨⟨#[]⟩, by rw [HF.out]; rfl, Below.refl _ _, fun h => by rw [HF.out] at h; cases h⟩
  ·by_cases h2 : 2 < (xs.length : Int)
   ·have HF : Hid (labB s.data.toList xs = false) := by unfold Hid; rw [HL.out, decide_eq_false (by omega)]; simp
    go_enter Tryz.func94, Tryz.ntmps94
    go_wp2_with fail
    refine (IsAction_any _ _ hs).mono ?_
    rintro e w' ⟨rfl, rfl⟩
    rw [HB.out]
    go_wp2_with fail
    go_ret2
    exact ⟨⟨#[]⟩, by rw [HF.out]; rfl, Below.refl _ _, fun h => by rw [HF.out] at h; cases h⟩
   ·cases hall : xs.all isVal
    ·have HF : Hid (labB s.data.toList xs = false) := by unfold Hid; rw [HL.out, hall]; simp
     have HALL := Lib.hid hall
     clear hall
     go_enter Tryz.func94, Tryz.ntmps94
     go_wp2_with fail
     refine (IsAction_any _ _ hs).mono ?_
     rintro e w' ⟨rfl, rfl⟩
     rw [HB.out]
     go_wp2_with fail
     refine (areValues_any lo _ xs _ HV.out).mono ?_
     rintro e w' ⟨rfl, rfl⟩
     rw [HALL.out]
     go_wp2_with fail
     go_ret2
     exact ⟨⟨#[]⟩, by rw [HF.out]; rfl, Below.refl _ _, fun h => by rw [HF.out] at h; cases h⟩
    ·have HF : Hid (labB s.data.toList xs = true) := by unfold Hid; rw [HL.out, hall, HB.out, decide_eq_true (by omega)]; rfl
     have HALL := Lib.hid hall
     clear hall
     by_cases h0 : xs.length = 0
     ·have h0' : ((xs.length : Int) == 0) = true := by rw [beq_iff_eq]; omega
      have HT : Hid (labTxt s.data.toList xs = s.data.toList) := by unfold Hid labTxt; rw [if_pos (by rw [List.eq_nil_of_length_eq_zero h0]; rfl)]
      have HV0 : Hid (SliceK 1 encI lo w (.slice a 0 ca) xs) := by have := HV.out; rw [h0] at this; exact this
      go_enter Tryz.func94, Tryz.ntmps94
      go_wp2_with fail
      refine (IsAction_any _ _ hs).mono ?_
      rintro e w' ⟨rfl, rfl⟩
      rw [HB.out]
      go_wp2_with fail
      refine (areValues_any lo _ xs _ HV0.out).mono ?_
      rintro e w' ⟨rfl, rfl⟩
      rw [HALL.out]
      go_wp2_with fail
      go_ret2
      exact ⟨s, by rw [HF.out]; rfl, Below.refl _ _, fun _ => HT.out.symm⟩
     ·have h0' : ((xs.length : Int) == 0) = false := by rw [beq_eq_false_iff_ne]; omega
      have HT : Hid (labTxt s.data.toList xs = s.data.toList ++ 40 :: (Lib.join ((wordsOf xs).map (·.data.toList)) [44] ++ [41])) := by
       unfold Hid labTxt; rw [if_neg (by rw [List.isEmpty_iff_length_eq_zero]; exact h0)]
      have HLEN : Hid ((Lib.join ((wordsOf xs).map (·.data.toList)) (⟨#[44]⟩ : ByteArray).data.toList).length ≤ 1073741824) := Nat.le_trans (join_short (by omega) HALL.out) (by decide)
      have HBD : Hid (∀ i (h : i < xs.length), -9223372036854775808 ≤ xs[i] ∧ xs[i] ≤ 9223372036854775807) := by
       intro i hi
       have := List.all_eq_true.1 HALL.out xs[i] (List.getElem_mem _)
       unfold isVal at this
       simp at this
       omega
      have hlen : (Lib.join (List.map (fun x => x.data.toList) (wordsOf xs)) [44]).length ≤ 1073741824 := HLEN.out
      have hq1 : ¬ 9223372036854775807 < s.size + 1 + (Lib.join (List.map (fun x => x.data.toList) (wordsOf xs)) [44]).length := by omega
      have hq2 : ¬ 9223372036854775807 < s.size + 1 + (Lib.join (List.map (fun x => x.data.toList) (wordsOf xs)) [44]).length + 1 := by omega
      clear hlen
      go_enter Tryz.func94, Tryz.ntmps94
      go_wp2_with fail
      refine (IsAction_any _ _ hs).mono ?_
      rintro e w' ⟨rfl, rfl⟩
      rw [HB.out]
      go_wp2_with fail
      refine (areValues_any lo _ xs _ HV.out).mono ?_
      rintro e w' ⟨rfl, rfl⟩
      rw [HALL.out]
      go_wp2_with fail
      refine (joined_any _ ⟨#[44]⟩ lo xs _ (by omega) HBD.out HV.out g HLEN.out).mono ?_
      rintro e w2 ⟨rfl, hb2⟩
      have HB2 := Lib.hid hb2
      clear hb2
      go_wp2_with fail
      go_ret2
      refine ⟨_, by rw [HF.out]; rfl, HB2.out, fun _ => ?_⟩
      rw [HT.out]
      simp

end Go.Proofs.YtbjbjbnbapeajaaGreatDoor
