/-
  The program's LittleBrothers and SimulationClasses on valid systems.
  The law's r8Has, r8Blocks and r8Long.
  The reference's drawers: names.
  What the reference's drawers make: small systems with drawn names. Plain.
  A struct of four cells that is written; a slice of edges cloned.
-/
import Derived.Test.YtdkbbknhighebaaGreatDoorL15
import Derived.Test.YtdkbbknhighebaaGreatDoorL1
import Derived.Deep.RegionHeld3
import Derived.Test.YtdkbbknhighebaaGreatDoorL6
import Derived.Deep.AppendLies
import Derived.Sort.LoopGhostIn
import Derived.Test.YtdkbbknhighebaaGreatDoorL9
import Derived.Test.YtdkbbknhighebaaGreatDoorL8
import Derived.Test.YtdkbbknhighebaaGreatDoorL7
namespace Go.Proofs.YtdkbbknhighebaaGreatDoor
open Go Go.RowKit


theorem field_edgesB (n i : Int) (a d : Option Addr) (k c m f : Nat) (w : World) : (Instr.field 27 (.agg #[.int .i64 n, .int .i64 i, .slice a k c, .slice d m f]) 3).run Tryz.prog w = .ok (.slice d m f) w := by kernel_rfl

set_option maxRecDepth 100000 in
set_option maxHeartbeats 1000000 in
theorem simulationClasses2_any (lo S : Nat) (t : Lts) (lv ev : Value) (w : World) (hv : Valid t) (hsh : Short20 t.labels) (hS : (S : Int) = t.states) (hl : SliceK 1 encS lo w lv t.labels) (he : SliceK 3 encE lo w ev t.edges) (g : Glob w) :
  Calls Tryz.prog 9 #[.agg #[.int .i64 t.states, .int .i64 t.initial, lv, ev]] w fun e w' => ∃ (N : PairSet) (v : Value), Great t t (allG t t) N ∧ e = .returned (.tuple #[v, .int .i64 0]) ∧ Below w.heap.size w w' ∧ SliceK 1 encI w.heap.size w' v (normL (clsA N S)) := by
 obtain ⟨tb, htb⟩ : ∃ tb, tb = w.heap.size := ⟨_, rfl⟩
 obtain ⟨W, hW⟩ : ∃ W, W = w.alloc (.cells #[.int .i64 t.states, .int .i64 t.initial, lv, ev] 27) := ⟨_, rfl⟩
 have hb : Below w.heap.size w W := by rw [hW]; exact box_belowL _ _ _
 have hT : Blk W tb [.int .i64 t.states, .int .i64 t.initial, lv, ev] 27 := by rw [hW, htb]; exact Blk.new w _ _
 have HVA : Hid (Calls Tryz.prog 13 #[.agg #[.int .i64 t.states, .int .i64 t.initial, lv, ev]] W fun e w' => e = .returned (.bool true) ∧ Below W.heap.size W w') := Valid_yes hv hsh (hl.below hb) (he.below hb) (g.below hb)
 have HSC : Hid (∀ w', Below W.heap.size W w' → Calls Tryz.prog 17 #[.agg #[.int .i64 t.states, .int .i64 t.initial, lv, ev]] w' (RetCls t S w')) := fun w' h => simulationClasses_any lo S t lv ev w' hv hS ((hl.below hb).below h) ((he.below hb).below h)
 have HT := Lib.hid hT
 have HB := Lib.hid hb
 have HW := Lib.hid hW
 have HTB := Lib.hid htb
 have hsW : w.heap.size ≤ W.heap.size := hb.size
 clear hv hsh hl he g hb hT hW htb hS
 go_enter Tryz.func9, Tryz.ntmps9
 go_wp2_with fail
 rw [← HW.out]
 refine Calls.mono HVA.out ?_
 rintro e w1 ⟨rfl, hb1⟩
 (try rw [← HTB.out])
 have HB1 := Lib.hid hb1
 have HC1 := Lib.hid (HSC.out w1 hb1)
 have a0 := (HT.out.below hb1).cell 0 rfl
 have a1 := (HT.out.below hb1).cell 1 rfl
 have a2 := (HT.out.below hb1).cell 2 rfl
 have a3 := (HT.out.below hb1).cell 3 rfl
 clear hb1 HVA
 go_wp2_with fail
 refine Calls.mono HC1.out ?_
 rintro e w2 ⟨N, hG, v, rfl, hb2, ho2⟩
 have HG := Lib.hid hG
 have HB2 := Lib.hid (HB.out.trans ((HB1.out.trans (hb2.mono HB1.out.size)).mono hsW))
 have HO2 : Hid (SliceK 1 encI w.heap.size w2 v (normL (clsA N S))) := SliceK.of_owns (enc := encI) (e := 2) (fun _ => rfl) rfl (by rw [flat_encI]; exact own_lower ho2 (Nat.le_trans hsW HB1.out.size))
 clear a0 a1 a2 a3 hb2 hG ho2 HC1
 go_wp2
 refine bodyPost_ret (results_tmp2 rfl _ _ _) rfl ?_
 exact ⟨N, v, HG.out, rfl, HB2.out, HO2.out⟩

set_option maxRecDepth 100000 in
set_option maxHeartbeats 2000000 in
theorem littleBrothers2_any (lo : Nat) (t : Lts) (lv ev : Value) (w : World) (hv : Valid t) (hsh : Short20 t.labels) (hno : ∀ M, Great t t (allG t t) M → ∀ e ∈ t.edges, brother t M e = false) (hl : SliceK 1 encS lo w lv t.labels) (he : SliceK 3 encE lo w ev t.edges) (g : Glob w) :
  Calls Tryz.prog 8 #[.agg #[.int .i64 t.states, .int .i64 t.initial, lv, ev]] w fun e w' => ∃ (a : Option Addr) (c : Nat), e = .returned (.tuple #[.slice a 0 c, .int .i64 0]) ∧ Below w.heap.size w w' := by
 have hlv0 : ∃ p n c, lv = .slice p n c := by obtain ⟨p, c, e, -⟩ := hl; exact ⟨_, _, _, e⟩
 obtain ⟨l1, l2, l3, rfl⟩ := hlv0
 have hlv : ∃ p n c, (Value.slice l1 l2 l3) = .slice p n c := ⟨_, _, _, rfl⟩
 obtain ⟨tb, htb⟩ : ∃ tb, tb = w.heap.size := ⟨_, rfl⟩
 obtain ⟨W, hW⟩ : ∃ W, W = w.alloc (.cells #[.int .i64 t.states, .int .i64 t.initial, (.slice l1 l2 l3), ev] 27) := ⟨_, rfl⟩
 have hb : Below w.heap.size w W := by rw [hW]; exact box_belowL _ _ _
 have hT : Blk W tb [.int .i64 t.states, .int .i64 t.initial, (.slice l1 l2 l3), ev] 27 := by rw [hW, htb]; exact Blk.new w _ _
 have HVA : Hid (Calls Tryz.prog 13 #[.agg #[.int .i64 t.states, .int .i64 t.initial, (.slice l1 l2 l3), ev]] W fun e w' => e = .returned (.bool true) ∧ Below W.heap.size W w') := Valid_yes hv hsh (hl.below hb) (he.below hb) (g.below hb)
 have HLB : Hid (∀ w', Below W.heap.size W w' → Calls Tryz.prog 23 #[.agg #[.int .i64 t.states, .int .i64 t.initial, (.slice l1 l2 l3), ev]] w' fun e w'' => ∃ (tb nb mb : Nat) (ps : List (Int × Int)), e = .returned (.func (.func 50) #[] #[.pointer (some ⟨tb, 0, none⟩), .pointer (some ⟨nb, 0, none⟩)]) ∧ Below w'.heap.size w' w''
   ∧ Blk w'' tb [.int .i64 t.states, .int .i64 t.initial, (.slice l1 l2 l3), ev] 27 ∧ Blk w'' nb [.map (some mb)] 73 ∧ PairMap w'' mb ps ∧ Great t t (allG t t) (setOf ps)) := fun w' h => littleBrothers_any lo t (.slice l1 l2 l3) ev w' hv ((hl.below hb).below h) ((he.below hb).below h)
 have HON : Hid (∀ (w' : World) (tb2 nb mb : Nat) (ps : List (Int × Int)), Below W.heap.size W w' → Blk w' tb2 [.int .i64 t.states, .int .i64 t.initial, (.slice l1 l2 l3), ev] 27 → Blk w' nb [.map (some mb)] 73 → PairMap w' mb ps → Great t t (allG t t) (setOf ps) →
   Calls Tryz.prog 22 #[.agg #[.int .i64 t.states, .int .i64 t.initial, (.slice l1 l2 l3), ev], .func (.func 50) #[] #[.pointer (some ⟨tb2, 0, none⟩), .pointer (some ⟨nb, 0, none⟩)]] w' fun e w'' => ∃ (a : Option Addr) (c : Nat), e = .returned (.agg #[.int .i64 t.states, .int .i64 t.initial, (.slice l1 l2 l3), .slice a 0 c]) ∧ Below w'.heap.size w' w'') := fun w' tb2 nb mb ps h h1 h2 h3 hG => by
  have hf : t.edges.filter (brother t (setOf ps)) = [] := List.filter_eq_nil_iff.2 fun e hm => by rw [hno _ hG e hm]; decide
  have h := only_any lo 50 #[.pointer (some ⟨tb2, 0, none⟩), .pointer (some ⟨nb, 0, none⟩)] (brother t (setOf ps)) t (.slice l1 l2 l3) ev w' (Nat.le_trans hv.most (by decide)) hlv ((he.below hb).below h) (fun args w => by kernel_rfl)
   (fun w2 hb2 x hx => lb1_any lo tb2 nb mb t (.slice l1 l2 l3) ev ps x w2 hv (((he.below hb).below h).below hb2) (h1.below hb2) (h2.below hb2) (h3.below hb2) hx)
  rw [hf] at h
  refine h.mono ?_
  rintro e w'' ⟨ev', rfl, hb3, ho3⟩
  obtain ⟨a, c, rfl, -, -⟩ := owns_slice ho3
  exact ⟨a, c, rfl, hb3⟩
 have HSW : Hid (∀ w', Below W.heap.size W w' → w'.cell? ⟨tb, 0, none⟩ = some (.int .i64 t.states) ∧ w'.cell? ⟨tb, 1, none⟩ = some (.int .i64 t.initial) ∧ w'.cell? ⟨tb, 2, none⟩ = some (.slice l1 l2 l3) ∧ w'.cell? ⟨tb, 3, none⟩ = some ev) := fun w' h =>
  ⟨(hT.below h).cell 0 rfl, (hT.below h).cell 1 rfl, (hT.below h).cell 2 rfl, (hT.below h).cell 3 rfl⟩
 have HT := Lib.hid hT
 have HB := Lib.hid hb
 have HW := Lib.hid hW
 have HTB := Lib.hid htb
 have hsW : w.heap.size ≤ W.heap.size := hb.size
 clear hv hsh hl he g hb hT hW htb hno hlv
 go_enter Tryz.func8, Tryz.ntmps8
 go_wp2_with fail
 rw [← HW.out]
 refine Calls.mono HVA.out ?_
 rintro e w1 ⟨rfl, hb1⟩
 (try rw [← HTB.out])
 have hD : Below W.heap.size W w1.drew := hb1.trans ((Below.refl _ _).drew.mono hb1.size)
 have HD := Lib.hid hD
 have hsz := hD.size
 clear hb1 HVA hD
 go_upto_region 3 with fail
 refine wp_region_noPanic ?_
 refine wp_region_held_drew (S := fun w' => w'.cell? ⟨tb, 0, none⟩ = some (.int .i64 t.states) ∧ w'.cell? ⟨tb, 1, none⟩ = some (.int .i64 t.initial) ∧ w'.cell? ⟨tb, 2, none⟩ = some (.slice l1 l2 l3) ∧ w'.cell? ⟨tb, 3, none⟩ = some ev) (by kernel_rfl) ?hS (fun hHeld => ?goon)
 case hS =>
  try dsimp only
  first
     | exact HSW.out _ HD.out
     | exact HSW.out _ hq3
     | exact HSW.out _ hq2
     | go_keep
 case goon =>
  refine wpAnyH_take (i := 0) (oi := ?oi1) (v := ?v1) ?ho1 ?ka1 ?kb1 ?kc1 (fun _ _ _ h => h) (Or.inl ⟨?wn1, ?hy1⟩) (by assumption) ?rest1
  case ho1 => (simp only [List.getElem?_toArray, List.getElem?_cons_zero]; rfl)
  case ka1 => kernel_rfl
  case kb1 => kernel_rfl
  case kc1 => kernel_rfl
  case wn1 => rfl
  case hy1 => (intro w hSw; (try dsimp only at hSw); first | (go_simp; done) | (go_simp; with_reducible rfl))
  case rest1 =>
   try simp only [Act.put, List.setIfInBounds_toArray, List.set_cons_zero, List.set_cons_succ]
   refine wpAnyH_take (i := 1) (oi := ?oi2) (v := ?v2) ?ho2 ?ka2 ?kb2 ?kc2 (fun _ _ _ h => h) (Or.inl ⟨?wn2, ?hy2⟩) (by assumption) ?rest2
   case ho2 => (simp only [List.getElem?_toArray, List.getElem?_cons_succ, List.getElem?_cons_zero]; rfl)
   case ka2 => kernel_rfl
   case kb2 => kernel_rfl
   case kc2 => kernel_rfl
   case wn2 => rfl
   case hy2 => (intro w hSw; (try dsimp only at hSw); first | (go_simp; done) | (go_simp; with_reducible rfl))
   case rest2 =>
    try simp only [Act.put, List.setIfInBounds_toArray, List.set_cons_zero, List.set_cons_succ]
    refine wpAnyH_ready (rs := [2]) (by kernel_rfl) (by simp) ?_
    refine AllReadyH.cons (o := ?o3) ?ho3 (fun K hK => ?st3) ?more3
    case ho3 => (simp only [List.getElem?_toArray, List.getElem?_cons_succ, List.getElem?_cons_zero]; rfl)
    case st3 =>
     go_simp
     first
        | (go_at_call 23; refine Calls.mono (HLB.out _ HD.out) ?_; rintro e w2 ⟨tb2, nb, mb, ps, rfl, hb2, h1, h2, h3, hG⟩; have hq2 : Below W.heap.size W w2 := HD.out.trans (hb2.mono hsz))
        | (go_at_call 22; refine Calls.mono (HON.out w2 tb2 nb mb ps hq2 h1 h2 h3 hG) ?_; rintro e w3 ⟨a3, c3, rfl, hb3⟩; have hfe := field_edgesB t.states t.initial l1 a3 l2 l3 0 c3 w3; have hq3 : Below W.heap.size W w3 := hq2.trans (hb3.mono hq2.size))
        | fail
     try go_wp2_with fail
     refine hK.out _ _ ?hS3 (fun hHeld => ?goon3)
     case hS3 =>
      try dsimp only
      first
         | exact HSW.out _ HD.out
         | exact HSW.out _ hq3
         | exact HSW.out _ hq2
         | go_keep
     case goon3 =>
      clear hK K
      try simp only [Act.put, List.setIfInBounds_toArray, List.set_cons_zero, List.set_cons_succ]
      refine wpAnyH_ready (rs := [3]) (by kernel_rfl) (by simp) ?_
      refine AllReadyH.cons (o := ?o4) ?ho4 (fun K hK => ?st4) ?more4
      case ho4 => (simp only [List.getElem?_toArray, List.getElem?_cons_succ, List.getElem?_cons_zero]; rfl)
      case st4 =>
       go_simp
       first
          | (go_at_call 23; refine Calls.mono (HLB.out _ HD.out) ?_; rintro e w2 ⟨tb2, nb, mb, ps, rfl, hb2, h1, h2, h3, hG⟩; have hq2 : Below W.heap.size W w2 := HD.out.trans (hb2.mono hsz))
          | (go_at_call 22; refine Calls.mono (HON.out w2 tb2 nb mb ps hq2 h1 h2 h3 hG) ?_; rintro e w3 ⟨a3, c3, rfl, hb3⟩; have hfe := field_edgesB t.states t.initial l1 a3 l2 l3 0 c3 w3; have hq3 : Below W.heap.size W w3 := hq2.trans (hb3.mono hq2.size))
          | fail
       try go_wp2_with fail
       refine hK.out _ _ ?hS4 (fun hHeld => ?goon4)
       case hS4 =>
        try dsimp only
        first
           | exact HSW.out _ HD.out
           | exact HSW.out _ hq3
           | exact HSW.out _ hq2
           | go_keep
       case goon4 =>
        clear hK K
        try simp only [Act.put, List.setIfInBounds_toArray, List.set_cons_zero, List.set_cons_succ]
        refine wpAnyH_ready (rs := [4]) (by kernel_rfl) (by simp) ?_
        refine AllReadyH.cons (o := ?o5) ?ho5 (fun K hK => ?st5) ?more5
        case ho5 => (simp only [List.getElem?_toArray, List.getElem?_cons_succ, List.getElem?_cons_zero]; rfl)
        case st5 =>
         go_simp
         refine hK.out _ _ ?hS5 (fun hHeld => ?goon5)
         case hS5 =>
          try dsimp only
          first
             | exact HSW.out _ HD.out
             | exact HSW.out _ hq3
             | exact HSW.out _ hq2
             | go_keep
         case goon5 =>
          clear hK K
          try simp only [Act.put, List.setIfInBounds_toArray, List.set_cons_zero, List.set_cons_succ]
          refine wpAnyH_take (i := 5) (oi := ?oi6) (v := ?v6) ?ho6 ?ka6 ?kb6 ?kc6 (fun _ _ _ h => h) (Or.inl ⟨?wn6, ?hy6⟩) (by assumption) ?rest6
          case ho6 => (simp only [List.getElem?_toArray, List.getElem?_cons_succ, List.getElem?_cons_zero]; rfl)
          case ka6 => kernel_rfl
          case kb6 => kernel_rfl
          case kc6 => kernel_rfl
          case wn6 => rfl
          case hy6 => (intro w hSw; (try dsimp only at hSw); first | (go_simp; done) | (go_simp; with_reducible rfl))
          case rest6 =>
           try simp only [Act.put, List.setIfInBounds_toArray, List.set_cons_zero, List.set_cons_succ]
           refine wpAnyH_take (i := 6) (oi := ?oi7) (v := ?v7) ?ho7 ?ka7 ?kb7 ?kc7 (fun _ _ _ h => h) (Or.inl ⟨?wn7, ?hy7⟩) (by assumption) ?rest7
           case ho7 => (simp only [List.getElem?_toArray, List.getElem?_cons_succ, List.getElem?_cons_zero]; rfl)
           case ka7 => kernel_rfl
           case kb7 => kernel_rfl
           case kc7 => kernel_rfl
           case wn7 => rfl
           case hy7 => (intro w hSw; (try dsimp only at hSw); first | (go_simp; done) | (go_simp; with_reducible rfl))
           case rest7 =>
            try simp only [Act.put, List.setIfInBounds_toArray, List.set_cons_zero, List.set_cons_succ]
            refine wpAnyH_done (by kernel_rfl) ?_ _
            refine NoPanic.normal ?_
            have HF := Lib.hid (HB.out.trans (hq3.mono hsW))
            clear hb2 h1 h2 h3 hG hq2 hb3 hq3 hfe
            go_wp2
            refine bodyPost_ret (results_tmp2 rfl _ _ _) rfl ?_
            exact ⟨_, _, rfl, HF.out⟩
        exact AllReadyH.nil
      exact AllReadyH.nil
    exact AllReadyH.nil

end Go.Proofs.YtdkbbknhighebaaGreatDoor

namespace Go.Proofs.YtdkbbknhighebaaGreatDoor
open Go Go.RowKit


set_option maxRecDepth 100000 in
set_option maxHeartbeats 1000000 in
theorem r8Has_any (lo : Nat) (v : Value) (xs : List Int) (n : Int) (w : World) (hv : SliceK 1 encI lo w v xs) : Calls Tryz.prog 24 #[v, .int .i64 n] w fun e w' => e = .returned (.bool (xs.contains n)) ∧ Below w.heap.size w w' := by
 obtain ⟨a, cap, rfl, hn, hcap, hrow⟩ := hv
 go_enter Tryz.func24, Tryz.ntmps24
 go_wp2
 go_loopw [5] (fun i wr => ∃ k : Nat, k ≤ xs.length ∧ i = .int .i64 k ∧ Below w.heap.size w wr ∧ ∀ j (h : j < xs.length), j < k → xs[j] ≠ n) (fun i _ => xs.length - (intOf i).toNat)
 case atStart => exact ⟨0, Nat.zero_le _, rfl, Below.refl _ _, fun _ _ h => by omega⟩
 case round =>
  obtain ⟨k, hk, rfl, hbl, hx⟩ := hrel
  have HX := Lib.hid hx
  have HBL := Lib.hid hbl
  have hsz := hbl.size
  clear hx
  by_cases hlt : k < xs.length
  ·obtain ⟨b, o, rfl, -, hb, c⟩ := (hrow.below hbl).one hlt
   simp only [encI, List.getElem?_cons_zero] at c
   clear hrow hbl
   cases g : (xs[k] == n)
   ·have HG : Hid (xs[k] ≠ n) := by unfold Hid; simpa using g
    go_wp2
    go_roundw
    case rel => exact ⟨k + 1, by omega, by go_num, HBL.out, fun j h h' => by
      by_cases e : j = k
      ·subst e; exact HG.out
      ·exact HX.out j h (by omega)⟩
    case measure => simp [intOf]; omega
   ·have HG : Hid (xs.contains n = true) := by
     unfold Hid
     rw [List.contains_iff_mem]
     exact (eq_of_beq g) ▸ List.getElem_mem hlt
    go_wp2
    go_ret
    exact ⟨ret_bool HG.out.symm, HBL.out⟩
  ·clear hrow hbl
   go_wp2
   go_ret
   refine ⟨ret_bool ?_, HBL.out⟩
   symm
   rw [Bool.eq_false_iff]
   intro h
   rw [List.contains_iff_mem] at h
   obtain ⟨j, hj, e⟩ := List.mem_iff_getElem.1 h
   exact HX.out j hj (by omega) e

theorem r8Long_any (a b : Option Addr) (N c M d : Nat) (w : World) : Calls Tryz.prog 4 #[.slice a N c, .slice b M d] w fun e w' => e = .returned (.bool (decide (1048576 < N) || decide (1048576 < M))) ∧ w = w' := by
 by_cases h : 1048576 < N
 ·have hi : (1048576 : Int) < (N : Int) := by omega
  have HF : Hid (decide (1048576 < N) = true) := decide_eq_true h
  go_enter Tryz.func4, Tryz.ntmps4
  go_wp2
  go_ret
  exact ⟨ret_bool (by rw [HF.out]; rfl), rfl⟩
 ·have hi : ¬ (1048576 : Int) < (N : Int) := by omega
  have HF : Hid (decide (1048576 < N) = false) := decide_eq_false h
  by_cases k : 1048576 < M
  ·have ki : (1048576 : Int) < (M : Int) := by omega
   have KF : Hid (decide (1048576 < M) = true) := decide_eq_true k
   go_enter Tryz.func4, Tryz.ntmps4
   go_wp2
   go_ret
   exact ⟨ret_bool rfl, rfl⟩
  ·have ki : ¬ (1048576 : Int) < (M : Int) := by omega
   have KF : Hid (decide (1048576 < M) = false) := decide_eq_false k
   go_enter Tryz.func4, Tryz.ntmps4
   go_wp2
   go_ret
   exact ⟨ret_bool rfl, rfl⟩

theorem slice_take8 (b o n c m : Nat) (hm : m ≤ n) (hc : n ≤ c) (_hc2 : c ≤ 9223372036854775807) : ∀ w', (Instr.slice 35 (.slice (some ⟨b, o, none⟩) n c) none (some (.int .i64 (m : Int))) none).run Tryz.prog w' = .ok (.slice (some ⟨b, o, none⟩) m c) w' := by
 intro w'
 have hel : Tryz.prog.elem 35 = 2 := by simp [Program.elem, Tryz.underlying35]
 have hs : ∀ w, (Go.sizeOf 2).run Tryz.prog w = .ok 1 w := fun w => by kernel_rfl
 rw [run_slice_h w' 35 (some ⟨b, o, none⟩) n c (by rw [hel]; exact Tryz.underlying35) .i64 (m : Int) (by omega) (by omega), hel, hs]
 simp [Result.andThen, sliced, Addr.add_lit]

set_option maxRecDepth 100000 in
set_option maxHeartbeats 1000000 in
theorem r8Blocks_any (lo : Nat) (v : Value) (xs : List Int) (w : World) (hv : SliceK 1 encI lo w v xs) (hx : xs.Nodup) (hxl : xs.length ≤ 1000) : Calls Tryz.prog 10 #[v] w fun e w' => e = .returned (.int .i64 xs.length) ∧ Below w.heap.size w w' := by
 obtain ⟨a, cap, rfl, hn, hcap, hrow⟩ := id hv
 have HV := Lib.hid hv
 have HX := Lib.hid hx
 obtain ⟨N, hN⟩ : ∃ N, N = xs.length := ⟨_, rfl⟩
 have HN := Lib.hid hN
 rw [← hN] at HV hxl hn ⊢
 clear hv hx hN
 go_enter Tryz.func10, Tryz.ntmps10
 go_wp2
 go_loopw [3, 4] (fun v3 v4 wr => ∃ k : Nat, k ≤ N ∧ v3 = .int .i64 k ∧ v4 = .int .i64 k ∧ Below w.heap.size w wr) (fun _ v4 _ => N - (intOf v4).toNat)
 case atStart => exact ⟨0, Nat.zero_le _, rfl, rfl, Below.refl _ _⟩
 case round =>
  obtain ⟨k, hk, rfl, rfl, hbl⟩ := hrel
  have HBL := Lib.hid hbl
  by_cases hlt : k < N
  ·have hkx : k < xs.length := by rw [← HN.out]; exact hlt
   obtain ⟨b, o, rfl, -, hb, c⟩ := (hrow.below hbl).one hkx
   simp only [encI, List.getElem?_cons_zero] at c
   have hno : (xs.take k).contains xs[k] = false := by
    rw [Bool.eq_false_iff]
    intro h
    rw [List.contains_iff_mem] at h
    obtain ⟨j, hj, e⟩ := List.mem_iff_getElem.1 h
    rw [List.getElem_take] at e
    have hj2 : j < k := by rw [List.length_take] at hj; omega
    exact (List.pairwise_iff_getElem.1 (List.nodup_iff_pairwise_ne.1 HX.out) j k (by omega) hkx hj2) e
   have hsl : SliceK 1 encI lo wr (.slice (some ⟨b, o, none⟩) k cap) (xs.take k) := by
    obtain ⟨a', c', e, h1, h2, h3⟩ := HV.out.below hbl
    simp only [Value.slice.injEq] at e
    obtain ⟨rfl, -, rfl⟩ := e
    have hkl : (xs.take k).length = k := by rw [List.length_take]; omega
    refine ⟨some ⟨b, o, none⟩, cap, by rw [hkl], by rw [hkl]; omega, h2, ?_⟩
    rcases h3 with h0 | ⟨b', o', e', g1, g2, g3⟩
    ·omega
    ·simp only [Option.some.injEq, Addr.mk.injEq, and_true] at e'
     obtain ⟨rfl, rfl⟩ := e'
     refine .inr ⟨b, o, rfl, g1, g2, fun i hi j hj => ?_⟩
     rw [hkl] at hi
     have h4 := g3 i (by omega) j hj
     rw [List.getElem_take]
     exact h4
   obtain ⟨x, hx⟩ : ∃ x, x = xs[k] := ⟨_, rfl⟩
   rw [← hx] at c hno
   have HC : Hid (∀ g : Later wr, Calls Tryz.prog 24 #[.slice (some ⟨b, o, none⟩) k cap, .int .i64 x] g.w fun e w'' => e = .returned (.bool false) ∧ Below g.w.heap.size g.w w'') := fun g => by
    have h := r8Has_any lo _ (xs.take k) x g.w (hsl.below g.h)
    rw [hno] at h
    exact h
   have hst := slice_take8 b o N cap k (by omega) hn hcap
   have sc := later_cell hb c
   clear hrow hbl hno hsl hkx hx c hb
   go_wp2
   refine wp_region_later (by kernel_rfl) (by kernel_rfl) ?_
   repeat (go_big_quiet_step (((go_at_call 24; exact later_call (HC.out _)))))
   refine wpQuiet_nil ?_
   intro _ hw9
   obtain ⟨nl, hw8⟩ := hw9
   subst hw8
   have HBF := Lib.hid (HBL.out.trans (nl.h.mono HBL.out.size))
   go_wp2
   go_roundw
   case rel => exact ⟨k + 1, by omega, by go_num, by go_num, HBF.out⟩
   case measure => simp [intOf]; omega
  ·have HK : Hid (k = N) := Lib.hid (show k = N by omega)
   clear hrow hbl
   go_wp2
   go_ret
   exact ⟨by rw [HK.out]; rfl, HBL.out⟩

end Go.Proofs.YtdkbbknhighebaaGreatDoor

namespace Go.Proofs.YtdkbbknhighebaaGreatDoor
open Go Go.RowKit


theorem info_strD : (Tryz.prog.info? 9).map (fun i => (i.zero, i.size, i.bytes)) = some (some (.string ⟨#[]⟩), 1, 16) := by kernel_rfl
/-- The names that are drawn. -/
def nmA : ByteArray := ⟨#[97]⟩
def nmB : ByteArray := ⟨#[98]⟩
def nmC : ByteArray := ⟨#[99]⟩
def nmG0 : ByteArray := ⟨#[103, 101, 116, 40, 48, 41]⟩
def nmG1 : ByteArray := ⟨#[103, 101, 116, 40, 49, 41]⟩
def nmT : ByteArray := ⟨#[116, 97, 117]⟩
def nmL : List ByteArray := [nmA, nmB, nmC, nmG0, nmG1]
def nmAll : List ByteArray := nmT :: nmL
theorem strs_lit {w : World} {cs : Array Value} {xs : List ByteArray} (h : cs.toList = txts xs) (hm : xs.length ≤ 1000) : OwnStrs w.heap.size (w.alloc (.cells cs 9)) (.slice (some ⟨w.heap.size, 0, none⟩) xs.length xs.length) xs := by
 have hl : cs.size = xs.length := by rw [← Array.length_toList, h, txts_len]
 unfold OwnStrs
 rw [← h]
 exact World.ownsRow_lit (size := 1) w cs xs.length (Nat.le_refl _) (by simp [maxLen]; omega) (by rw [hl, Nat.mul_one])
theorem Blk.far {w w' : World} {b : Nat} {cs : List Value} {t : TypeId} {row : Option Nat} (h : Blk w b cs t) (hg : w.grownBy w' row) (hne : row ≠ some b) : Blk w' b cs t := (hg.block b h.lt (fun e => hne e.symm)).trans h
theorem txt_cell {w : World} {b k : Nat} {xs : List ByteArray} (h : Blk w b (txts xs) 9) (hk : k < xs.length) : w.cell? ⟨b, k, none⟩ = some (.string xs[k]) := h.cell k (by unfold txts; rw [List.getElem?_map, List.getElem?_eq_getElem hk]; rfl)

set_option maxRecDepth 100000 in
set_option maxHeartbeats 1000000 in
theorem drawNames_any (sb n : Nat) (w : World) (hs : Src sb n w) (hn : n ≤ 999990000) :
  Calls Tryz.prog 53 #[.pointer (some ⟨sb, 0, none⟩)] w fun e w' => ∃ (v : Value) (ls : List ByteArray), e = .returned v ∧ Drew sb (n + 10) w w' ∧ OwnStrs w.heap.size w' v ls ∧ 2 ≤ ls.length ∧ ls.length ≤ 7 ∧ ∀ l ∈ ls, l ∈ nmAll := by
 obtain ⟨i0, hi0, hz0, hz1, hz2⟩ := info_parts info_strD
 have hsb := hs.lt
 obtain ⟨lb, hlb⟩ : ∃ lb, lb = w.heap.size + 1 := ⟨_, rfl⟩
 obtain ⟨W, hW⟩ : ∃ W, W = (w.alloc (.cells #[.string nmT] 9)).alloc (.cells #[.string nmA, .string nmB, .string nmC, .string nmG0, .string nmG1] 9) := ⟨_, rfl⟩
 have HD0 : Hid (Drew sb n w W) := by unfold Hid; rw [hW]; exact ((Drew.refl hs).alloc _).alloc _
 have HO0 : Hid (OwnStrs w.heap.size W (.slice (some ⟨w.heap.size, 0, none⟩) 1 1) [nmT]) := by unfold Hid; rw [hW]; exact (strs_lit (w := w) (xs := [nmT]) rfl (by decide)).below ((Below.refl _ _).alloc (Nat.le_refl _) _)
 have HL0 : Hid (Blk W lb (txts nmL) 9) := by
  have h := Blk.new (w.alloc (.cells #[.string nmT] 9)) (txts nmL) 9
  rw [World.size_alloc, ← hlb] at h
  unfold Hid
  rw [hW]
  exact h
 have HW : Hid (W = (w.alloc (.cells #[.string ⟨#[116, 97, 117]⟩] 9)).alloc (.cells #[.string ⟨#[97]⟩, .string ⟨#[98]⟩, .string ⟨#[99]⟩, .string ⟨#[103, 101, 116, 40, 48, 41]⟩, .string ⟨#[103, 101, 116, 40, 49, 41]⟩] 9)) := hW
 have HLB := Lib.hid hlb
 clear hs hW hlb
 go_enter Tryz.func53, Tryz.ntmps53
 go_wp2_with fail
 rw [← HW.out]
 rw [← HLB.out]
 go_loopw [3, 5] (fun v3 v5 wr => ∃ (k : Nat) (ls : List ByteArray) (g c : Nat), k ≤ 5 ∧ v3 = .slice (some ⟨g, 0, none⟩) ls.length c ∧ v5 = .int .i64 k ∧ Drew sb (n + 2 * k) w wr ∧ OwnStrs w.heap.size wr (.slice (some ⟨g, 0, none⟩) ls.length c) ls ∧ Blk wr lb (txts nmL) 9 ∧ g ≠ lb ∧ 1 ≤ ls.length ∧ ls.length ≤ k + 1 ∧ ∀ l ∈ ls, l ∈ nmAll) (fun _ v5 _ => 5 - (intOf v5).toNat)
 case atStart => exact ⟨0, [nmT], w.heap.size, 1, Nat.zero_le _, rfl, rfl, HD0.out, HO0.out, HL0.out, by rw [HLB.out]; omega, by simp, by simp, fun l hl => by rw [List.mem_singleton] at hl; rw [hl]; simp [nmAll]⟩
 case round =>
  clear HD0 HO0 HL0
  obtain ⟨k, ls, g, c, hk, rfl, rfl, hd, ho, hl, hgl, hl1, hlk, hmem⟩ := hrel
  obtain ⟨wC, rfl⟩ : ∃ wC : World, wC = wr := ⟨_, rfl⟩
  have HD := Lib.hid hd
  have HO := Lib.hid ho
  have HL := Lib.hid hl
  have HM := Lib.hid hmem
  have HGL := Lib.hid hgl
  have hszC : w.heap.size ≤ wC.heap.size := hd.size
  clear hd ho hl hmem hgl
  by_cases hlt : k < 5
  ·have hk5 : k < nmL.length := hlt
   have HONE := Lib.hid (one_any sb (n + 2 * k) 2 wC HD.out.2 (by omega) (by decide))
   go_wp2_with fail
   refine Calls.mono HONE.out ?_
   rintro e w1 ⟨b, rfl, hd1⟩
   have HD1 : Hid (Drew sb (n + 2 * (k + 1)) w w1) := (HD.out.trans hd1).mono (by omega)
   have HO1 : Hid (OwnStrs w.heap.size w1 (.slice (some ⟨g, 0, none⟩) ls.length c) ls) := hd1.own HO.out hsb
   have HL1 : Hid (Blk w1 lb (txts nmL) 9) := hd1.blk HL.out (by rw [HLB.out]; omega)
   have hsz1 : w.heap.size ≤ w1.heap.size := HD1.out.size
   have c1 := txt_cell HL1.out hk5
   obtain ⟨x, hx⟩ : ∃ x, x = nmL[k] := ⟨_, rfl⟩
   rw [← hx] at c1
   have HX : Hid (x ∈ nmAll) := by unfold Hid nmAll; rw [hx]; exact List.mem_cons_of_mem _ (List.getElem_mem hk5)
   clear hd1 HONE hx HD HO HL hk5
   cases b
   ·go_wp2
    go_roundw
    case rel => exact ⟨k + 1, ls, g, c, by omega, rfl, by go_num, HD1.out, HO1.out, HL1.out, HGL.out, hl1, by omega, HM.out⟩
    case measure => simp [intOf]; omega
   ·by_cases h4 : ls.length < 4
    ·have h4i : (ls.length : Int) < 4 := by omega
     go_wp2_with (at_builtin; refine wpList_append_lies _ rfl _ _ 24 rfl w.heap.size 9 i0 (.string ⟨#[]⟩) 1 16 Tryz.underlying24 hi0 hz0 hz1 hz2 rfl (by decide) _ _ _ rfl (HO1.out.alloc _) ⟨w1.heap.size, 0, none⟩ 1 1 [.string x] rfl rfl ?c1 ?c2 ?c3 ?c4 ?c5 ?c6 _ rfl ?_)
     case c1 => exact World.news_of_block (cs := #[.string x]) (t := 9) (fr := (0, 0)) (heap_alloc_new _ _)
     case c2 => intro u hu; simp at hu; subst hu; rfl
     case c3 => omega
     case c4 => simp [maxLen]; omega
     case c5 => omega
     case c6 => simp; omega
     intro g3 cap3 w3 ho3 hg3 hat3 hlt3
     have HD3 : Hid (Drew sb (n + 2 * (k + 1)) w w3) := (HD1.out.alloc _).grown hg3 (fun j e => (HO1.out.lt j e).1) hsb
     have HL3 : Hid (Blk w3 lb (txts nmL) 9) := (HL1.out.alloc _).far hg3 (fun e => HGL.out (Option.some.inj e))
     have HO3 : Hid (OwnStrs w.heap.size w3 (.slice (some ⟨g3, 0, none⟩) (ls ++ [x]).length cap3) (ls ++ [x])) := by
      unfold Hid OwnStrs txts
      rw [List.map_append, List.length_append]
      exact ho3
     have HG3 : Hid (g3 ≠ lb) := by
      rcases hat3 with e | e
      ·have : g = g3 := Option.some.inj e
       unfold Hid
       rw [← this]
       exact HGL.out
      ·unfold Hid
       have := HL1.out.lt
       rw [e]
       omega
     clear ho3 hg3 hat3 hlt3
     go_wp2
     go_roundw
     case rel => exact ⟨k + 1, ls ++ [x], g3, cap3, by omega, by simp, by go_num, HD3.out, HO3.out, HL3.out, HG3.out, by simp, by simp; omega, fun l hl => by
      rcases List.mem_append.1 hl with h | h
      ·exact HM.out l h
      ·rw [List.mem_singleton] at h; rw [h]; exact HX.out⟩
     case measure => simp [intOf]; omega
    ·have h4i : ¬ (ls.length : Int) < 4 := by omega
     go_wp2
     go_roundw
     case rel => exact ⟨k + 1, ls, g, c, by omega, rfl, by go_num, HD1.out, HO1.out, HL1.out, HGL.out, hl1, by omega, HM.out⟩
     case measure => simp [intOf]; omega
  ·by_cases h1 : ls.length = 1
   ·have h1i : ((ls.length : Int) == 1) = true := by rw [h1]; rfl
    go_wp2_with (at_builtin; refine wpList_append_own _ rfl _ _ 24 rfl w.heap.size 9 i0 (.string ⟨#[]⟩) 1 16 Tryz.underlying24 hi0 hz0 hz1 hz2 rfl (by decide) _ _ _ rfl (HO.out.alloc _) ⟨wC.heap.size, 0, none⟩ 1 1 [.string nmA] rfl rfl ?c1 ?c2 ?c3 ?c4 ?c5 ?_)
    case c1 => exact World.news_of_block (cs := #[.string nmA]) (t := 9) (fr := (0, 0)) (heap_alloc_new _ _)
    case c2 => intro u hu; simp at hu; subst hu; rfl
    case c3 => simp [maxLen]; omega
    case c4 => omega
    case c5 => simp; omega
    intro v3 w3 ho3 hg3 _
    have HD3 : Hid (Drew sb (n + 10) w w3) := ((HD.out.alloc _).grown hg3 (fun j e => (HO.out.lt j e).1) hsb).mono (by omega)
    have HO3 : Hid (OwnStrs w.heap.size w3 v3 (ls ++ [nmA])) := by
     unfold Hid OwnStrs txts
     rw [List.map_append, List.length_append, h1]
     exact ho3
    clear ho3 hg3
    go_wp2
    go_ret
    exact ⟨v3, ls ++ [nmA], rfl, HD3.out, HO3.out, by simp; omega, by simp; omega, fun l hl => by
     rcases List.mem_append.1 hl with h | h
     ·exact HM.out l h
     ·rw [List.mem_singleton] at h; rw [h]; simp [nmAll, nmL]⟩
   ·have h1i : ((ls.length : Int) == 1) = false := by simp; omega
    go_wp2
    go_ret
    exact ⟨_, ls, rfl, HD.out.mono (by omega), HO.out, by omega, by omega, HM.out⟩

end Go.Proofs.YtdkbbknhighebaaGreatDoor

namespace Go.Proofs.YtdkbbknhighebaaGreatDoor
open Go Go.RowKit


theorem nodup_subD {α : Type} [BEq α] [LawfulBEq α] : ∀ {a b : List α}, a.Nodup → (∀ x ∈ a, x ∈ b) → a.length ≤ b.length
 | [], b, _, _ => Nat.zero_le _
 | x :: a, b, hd, hs => by
  rw [List.nodup_cons] at hd
  have h1 : x ∈ b := hs x (by simp)
  have h2 := nodup_subD (a := a) (b := b.erase x) hd.2 (fun y hy => by
   have : y ≠ x := fun e => hd.1 (e ▸ hy)
   exact (List.mem_erase_of_ne this).2 (hs y (by simp [hy])))
  have h3 := List.length_erase_of_mem h1
  have h4 := List.length_pos_of_mem h1
  simp only [List.length_cons]
  omega
structure DrawnOk (M : Nat) (t : Lts) : Prop where
 st : 1 ≤ t.states ∧ t.states ≤ 6
 init : 0 ≤ t.initial ∧ t.initial < t.states
 pos : 0 < t.labels.length
 few : t.labels.length ≤ 6
 names : ∀ l ∈ t.labels, l ∈ nmAll
 most : t.edges.length ≤ M
 edge : ∀ e ∈ t.edges, (0 ≤ e.src ∧ e.src < t.states) ∧ (0 ≤ e.lab ∧ e.lab < t.labels.length) ∧ 0 ≤ e.dst ∧ e.dst < t.states
 rise : RiseE t.edges
 asc : (t.labels.map (·.data.toList)).Pairwise fun a b => lessL a b = true
 tau : tauT ∈ t.labels
theorem tauT_nm : tauT = nmT := rfl
/-- What l11Make makes of drawn names and edges. -/
theorem drawn_of_mk {M : Nat} {n i : Int} {texts : List ByteArray} {es R : List Edge} (h : MkEdges (labSet (tauT :: texts)) texts es R) (_ht : texts.length ≤ 8) (hnm : ∀ l ∈ texts, l ∈ nmAll) (hn : 1 ≤ n ∧ n ≤ 6) (hi : 0 ≤ i ∧ i < n)
  (hes : ∀ e ∈ es, (0 ≤ e.src ∧ e.src < n) ∧ (0 ≤ e.lab ∧ e.lab < texts.length) ∧ 0 ≤ e.dst ∧ e.dst < n) (hlen : es.length ≤ M) : DrawnOk M ⟨n, i, labSet (tauT :: texts), R⟩ := by
 have hmem : ∀ x, x ∈ labSet (tauT :: texts) ↔ x ∈ tauT :: texts := (labSet_is _).2
 refine ⟨hn, hi, ?_, ?_, ?_, Nat.le_trans h.2.1 hlen, ?_, h.1, (labSet_is _).1, (hmem tauT).2 (List.mem_cons_self ..)⟩
 ·exact List.length_pos_of_mem ((hmem tauT).2 List.mem_cons_self)
 ·have hnd : ((labSet (tauT :: texts)).map (·.data.toList)).Nodup := by
   refine List.nodup_iff_pairwise_ne.2 ((labSet_is (tauT :: texts)).1.imp fun {a b} h e => ?_)
   rw [e, lessL_irrefl] at h
   cases h
  have h := nodup_subD (b := nmAll.map (·.data.toList)) hnd fun x hx => by
   obtain ⟨l, hl, rfl⟩ := List.mem_map.1 hx
   refine List.mem_map.2 ⟨l, ?_, rfl⟩
   rcases List.mem_cons.1 ((hmem l).1 hl) with rfl | hl
   ·rw [tauT_nm]
    exact List.mem_cons_self
   ·exact hnm l hl
  rw [List.length_map, List.length_map] at h
  exact h
 ·intro l hl
  rcases List.mem_cons.1 ((hmem l).1 hl) with rfl | hl
  ·rw [tauT_nm]
   exact List.mem_cons_self
  ·exact hnm l hl
 ·intro x hx
  obtain ⟨e, he, rfl⟩ := List.mem_map.1 ((h.2.2 x).1 hx)
  obtain ⟨h1, ⟨h2, h3⟩, h4⟩ := hes e he
  refine ⟨h1, ?_, h4⟩
  have hk : e.lab.toNat < texts.length := by omega
  have hin : texts.getD e.lab.toNat ByteArray.empty ∈ labSet (tauT :: texts) := by
   rw [hmem, List.getD_eq_getElem?_getD, List.getElem?_eq_getElem hk]
   exact List.mem_cons_of_mem _ (List.getElem_mem hk)
  have hlab : (makeE (labSet (tauT :: texts)) texts e).lab = (idxL (labSet (tauT :: texts)) (texts.getD e.lab.toNat ByteArray.empty) : Nat) := sus_text hin
  rw [hlab]
  obtain ⟨hk2, -, -⟩ := idxL_get hin
  exact ⟨by omega, by show ((idxL _ _ : Nat) : Int) < ((labSet (tauT :: texts)).length : Int); omega⟩
theorem nm_short : ∀ l ∈ nmAll, l.size ≤ 6 := by decide
end Go.Proofs.YtdkbbknhighebaaGreatDoor

namespace Go.Proofs.YtdkbbknhighebaaGreatDoor
open Go Go.RowKit


theorem put4D {w : World} {b : Nat} {x0 x1 x2 x3 v0 v1 v2 v3 : Value} {T : TypeId} (hb : Blk w b [x0, x1, x2, x3] T) : Blk ((((w.setCell ⟨b, 0, none⟩ v0).setCell ⟨b, 1, none⟩ v1).setCell ⟨b, 2, none⟩ v2).setCell ⟨b, 3, none⟩ v3) b [v0, v1, v2, v3] T := (((hb.set 0 v0).set 1 v1).set 2 v2).set 3 v3
theorem own_putD {w : World} {base e size n : Nat} {v : Value} {xs : List Value} (h : w.ownsRow base e size v n xs) {b : Nat} {cs : List Value} {t : TypeId} (hb : Blk w b cs t) (he : e ≠ t) (i : Nat) (u : Value) : (w.setCell ⟨b, i, none⟩ u).ownsRow base e size v n xs :=
 h.kept (grown_setCell w ⟨b, i, none⟩ u) (own_type_ne h hb he)
theorem own_put4D {w : World} {b : Nat} {x0 x1 x2 x3 v0 v1 v2 v3 : Value} {T : TypeId} (hb : Blk w b [x0, x1, x2, x3] T) {base e size n : Nat} {v : Value} {xs : List Value} (h : w.ownsRow base e size v n xs) (he : e ≠ T) :
  ((((w.setCell ⟨b, 0, none⟩ v0).setCell ⟨b, 1, none⟩ v1).setCell ⟨b, 2, none⟩ v2).setCell ⟨b, 3, none⟩ v3).ownsRow base e size v n xs :=
 own_putD (own_putD (own_putD (own_putD h hb he 0 _) (hb.set 0 _) he 1 _) ((hb.set 0 _).set 1 _) he 2 _) (((hb.set 0 _).set 1 _).set 2 _) he 3 _
theorem blk_putD {w : World} {b c : Nat} {ds : List Value} {u : TypeId} (h : Blk w c ds u) (i : Nat) (v : Value) (hne : c ≠ b) : Blk (w.setCell ⟨b, i, none⟩ v) c ds u := h.setOther _ _ hne
end Go.Proofs.YtdkbbknhighebaaGreatDoor
