/-
  What the reference says of a number in a list, and of two equal lists.
  The reference's sets of states: l14List, l12Marks, l12Close.
  The reference's l12Close: what internal edges reach, by sweeps over a list of truth values.
  The reference's l12First and l12Next: the first set, the set behind a label.
-/
import Derived.Test.YtmhpfmanagbggaaGreatDoorK3
import Derived.Test.YtmhpfmanagbggaaGreatDoorK5
namespace Go.Proofs.YtmhpfmanagbggaaGreatDoor
open Go Go.RowKit

set_option maxRecDepth 100000 in
set_option maxHeartbeats 1000000 in
theorem l00Has_any (lo : Nat) (v : Value) (xs : List Int) (n : Int) (w : World) (hv : SliceK 1 encI lo w v xs) : Calls Tryz.prog 65 #[v, .int .i64 n] w fun e w' => e = .returned (.bool (xs.contains n)) ∧ Below w.heap.size w w' := by
 obtain ⟨a, cap, rfl, hn, hcap, hrow⟩ := hv
 go_enter Tryz.func65, Tryz.ntmps65
 go_wp2
 go_loopw [5] (fun i wr => ∃ k : Nat, k ≤ xs.length ∧ i = .int .i64 k ∧ Below w.heap.size w wr ∧ ∀ j (h : j < xs.length), j < k → xs[j] ≠ n) (fun i _ => xs.length - (intOf i).toNat)
 case atStart => exact ⟨0, Nat.zero_le _, rfl, Below.refl _ _, fun _ _ h => by omega⟩
 case round =>
  obtain ⟨k, hk, rfl, hbl, hx⟩ := hrel
  have HX := Lib.hid hx
  have HBL := Lib.hid hbl
  have hsz := hbl.size
  clear hx
  by_cases hlt : k < xs.length
  ·obtain ⟨b, o, rfl, -, hb, c⟩ := (hrow.below hbl).one hlt
   simp only [encI, List.getElem?_cons_zero] at c
   clear hrow hbl
   cases g : (xs[k] == n)
   ·have HG : Hid (xs[k] ≠ n) := by unfold Hid; simpa using g
    go_wp2
    go_roundw
    case rel => exact ⟨k + 1, by omega, by go_num, HBL.out, fun j h h' => by
      by_cases e : j = k
      ·subst e; exact HG.out
      ·exact HX.out j h (by omega)⟩
    case measure => simp [intOf]; omega
   ·have HG : Hid (xs.contains n = true) := by
     unfold Hid
     rw [List.contains_iff_mem]
     exact (eq_of_beq g) ▸ List.getElem_mem hlt
    go_wp2
    go_ret
    exact ⟨ret_bool HG.out.symm, HBL.out⟩
  ·clear hrow hbl
   go_wp2
   go_ret
   refine ⟨ret_bool ?_, HBL.out⟩
   symm
   rw [Bool.eq_false_iff]
   intro h
   rw [List.contains_iff_mem] at h
   obtain ⟨j, hj, e⟩ := List.mem_iff_getElem.1 h
   exact HX.out j hj (by omega) e

set_option maxRecDepth 100000 in
set_option maxHeartbeats 1000000 in
theorem l00Same_any (lo lo2 : Nat) (v v2 : Value) (xs ys : List Int) (w : World) (hv : SliceK 1 encI lo w v xs) (hv2 : SliceK 1 encI lo2 w v2 ys) : Calls Tryz.prog 37 #[v, v2] w fun e w' => e = .returned (.bool (xs == ys)) ∧ Below w.heap.size w w' := by
 obtain ⟨a, cap, rfl, hn, hcap, hrow⟩ := hv
 obtain ⟨a2, cap2, rfl, hn2, hcap2, hrow2⟩ := hv2
 by_cases hl : xs.length = ys.length
 ·have hl1 : ((xs.length : Int) == (ys.length : Int)) = true := by rw [beq_iff_eq]; omega
  have HL := Lib.hid hl
  rw [← hl] at hn2
  have hl2 : (ys.length : Int) = (xs.length : Int) := by omega
  clear hl
  go_enter Tryz.func37, Tryz.ntmps37
  go_wp2
  clear hl1
  go_loopw [5] (fun i wr => ∃ k : Nat, k ≤ xs.length ∧ i = .int .i64 k ∧ Below w.heap.size w wr ∧ ∀ j (h : j < xs.length) (h2 : j < ys.length), j < k → xs[j] = ys[j]) (fun i _ => xs.length - (intOf i).toNat)
  case atStart => exact ⟨0, Nat.zero_le _, rfl, Below.refl _ _, fun _ _ _ h => by omega⟩
  case round =>
   obtain ⟨k, hk, rfl, hbl, hx⟩ := hrel
   have HX := Lib.hid hx
   have HBL := Lib.hid hbl
   have hsz := hbl.size
   clear hx
   by_cases hlt : k < xs.length
   ·have hlt2 : k < ys.length := by have := HL.out; omega
    obtain ⟨b, o, rfl, -, hb, c⟩ := (hrow.below hbl).one hlt
    obtain ⟨b2, o2, rfl, -, hb2, c2⟩ := (hrow2.below hbl).one hlt2
    simp only [encI, List.getElem?_cons_zero] at c c2
    have s1 := later_cell hb c
    have s2 := later_cell hb2 c2
    clear hrow hrow2 hbl c c2
    cases g : (xs[k] == ys[k])
    ·have HG : Hid ((xs == ys) = false) := by
      unfold Hid
      rw [beq_eq_false_iff_ne] at g ⊢
      intro e
      subst e
      exact g rfl
     go_wp2
     refine wp_region_later (by kernel_rfl) (by kernel_rfl) ?_
     repeat (go_big_quiet_step ((fail)))
     refine wpQuiet_nil ?_
     intro _ hw9
     obtain ⟨nl, hw8⟩ := hw9
     subst hw8
     go_wp2
     go_ret
     exact ⟨ret_bool HG.out.symm, HBL.out.trans (nl.h.mono hsz)⟩
    ·have HG : Hid (xs[k] = ys[k]) := eq_of_beq g
     go_wp2
     refine wp_region_later (by kernel_rfl) (by kernel_rfl) ?_
     repeat (go_big_quiet_step ((fail)))
     refine wpQuiet_nil ?_
     intro _ hw9
     obtain ⟨nl, hw8⟩ := hw9
     subst hw8
     go_wp2
     go_roundw
     case rel => exact ⟨k + 1, by omega, by go_num, HBL.out.trans (nl.h.mono hsz), fun j h h2 h' => by
       by_cases e : j = k
       ·subst e; exact HG.out
       ·exact HX.out j h h2 (by omega)⟩
     case measure => simp [intOf]; omega
   ·clear hrow hrow2 hbl
    go_wp2
    go_ret
    refine ⟨ret_bool ?_, HBL.out⟩
    symm
    rw [beq_iff_eq]
    exact List.ext_getElem HL.out (fun j h1 h2 => HX.out j h1 h2 (by omega))
 ·have hl1 : ((xs.length : Int) == (ys.length : Int)) = false := by rw [beq_eq_false_iff_ne]; omega
  have HG : Hid ((xs == ys) = false) := by
   unfold Hid
   rw [beq_eq_false_iff_ne]
   exact fun e => hl (by rw [e])
  clear hl hrow hrow2
  go_enter Tryz.func37, Tryz.ntmps37
  go_wp2
  go_ret
  exact ⟨ret_bool HG.out.symm, Below.refl _ _⟩

end Go.Proofs.YtmhpfmanagbggaaGreatDoor

namespace Go.Proofs.YtmhpfmanagbggaaGreatDoor
open Go Go.RowKit

set_option maxRecDepth 100000 in
set_option maxHeartbeats 1000000 in
theorem l14List_any (lo : Nat) (v : Value) (l : List Bool) (w : World) (hsmall : l.length ≤ 1073741824) (hv : SliceK 1 encB lo w v l) : Calls Tryz.prog 64 #[v] w (MadeNums (truesTo l l.length) w) := by
 obtain ⟨a, cap, rfl, hn, hcap, hrow⟩ := hv
 obtain ⟨i0, hi, hz0, hz1, hz2⟩ := info_parts info_int64
 go_enter Tryz.func64, Tryz.ntmps64
 go_wp2
 go_loopw [3, 4] (fun v i wr => ∃ k : Nat, k ≤ l.length ∧ i = .int .i64 k ∧ Below w.heap.size w wr ∧ wr.ownsRow w.heap.size 2 1 v (truesTo l k).length ((truesTo l k).map (Value.int .i64))) (fun _ i _ => l.length - (intOf i).toNat)
 case atStart => exact ⟨0, Nat.zero_le _, rfl, (Below.refl _ _).alloc (Nat.le_refl _) _, World.ownsRow_lit (size := 1) w #[] 0 (Nat.le_refl _) (by simp [maxLen]) rfl⟩
 case round =>
  obtain ⟨k, hk, rfl, hbl, ho⟩ := hrel
  have HBL := Lib.hid hbl
  have HO := Lib.hid ho
  have hsz := hbl.size
  have hfl := truesTo_len l k
  have HT := Lib.hid (truesTo_succ l k)
  clear hbl ho
  by_cases hlt : k < l.length
  ·obtain ⟨b, o, rfl, -, hb, c⟩ := (hrow.below HBL.out).one hlt
   simp only [encB, List.getElem?_cons_zero] at c
   have hgd : l[k] = l.getD k false := by simp [List.getD, hlt]
   rw [hgd] at c
   clear hrow hgd
   cases hg : l.getD k false
   ·rw [hg] at c HT
    clear hg
    go_wp2
    go_roundw
    case rel => exact ⟨k + 1, by omega, by go_num, HBL.out, by rw [HT.out]; simpa using HO.out⟩
    case measure => simp [intOf]; omega
   ·rw [hg] at c HT
    clear hg
    obtain ⟨fs, hfs⟩ : ∃ fs, fs = truesTo l k := ⟨_, rfl⟩
    rw [← hfs] at HO HT hfl
    clear hfs
    go_wp2_with (at_builtin; refine wpList_append_own _ rfl _ _ 30 rfl w.heap.size 2 i0 (.int .i64 0) 1 8 Tryz.underlying30 hi hz0 hz1 hz2 rfl (by decide) _ _ _ rfl (HO.out.alloc _) ⟨wr.heap.size, 0, none⟩ 1 1 [.int .i64 k] rfl rfl ?c1 ?c2 ?c3 ?c4 ?c5 ?_)
    case c2 => rfl
    case c3 => simp [maxLen]; omega
    case c4 => omega
    case c5 => omega
    intro v' w3 ho1 hg1 _
    have HO2 : Hid (w3.ownsRow w.heap.size 2 1 v' (fs ++ [(k : Int)]).length ((fs ++ [(k : Int)]).map (Value.int .i64))) := by
     unfold Hid
     rw [List.length_append, List.map_append]
     exact ho1
    have HB2 : Hid (Below w.heap.size w w3) := (HBL.out.alloc hsz _).grown hg1 (by simp; omega) (fun b e => (HO.out.lt b e).1)
    clear ho1 hg1
    go_wp2
    go_roundw
    case rel => exact ⟨k + 1, by omega, by go_num, HB2.out, by rw [HT.out, if_pos trivial]; exact HO2.out⟩
    case measure => simp [intOf]; omega
  ·clear hrow
   go_wp2
   go_ret
   obtain rfl : k = l.length := by omega
   exact ⟨_, rfl, HBL.out, HO.out⟩

/-- A list of truth values of the call's own. -/
def MadeBools (n : Nat) (P : List Bool → Prop) (w : World) (e : Ending) (w' : World) : Prop :=
 ∃ (g : Nat) (l : List Bool), e = .returned (.slice (some ⟨g, 0, none⟩) n n) ∧ P l ∧ Below w.heap.size w w' ∧ w'.ownsRow w.heap.size 4 1 (.slice (some ⟨g, 0, none⟩) n n) n (l.map Value.bool)

/-- True just at the numbers in s. -/
def MarkOf (n : Nat) (s : List Int) (l : List Bool) : Prop := l.length = n ∧ ∀ x, inL l x ↔ x ∈ s
theorem MarkOf.start (n : Nat) : MarkOf n [] (List.replicate n false) := by
 refine ⟨List.length_replicate, fun x => ⟨fun h => ?_, fun h => by simp at h⟩⟩
 have h1 := h.2
 rw [List.getElem?_replicate] at h1
 split at h1 <;> simp at h1
theorem MarkOf.set {n : Nat} {s : List Int} {l : List Bool} (h : MarkOf n s l) {x : Int} (h0 : 0 ≤ x) (h1 : x < n) : MarkOf n (s ++ [x]) (l.set x.toNat true) := by
 refine ⟨by rw [List.length_set]; exact h.1, fun y => ?_⟩
 rw [List.mem_append, List.mem_singleton, ← h.2 y]
 unfold inL
 rw [set_true_get (by have := h.1; omega)]
 constructor
 ·rintro ⟨hy, h2 | h2⟩
  ·exact .inr (by omega)
  ·exact .inl ⟨hy, h2⟩
 ·rintro (h2 | rfl)
  ·exact ⟨h2.1, .inr h2.2⟩
  ·exact ⟨h0, .inl rfl⟩

theorem info_bool16 : (Tryz.prog.info? 4).map (fun i => (i.zero, i.size, i.bytes)) = some (some (.bool false), 1, 1) := by kernel_rfl

set_option maxRecDepth 100000 in
set_option maxHeartbeats 2000000 in
theorem l12Marks_any (p lo lo2 : Nat) (t : Lts) (v : Value) (s : List Int) (w : World) (h1 : 1 ≤ t.states) (h2 : t.states ≤ 40) (hs : ∀ x ∈ s, 0 ≤ x ∧ x < t.states) (hp : LtsPtr lo w p t) (hv : SliceK 1 encI lo2 w v s) :
  Calls Tryz.prog 62 #[.pointer (some ⟨p, 0, none⟩), v] w (MadeBools t.states.toNat (MarkOf t.states.toNat s) w) := by
 obtain ⟨lv, ev, hpl, q0, -⟩ := hp
 obtain ⟨a, cap, rfl, hn, hcap, hrow⟩ := hv
 obtain ⟨N, hN⟩ : ∃ N : Nat, (N : Int) = t.states := ⟨t.states.toNat, by omega⟩
 rw [← hN] at q0 h1 h2 hs ⊢
 rw [Int.toNat_natCast]
 have HS := Lib.hid hs
 obtain ⟨ib, hib, hzb0, hzb1, hzb2⟩ := info_parts info_bool16
 clear hN hs
 go_enter Tryz.func62, Tryz.ntmps62
 go_wp2_with (at_make; refine wpList_make_full _ rfl _ _ 59 rfl w.heap.size 4 ib _ 1 Tryz.underlying59 hib hzb0 hzb1 .i64 .i64 _ _ N rfl rfl rfl rfl ?_ ?_ ?_ ?_)
 ·rw [hzb2]; omega
 ·simp [maxLen]; omega
 ·exact Nat.le_refl _
 intro w1 ho hg
 rw [toList_madeCells_one] at ho
 obtain ⟨G, hG⟩ : ∃ G, G = w.heap.size := ⟨_, rfl⟩
 have HB1 : Hid (Below w.heap.size w w1) := (Below.refl _ w).grown hg (Nat.le_refl _) (fun _ h => by cases h)
 rw [← hG] at ho ⊢
 have HO : Hid (w1.ownsRow G 4 1 (.slice (some ⟨G, 0, none⟩) N N) N ((List.replicate N false).map Value.bool)) := by
  unfold Hid; simpa using ho
 have HG := Lib.hid hG
 clear ho hg hG hib hzb0 hzb1 hzb2
 go_wp2
 go_loopw [6] (fun i wr => ∃ (k : Nat) (l : List Bool), k ≤ s.length ∧ i = .int .i64 k ∧ MarkOf N (s.take k) l ∧ Below w.heap.size w wr ∧ wr.ownsRow G 4 1 (.slice (some ⟨G, 0, none⟩) N N) N (l.map Value.bool)) (fun i _ => s.length - (intOf i).toNat)
 case atStart => exact ⟨0, List.replicate N false, Nat.zero_le _, rfl, MarkOf.start N, HB1.out, HO.out⟩
 case round =>
  clear HO HB1
  obtain ⟨k, l, hk, rfl, hm, hbl, ho⟩ := hrel
  have HM := Lib.hid hm
  have HBL := Lib.hid hbl
  have HO := Lib.hid ho
  have hll := hm.1
  clear hbl ho hm
  by_cases hlt : k < s.length
  ·obtain ⟨b, o, rfl, -, hb, c⟩ := (hrow.below HBL.out).one hlt
   simp only [encI, List.getElem?_cons_zero] at c
   have hin := HS.out _ (List.getElem_mem hlt)
   have HT : Hid (s.take (k + 1) = s.take k ++ [s[k]]) := List.take_succ_eq_append_getElem hlt
   obtain ⟨x, hx⟩ : ∃ x, x = s[k] := ⟨_, rfl⟩
   rw [← hx] at c hin HT
   obtain ⟨m, hm⟩ : ∃ m : Nat, (m : Int) = x := ⟨x.toNat, by omega⟩
   have hmn : m < N := by omega
   rw [← hm] at c HT
   have HO2 := Lib.hid (HO.out.stored m (.bool true)).1
   have c2 := cell_bool HO.out hmn
   have c3 := HO.out.frozenAt m
   clear hrow hx hin hm
   go_wp2
   go_roundw
   case rel =>
    refine ⟨k + 1, l.set m true, by omega, by go_num, ?_, HBL.out.setCell (by rw [HG.out]; exact Nat.le_refl _) _, ?_⟩
    ·rw [HT.out]
     exact HM.out.set (x := (m : Int)) (by omega) (by omega)
    ·rw [List.map_set]; exact HO2.out
   case measure => simp [intOf]; omega
  ·clear hrow
   go_wp2
   go_ret
   obtain rfl : k = s.length := by omega
   refine ⟨_, l, rfl, ?_, HBL.out, ?_⟩
   ·have := HM.out; rw [List.take_length] at this; exact this
   ·rw [← HG.out]; exact HO.out

end Go.Proofs.YtmhpfmanagbggaaGreatDoor

namespace Go.Proofs.YtmhpfmanagbggaaGreatDoor
open Go Go.RowKit

/-- What holds of the marks ahead of a sweep. -/
structure CloseRel (t : Lts) (l : List Bool) (N B g : Nat) (w0 wr : World) (gk : Nat) (good : List Bool) (b : Bool) : Prop where
 len : good.length = N
 ok : CoOk (tauPairs t) (markB l) good
 done : b = false → CoDone (tauPairs t) good
 left : 2 * falses good + b.toNat ≤ gk
 below : Below w0.heap.size w0 wr
 own : wr.ownsRow B 4 1 (.slice (some ⟨g, 0, none⟩) N N) N (good.map Value.bool)

theorem tauPairs_len (t : Lts) : (tauPairs t).length = t.edges.length := List.length_map _
theorem tauPairs_get {t : Lts} {k : Nat} (h : k < (tauPairs t).length) (h' : k < t.edges.length) : (tauPairs t)[k] = tauPair t.edges[k] := List.getElem_map _

set_option maxRecDepth 100000 in
set_option maxHeartbeats 4000000 in
theorem l12Close_any (p lo g N : Nat) (t : Lts) (l : List Bool) (w0 w : World) (hv : Valid t) (hl : l.length = N) (hN : (N : Int) = t.states) (hp : LtsPtr lo w0 p t) (hb : Below w0.heap.size w0 w)
  (ho : w.ownsRow w0.heap.size 4 1 (.slice (some ⟨g, 0, none⟩) N N) N (l.map Value.bool)) :
  Calls Tryz.prog 63 #[.pointer (some ⟨p, 0, none⟩), .slice (some ⟨g, 0, none⟩) N N] w fun e w' => e = .returned (.tuple #[]) ∧ Below w0.heap.size w0 w'
   ∧ ∃ good : List Bool, good.length = N ∧ (∀ x, inL good x ↔ clos t (inL l) x) ∧ w'.ownsRow w0.heap.size 4 1 (.slice (some ⟨g, 0, none⟩) N N) N (good.map Value.bool) := by
 have HV := Lib.hid hv
 have HN := Lib.hid hN
 obtain ⟨lv, ev, hpl, -, -, -, q3, -, he⟩ := hp
 obtain ⟨ae, ce, rfl, hen, hec, hrow⟩ := he
 have HQ3 := Lib.hid q3
 have HR := Lib.hid hrow
 have hmost := hv.most
 have hNs : N ≤ 40 := by have := hv.st1; omega
 have HB := Lib.hid hb
 have HO := Lib.hid ho
 have hg0 : w0.heap.size ≤ g := (ho.lt _ rfl).1
 obtain ⟨B, hB⟩ : ∃ B, B = w0.heap.size := ⟨_, rfl⟩
 rw [← hB] at HO hg0 ⊢
 have HBE := Lib.hid hB
 clear hv hN hb ho q3 hrow hB
 go_enter Tryz.func63, Tryz.ntmps63
 go_wp2
 go_loopg [4] (2 * N + 1) (fun gk v4 w4 => ∃ (good : List Bool) (b : Bool), v4 = .bool b ∧ CloseRel t l N B g w0 w4 gk good b)
 case atStart =>
  refine ⟨l, true, rfl, hl, markB_ok t l, (fun h => by cases h), ?_, HB.out, HO.out⟩
  have := falses_le l; simp; omega
 case round =>
  obtain ⟨good, b, rfl, hrel⟩ := hrel
  have HG := Lib.hid hrel
  have hgl := hrel.len
  clear hrel HO HB
  cases b
  ·go_wp2
   go_end0
   exact ⟨rfl, by rw [HBE.out]; exact HG.out.below, good, hgl, fun x => rest_clos HV.out HG.out.ok (HG.out.done rfl) x, HG.out.own⟩
  ·go_wp2
   go_loopw [4, 5] (fun v4 v5 w5 => ∃ (k : Nat) (more : Bool) (good5 : List Bool), v4 = .bool more ∧ v5 = .int .i64 k ∧ k ≤ t.edges.length ∧ Sweep (tauPairs t) (markB l) good good5 k more
    ∧ Below w0.heap.size w0 w5 ∧ w5.ownsRow B 4 1 (.slice (some ⟨g, 0, none⟩) N N) N (good5.map Value.bool)) (fun _ v5 _ => t.edges.length - (intOf v5).toNat)
   case atStart => exact ⟨0, false, good, rfl, rfl, Nat.zero_le _, Sweep.start HG.out.ok, HG.out.below, HG.out.own⟩
   case round =>
    obtain ⟨k, more, good5, rfl, rfl, hk, hsw, hb5, ho5⟩ := hrel
    have HSW := Lib.hid hsw
    have HB5 := Lib.hid hb5
    have HO5 := Lib.hid ho5
    have hs5 := hb5.size
    have hl5 : good5.length = N := by rw [hsw.len, hgl]
    have q3 := keeps hb5 hpl HQ3.out
    clear hsw
    by_cases hlt : k < t.edges.length
    ·obtain ⟨be, oe, rfl, -, hbe, e1, e2, e3⟩ := (HR.out.below HB5.out).edge hlt
     have hkp : k < (tauPairs t).length := by rw [tauPairs_len]; exact hlt
     have hpg := tauPairs_get hkp hlt
     have hok := HV.out.edge k hlt
     have h1 := hok.s0
     have h2 := hok.s1
     have h3 := hok.d0
     have h4 := hok.d1
     have h5 := HN.out
     obtain ⟨e, hee⟩ : ∃ e, e = t.edges[k] := ⟨_, rfl⟩
     rw [← hee] at e1 e2 e3 hpg h1 h2 h3 h4
     obtain ⟨es, hes⟩ : ∃ es : Nat, (es : Int) = e.src := ⟨e.src.toNat, by omega⟩
     obtain ⟨ed, hed⟩ : ∃ ed : Nat, (ed : Int) = e.dst := ⟨e.dst.toNat, by omega⟩
     have hsn : es < N := by omega
     have hdn : ed < N := by omega
     obtain ⟨el, hel⟩ : ∃ el, el = e.lab := ⟨_, rfl⟩
     rw [← hes] at e1
     rw [← hed] at e3
     rw [← hel] at e2
     have HP : Hid ((tauPairs t)[k] = if el = 0 then (ed, es) else (0, 0)) := by
      unfold Hid
      rw [hpg]
      unfold tauPair
      rw [← hel, show e.dst.toNat = ed by omega, show e.src.toNat = es by omega]
     clear hpg hok h1 h2 h3 h4 h5 hee hes hed hel hb5 ho5
     by_cases hl0 : el = 0
     ·subst hl0
      have HP2 : Hid ((tauPairs t)[k] = (ed, es)) := HP.out
      cases hgs : good5.getD es false
      ·have HGS := Lib.hid (getD_some (by rw [hl5]; exact hsn) hgs)
       have cs := cell_bool (HO5.out.alloc (.cells #[.int .i64 es, .int .i64 0, .int .i64 ed] 67)) hsn
       rw [hgs] at cs
       clear hgs
       go_wp2
       go_roundw
       case rel => exact ⟨k + 1, more, good5, rfl, by go_num, by omega, HSW.out.skip hkp (fun h => by rw [HP2.out, HGS.out] at h; cases h), HB5.out.alloc hs5 _, HO5.out.alloc _⟩
       case measure => simp [intOf]; omega
      ·have HGS := Lib.hid (getD_some (by rw [hl5]; exact hsn) hgs)
       have cs := cell_bool (HO5.out.alloc (.cells #[.int .i64 es, .int .i64 0, .int .i64 ed] 67)) hsn
       rw [hgs] at cs
       clear hgs
       cases hgd : good5.getD ed false
       ·have HGD := Lib.hid (getD_some (by rw [hl5]; exact hdn) hgd)
        have cd := cell_bool (HO5.out.alloc (.cells #[.int .i64 es, .int .i64 0, .int .i64 ed] 67)) hdn
        rw [hgd] at cd
        have f1 := (HO5.out.alloc (.cells #[.int .i64 es, .int .i64 0, .int .i64 ed] 67)).frozenAt ed
        clear hgd
        go_wp2
        go_roundw
        case rel =>
         refine ⟨k + 1, true, good5.set ed true, rfl, by go_num, by omega, ?_, (HB5.out.alloc hs5 _).setCell (by rw [← HBE.out]; exact hg0) _, ?_⟩
         ·have := HSW.out.turn hkp (by rw [HP2.out]; exact HGS.out) (by rw [HP2.out]; exact HGD.out)
          rw [HP2.out] at this
          exact this
         ·rw [List.map_set]; exact ((HO5.out.alloc _).stored ed (.bool true)).1
        case measure => simp [intOf]; omega
       ·have HGD := Lib.hid (getD_some (by rw [hl5]; exact hdn) hgd)
        have cd := cell_bool (HO5.out.alloc (.cells #[.int .i64 es, .int .i64 0, .int .i64 ed] 67)) hdn
        rw [hgd] at cd
        clear hgd
        go_wp2
        go_roundw
        case rel => exact ⟨k + 1, more, good5, rfl, by go_num, by omega, HSW.out.skip hkp (fun _ => by rw [HP2.out]; exact HGD.out), HB5.out.alloc hs5 _, HO5.out.alloc _⟩
        case measure => simp [intOf]; omega
     ·have HP2 : Hid ((tauPairs t)[k] = (0, 0)) := by unfold Hid; rw [HP.out, if_neg hl0]
      go_wp2
      go_roundw
      case rel => exact ⟨k + 1, more, good5, rfl, by go_num, by omega, HSW.out.skip hkp (fun h => by rw [HP2.out] at h ⊢; exact h), HB5.out.alloc hs5 _, HO5.out.alloc _⟩
      case measure => simp [intOf]; omega
    ·obtain rfl : k = t.edges.length := by omega
     have HSE : Hid (Sweep (tauPairs t) (markB l) good good5 (tauPairs t).length more) := by unfold Hid; rw [tauPairs_len]; exact HSW.out
     clear hb5 ho5
     go_wp2
     go_roundg (2 * falses good5 + more.toNat)
     case measure =>
      have h1 := HG.out.left
      cases more
      ·have h2 := (HSE.out.no rfl).1
       rw [h2]
       simp only [Bool.toNat_true, Bool.toNat_false] at *
       omega
      ·have h2 := HSE.out.yes rfl
       simp only [Bool.toNat_true] at *
       omega
     case rel =>
      refine ⟨good5, more, rfl, hl5, HSE.out.ok, (fun h => ?_), Nat.le_refl _, HB5.out, HO5.out⟩
      subst h
      exact HSE.out.done

end Go.Proofs.YtmhpfmanagbggaaGreatDoor

namespace Go.Proofs.YtmhpfmanagbggaaGreatDoor
open Go Go.RowKit

theorem truesTo_is (l : List Bool) : IsSet (inL l) (truesTo l l.length) where
 mem x := by
  unfold truesTo inL
  rw [List.mem_map]
  constructor
  ·rintro ⟨i, hi, rfl⟩
   rw [List.mem_filter, List.mem_range] at hi
   refine ⟨by omega, ?_⟩
   rw [Int.toNat_natCast]
   exact getD_some hi.1 hi.2
  ·rintro ⟨h0, h1⟩
   have hlt := (List.getElem?_eq_some_iff.1 h1).1
   refine ⟨x.toNat, ?_, by omega⟩
   rw [List.mem_filter, List.mem_range]
   refine ⟨hlt, ?_⟩
   rw [List.getD_eq_getElem?_getD, h1]
   rfl
 asc := by
  unfold truesTo
  rw [List.pairwise_map]
  exact List.Pairwise.imp (fun h => by omega) (List.Pairwise.filter _ List.pairwise_lt_range)
theorem clos.congr {t : Lts} {S Q : Int → Prop} (h : ∀ x, S x ↔ Q x) (x : Int) : clos t S x ↔ clos t Q x := by
 have : S = Q := funext fun x => propext (h x)
 rw [this]
set_option maxRecDepth 100000 in
set_option maxHeartbeats 2000000 in
theorem l12First_any (p lo : Nat) (t : Lts) (w : World) (hv : Valid t) (hp : LtsPtr lo w p t) : Calls Tryz.prog 33 #[.pointer (some ⟨p, 0, none⟩)] w (MadeNums (firstS t) w) := by
 have HV := Lib.hid hv
 have HP := Lib.hid hp
 have hst1 := hv.st0
 have hst2 := hv.st1
 obtain ⟨lv, ev, hpl, q0, q1, -⟩ := hp
 obtain ⟨N, hN⟩ : ∃ N : Nat, (N : Int) = t.states := ⟨t.states.toNat, by omega⟩
 have hNN : t.states.toNat = N := by omega
 have HN := Lib.hid hN
 obtain ⟨w1, hw1⟩ : ∃ w1, w1 = w.alloc (.cells #[.int .i64 t.initial] 2) := ⟨_, rfl⟩
 have HB1 : Hid (Below w.heap.size w w1) := by unfold Hid; rw [hw1]; exact (Below.refl _ _).alloc (Nat.le_refl _) _
 have HS1 : Hid (SliceK 1 encI w.heap.size w1 (.slice (some ⟨w.heap.size, 0, none⟩) 1 1) [t.initial]) := by
  unfold Hid
  rw [hw1]
  exact SliceK.of_owns (enc := encI) (e := 2) (fun _ => rfl) rfl (by rw [flat_encI]; exact World.ownsRow_lit (size := 1) w #[.int .i64 t.initial] 1 (Nat.le_refl _) (by decide) rfl)
 have HC := Lib.hid (l12Marks_any p lo w.heap.size t _ [t.initial] w1 hst1 hst2 (fun x hx => by rw [List.mem_singleton] at hx; subst hx; exact ⟨hv.in0, hv.in1⟩) (HP.out.below HB1.out) HS1.out)
 rw [hNN] at HC
 clear hv hN hNN
 go_enter Tryz.func33, Tryz.ntmps33
 go_wp2_with fail
 rw [← hw1]
 refine Calls.mono HC.out ?_
 rintro e2 w2 ⟨g, l, rfl, hm, hb2, ho2⟩
 have HM := Lib.hid hm
 have HB2 := Lib.hid hb2
 have HCL := Lib.hid (l12Close_any p lo g N t l w1 w2 HV.out hm.1 HN.out (HP.out.below HB1.out) hb2 ho2)
 clear hm hb2 ho2 HC
 go_wp2_with fail
 refine Calls.mono HCL.out ?_
 rintro e3 w3 ⟨rfl, hb3, good, hgl, hgc, ho3⟩
 have HGC := Lib.hid hgc
 have HB3 := Lib.hid (HB1.out.trans (hb3.mono HB1.out.size))
 have HS3 := Lib.hid (SliceK.of_owns (enc := encB) (e := 4) (xs := good) encB_len hgl.symm (by rw [flat_encB]; exact ho3))
 have HC4 := Lib.hid (l14List_any w1.heap.size _ good w3 (by have := HN.out; omega) HS3.out)
 clear hb3 hgc ho3 HCL
 go_wp2_with fail
 refine Calls.mono HC4.out ?_
 rintro e4 w4 ⟨v4, rfl, hb4, ho4⟩
 have hset : truesTo good good.length = firstS t := by
  refine (truesTo_is good).unique ((firstS_is HV.out).congr fun x => ?_)
  rw [HGC.out x]
  refine (clos.congr (fun y => ?_) x).symm
  rw [HM.out.2 y, List.mem_singleton]
 have HO4 := Lib.hid (own_lower ho4 HB3.out.size)
 have HB4 := Lib.hid (HB3.out.trans (hb4.mono HB3.out.size))
 rw [hset] at HO4
 clear hb4 ho4 HC4 hset
 go_wp2
 go_ret
 exact ⟨_, rfl, HB4.out, HO4.out⟩

/-- True just at what the first j edges with the number k lead to from cur. -/
def BehindTo (t : Lts) (cur : List Int) (k : Int) (n j : Nat) (l : List Bool) : Prop := l.length = n ∧ ∀ x, inL l x ↔ ∃ e ∈ t.edges.take j, e.lab = k ∧ e.src ∈ cur ∧ e.dst = x
theorem BehindTo.start (t : Lts) (cur : List Int) (k : Int) (n : Nat) : BehindTo t cur k n 0 (List.replicate n false) :=
 ⟨List.length_replicate, fun x => ⟨fun h => by have := ((MarkOf.start n).2 x).1 h; simp at this, fun ⟨e, he, _⟩ => by simp at he⟩⟩
theorem BehindTo.skip {t : Lts} {cur : List Int} {k : Int} {n j : Nat} {l : List Bool} (h : BehindTo t cur k n j l) (hj : j < t.edges.length) (hno : ¬ (t.edges[j].lab = k ∧ t.edges[j].src ∈ cur)) : BehindTo t cur k n (j + 1) l := by
 refine ⟨h.1, fun x => ?_⟩
 rw [h.2 x, List.take_succ_eq_append_getElem hj]
 constructor
 ·rintro ⟨e, he, r⟩
  exact ⟨e, List.mem_append.2 (.inl he), r⟩
 ·rintro ⟨e, he, h1, h2, h3⟩
  rcases List.mem_append.1 he with he | he
  ·exact ⟨e, he, h1, h2, h3⟩
  ·rw [List.mem_singleton] at he
   subst he
   exact absurd ⟨h1, h2⟩ hno
theorem BehindTo.turn {t : Lts} {cur : List Int} {k : Int} {n j : Nat} {l : List Bool} (h : BehindTo t cur k n j l) (hj : j < t.edges.length) (h1 : t.edges[j].lab = k) (h2 : t.edges[j].src ∈ cur) {d : Nat} (hd : (d : Int) = t.edges[j].dst) (hn : d < n) :
  BehindTo t cur k n (j + 1) (l.set d true) := by
 refine ⟨by rw [List.length_set]; exact h.1, fun x => ?_⟩
 rw [List.take_succ_eq_append_getElem hj]
 unfold inL
 rw [set_true_get (by have := h.1; omega)]
 constructor
 ·rintro ⟨hy, h3 | h3⟩
  ·exact ⟨_, List.mem_append.2 (.inr (List.mem_singleton.2 rfl)), h1, h2, by omega⟩
  ·obtain ⟨e, he, r⟩ := (h.2 x).1 ⟨hy, h3⟩
   exact ⟨e, List.mem_append.2 (.inl he), r⟩
 ·rintro ⟨e, he, h3, h4, h5⟩
  rcases List.mem_append.1 he with he | he
  ·have := (h.2 x).2 ⟨e, he, h3, h4, h5⟩
   exact ⟨this.1, .inr this.2⟩
  ·rw [List.mem_singleton] at he
   subst he
   exact ⟨by omega, .inl (by omega)⟩

set_option maxRecDepth 100000 in
set_option maxHeartbeats 4000000 in
theorem l12Next_any (p lo lo2 : Nat) (t : Lts) (v : Value) (cur : List Int) (q : Int) (w : World) (hv : Valid t) (hp : LtsPtr lo w p t) (hs : SliceK 1 encI lo2 w v cur) :
  Calls Tryz.prog 35 #[.pointer (some ⟨p, 0, none⟩), v, .int .i64 q] w (MadeNums (nextS t cur q) w) := by
 have HV := Lib.hid hv
 have HP := Lib.hid hp
 have HS := Lib.hid hs
 have hst1 := hv.st0
 have hst2 := hv.st1
 have hmost := hv.most
 obtain ⟨lv, ev, hpl, q0, -, -, q3, -, he⟩ := hp
 obtain ⟨ae, ce, rfl, hen, hec, hrow⟩ := he
 obtain ⟨a, cap, rfl, hn, hcap, -⟩ := hs
 obtain ⟨N, hN⟩ : ∃ N : Nat, (N : Int) = t.states := ⟨t.states.toNat, by omega⟩
 rw [← hN] at q0 hst1 hst2
 have HN := Lib.hid hN
 have HQ3 := Lib.hid q3
 have HR := Lib.hid hrow
 obtain ⟨ib, hib, hzb0, hzb1, hzb2⟩ := info_parts info_bool16
 clear hv hN hrow
 go_enter Tryz.func35, Tryz.ntmps35
 go_wp2_with (at_make; refine wpList_make_full _ rfl _ _ 59 rfl w.heap.size 4 ib _ 1 Tryz.underlying59 hib hzb0 hzb1 .i64 .i64 _ _ N rfl rfl rfl rfl ?_ ?_ ?_ ?_)
 ·rw [hzb2]; omega
 ·simp [maxLen]; omega
 ·exact Nat.le_refl _
 intro w1 ho hg
 rw [toList_madeCells_one] at ho
 obtain ⟨G, hG⟩ : ∃ G, G = w.heap.size := ⟨_, rfl⟩
 have HB1 : Hid (Below w.heap.size w w1) := (Below.refl _ w).grown hg (Nat.le_refl _) (fun _ h => by cases h)
 rw [← hG] at ho ⊢
 have HO : Hid (w1.ownsRow G 4 1 (.slice (some ⟨G, 0, none⟩) N N) N ((List.replicate N false).map Value.bool)) := by
  unfold Hid; simpa using ho
 have HG := Lib.hid hG
 clear ho hg hG hib hzb0 hzb1 hzb2 q0 q3
 go_wp2
 go_loopw [8] (fun i wr => ∃ (k : Nat) (l : List Bool), k ≤ t.edges.length ∧ i = .int .i64 k ∧ BehindTo t cur q N k l ∧ Below w.heap.size w wr ∧ wr.ownsRow G 4 1 (.slice (some ⟨G, 0, none⟩) N N) N (l.map Value.bool)) (fun i _ => t.edges.length - (intOf i).toNat)
 case atStart => exact ⟨0, List.replicate N false, Nat.zero_le _, rfl, BehindTo.start t cur q N, HB1.out, HO.out⟩
 case round =>
  clear HO HB1
  obtain ⟨k, l, hk, rfl, hm, hbl, ho⟩ := hrel
  have HM := Lib.hid hm
  have HBL := Lib.hid hbl
  have HO := Lib.hid ho
  have hll := hm.1
  have q3 := keeps hbl hpl HQ3.out
  clear hbl ho hm
  by_cases hlt : k < t.edges.length
  ·obtain ⟨be, oe, rfl, -, hbe, e1, e2, e3⟩ := (HR.out.below HBL.out).edge hlt
   have hok := HV.out.edge k hlt
   have h3 := hok.d0
   have h4 := hok.d1
   have h5 := HN.out
   obtain ⟨e, hee⟩ : ∃ e, e = t.edges[k] := ⟨_, rfl⟩
   rw [← hee] at e1 e2 e3 h3 h4
   have HE := Lib.hid hee
   obtain ⟨ed, hed⟩ : ∃ ed : Nat, (ed : Int) = e.dst := ⟨e.dst.toNat, by omega⟩
   have hdn : ed < N := by omega
   rw [← hed] at e3
   have HED := Lib.hid hed
   obtain ⟨es, hes⟩ : ∃ es, es = e.src := ⟨_, rfl⟩
   obtain ⟨el, hel⟩ : ∃ el, el = e.lab := ⟨_, rfl⟩
   rw [← hes] at e1
   rw [← hel] at e2
   have HES := Lib.hid hes
   have HEL := Lib.hid hel
   clear hok h3 h4 h5 hee hed hes hel
   by_cases hq : el = q
   ·subst hq
    have HH := Lib.hid (l00Has_any lo2 _ cur es wr (HS.out.below HBL.out))
    obtain ⟨c, hc⟩ : ∃ c, c = cur.contains es := ⟨_, rfl⟩
    rw [← hc] at HH
    have HC := Lib.hid hc
    clear hc
    go_wp2_with fail
    refine Calls.mono HH.out ?_
    rintro e0 w2 ⟨rfl, hb2⟩
    have HB2 := Lib.hid (HBL.out.trans (hb2.mono HBL.out.size))
    have HO1 := Lib.hid (owns_below HO.out hb2)
    replace q3 := keeps hb2 (by have := HBL.out.size; omega) q3
    have hbe2 : be < w2.heap.size := Nat.lt_of_lt_of_le hbe hb2.size
    replace e3 := keeps hb2 hbe e3
    clear HH hb2 e1 e2 HBL HO
    cases c
    ·go_wp2
     go_roundw
     case rel =>
      refine ⟨k + 1, l, by omega, by go_num, HM.out.skip hlt (fun h => ?_), HB2.out, HO1.out⟩
      rw [← HE.out, ← HES.out] at h
      have h2 := HC.out
      rw [List.contains_iff_mem.2 h.2] at h2
      cases h2
     case measure => simp [intOf]; omega
    ·have HO2 := Lib.hid (HO1.out.stored ed (.bool true)).1
     have c2 := cell_bool HO1.out hdn
     have c3 := HO1.out.frozenAt ed
     go_wp2
     go_roundw
     case rel =>
      refine ⟨k + 1, l.set ed true, by omega, by go_num, ?_, HB2.out.setCell (by rw [HG.out]; exact Nat.le_refl _) _, ?_⟩
      ·refine HM.out.turn hlt ?_ ?_ ?_ hdn
       ·rw [← HE.out]; exact HEL.out.symm
       ·rw [← HE.out, ← HES.out]; exact List.contains_iff_mem.1 HC.out.symm
       ·rw [← HE.out]; exact HED.out
      ·rw [List.map_set]; exact HO2.out
     case measure => simp [intOf]; omega
   ·go_wp2
    go_roundw
    case rel =>
     refine ⟨k + 1, l, by omega, by go_num, HM.out.skip hlt (fun h => hq ?_), HBL.out, HO.out⟩
     rw [← HE.out, ← HEL.out] at h
     exact h.1
    case measure => simp [intOf]; omega
  ·obtain rfl : k = t.edges.length := by omega
   have HCL := Lib.hid (l12Close_any p lo G N t l w wr HV.out hll HN.out HP.out HBL.out (by rw [← HG.out]; exact HO.out))
   go_wp2_with fail
   refine Calls.mono HCL.out ?_
   rintro e3 w3 ⟨rfl, hb3, good, hgl, hgc, ho3⟩
   have HGC := Lib.hid hgc
   have HB3 := Lib.hid hb3
   have HS3 := Lib.hid (SliceK.of_owns (enc := encB) (e := 4) (xs := good) encB_len hgl.symm (by rw [flat_encB]; exact ho3))
   have HC4 := Lib.hid (l14List_any w.heap.size _ good w3 (by omega) HS3.out)
   clear hb3 hgc ho3 HCL
   go_wp2_with fail
   refine Calls.mono HC4.out ?_
   rintro e4 w4 ⟨v4, rfl, hb4, ho4⟩
   have hset : truesTo good good.length = nextS t cur q := by
    refine (truesTo_is good).unique ((nextS_is HV.out cur q).congr fun x => ?_)
    rw [HGC.out x]
    refine (clos.congr (fun y => ?_) x).symm
    rw [HM.out.2 y, List.take_length]
    rfl
   have HO4 := Lib.hid (own_lower ho4 HB3.out.size)
   have HB4 := Lib.hid (HB3.out.trans (hb4.mono HB3.out.size))
   rw [hset] at HO4
   clear hb4 ho4 HC4 hset
   go_wp2
   go_ret
   exact ⟨_, rfl, HB4.out, HO4.out⟩

end Go.Proofs.YtmhpfmanagbggaaGreatDoor
