/-
  What the library's functions on slices compute where the implementation's follow calls them.
  What the implementation's follow computes, from any list of states.
  Plain laws for follow and internal: what follow lists is a set; a list that grows until it is closed under internal edges.
  What the implementation's internal and visible compute.
-/
import Derived.Test.YthofaoabgbgbdaaGreatDoorG3
import Derived.Test.YthofaoabgbgbdaaGreatDoorG4
import Derived.Test.YthofaoabgbgbdaaGreatDoorG6
import Derived.Maps.AppendAt
import Derived.Deep.RegionHeld3
namespace Go.Proofs.YthofaoabgbgbdaaGreatDoor
open Go Go.RowKit

theorem Index_ints (lo : Nat) (v : Value) (x : Int) (xs : List Int) (w : World) (hv : SliceK 1 encI lo w v xs) :
  Calls Tryz.prog 119 #[v, .int .i64 x] w fun e w' => ∃ r : Int, e = .returned (.int .i64 r) ∧ decide (0 ≤ r) = xs.any (fun y => y == x) ∧ w = w' := by
 obtain ⟨a, c, rfl, hcn, hcc, hrow⟩ := hv
 go_enter Tryz.func119, Tryz.ntmps119
 go_wp2_with fail
 go_loop [8] (fun i => ∃ k : Nat, k ≤ xs.length ∧ i = .int .i64 k ∧ ∀ j (h : j < xs.length), j < k → (x == xs[j]) = false) (fun i => xs.length - (intOf i).toNat)
 case atStart => exact ⟨0, Nat.zero_le _, rfl, fun _ _ h => by omega⟩
 case round =>
  obtain ⟨k, hk, rfl, ha⟩ := hrel
  have HA := Lib.hid ha
  clear ha
  by_cases hlt : k < xs.length
  ·obtain ⟨b1, o1, rfl, -, hbs, c1⟩ := hrow.one hlt
   simp only [encI, List.getElem?_cons_zero] at c1
   clear hrow
   cases h0 : (x == xs[k])
   ·have H0 := Lib.hid h0
    go_wp2_with fail
    go_round
    case rel => exact ⟨k + 1, by omega, by go_num, fun j h hj => by
     by_cases e : j = k
     ·subst e; exact H0.out
     ·exact HA.out j h (by omega)⟩
    case measure => simp [intOf]; omega
   ·have HF : Hid (xs.any (fun y => y == x) = true) := by
     unfold Hid
     rw [List.any_eq_true]
     exact ⟨xs[k], List.getElem_mem _, by rw [beq_iff_eq] at h0 ⊢; exact h0.symm⟩
    go_wp2_with fail
    go_ret
    exact ⟨_, rfl, by rw [HF.out]; simp, rfl⟩
  ·clear hrow
   go_wp2_with fail
   go_ret
   refine ⟨_, rfl, ?_, rfl⟩
   have : xs.any (fun y => y == x) = false := by
    rw [List.any_eq_false]
    intro y hy
    obtain ⟨j, hj, rfl⟩ := List.mem_iff_getElem.1 hy
    have := HA.out j hj (by omega)
    simp at this ⊢
    exact fun e => this e.symm
   rw [this]; simp

theorem Contains_ints (lo : Nat) (v : Value) (x : Int) (xs : List Int) (w : World) (hv : SliceK 1 encI lo w v xs) :
  Calls Tryz.prog 82 #[v, .int .i64 x] w fun e w' => e = .returned (.bool (xs.any fun y => y == x)) ∧ w = w' := by
 have HV := Lib.hid hv
 clear hv
 go_enter Tryz.func82, Tryz.ntmps82
 go_wp2_with fail
 refine (Index_ints lo v x xs _ HV.out).mono ?_
 rintro e w' ⟨r, rfl, hr, rfl⟩
 have HR := Lib.hid hr
 clear hr
 go_wp2_with fail
 go_ret
 exact ⟨ret_bool HR.out, rfl⟩

/-- Of a list of at most one number, nothing is to be compacted. -/
theorem Compact_one (a : Option Addr) (n cap : Nat) (w : World) (hn : n ≤ 1) :
  Calls Tryz.prog 84 #[.slice a n cap] w fun e w' => e = .returned (.slice a n cap) ∧ w = w' := by
 go_enter Tryz.func84, Tryz.ntmps84
 go_wp2_with fail
 go_ret
 exact ⟨rfl, rfl⟩

theorem insertion_one (v : Value) (n : Nat) (w : World) (hn : n ≤ 1) :
  Calls Tryz.prog 139 #[v, .int .i64 0, .int .i64 n] w fun e w' => e = .returned (.tuple #[]) ∧ w = w' := by
 go_enter Tryz.func139, Tryz.ntmps139
 go_wp2_with fail
 go_loop [6] (fun i => i = .int .i64 1) (fun _ => 0)
 case atStart => rfl
 case round =>
  subst hrel
  go_wp2_with fail
  go_end0
  exact ⟨rfl, rfl⟩

theorem pdq_one (v : Value) (n : Nat) (k : Int) (w : World) (hn : n ≤ 1) :
  Calls Tryz.prog 120 #[v, .int .i64 0, .int .i64 n, .int .i64 k] w fun e w' => e = .returned (.tuple #[]) ∧ w = w' := by
 go_enter Tryz.func120, Tryz.ntmps120
 go_wp2_with fail
 go_loop [1, 2] (fun a b => a = .int .i64 0 ∧ b = .int .i64 n) (fun _ _ => 0)
 case atStart => exact ⟨rfl, rfl⟩
 case round =>
  obtain ⟨rfl, rfl⟩ := hrel
  go_wp2_with fail
  refine (insertion_one _ _ _ hn).mono ?_
  rintro e w' ⟨rfl, rfl⟩
  go_wp2_with fail
  (try simp only [Exit.inBlock, Exit.then])
  refine bodyPost_ret (results_none rfl _ _ _) rfl ?_
  exact ⟨rfl, rfl⟩

end Go.Proofs.YthofaoabgbgbdaaGreatDoor

namespace Go.Proofs.YthofaoabgbgbdaaGreatDoor
open Go Go.RowKit

theorem info_int64f : (Tryz.prog.info? 2).map (fun i => (i.zero, i.size, i.bytes)) = some (some (.int .i64 0), 1, 8) := by kernel_rfl

/-- An edge with the label from one of the states. -/
def hitS (p : Lts) (cur : List Int) (l : ByteArray) (e : Edge) : Bool := (cur.any fun y => y == e.src) && ((labAt p e).toList == l.toList)
def followR (p : Lts) (cur : List Int) (l : ByteArray) : List Int := (p.edges.filter (hitS p cur l)).map Edge.dst
def followL (p : Lts) (cur : List Int) (l : ByteArray) : List Int := Lib.compact ((followR p cur l).mergeSort fun x y => decide (x ≤ y))
theorem hitS_take {p : Lts} {cur : List Int} {l : ByteArray} {k : Nat} (h : k < p.edges.length) (g : hitS p cur l p.edges[k] = true) :
  ((p.edges.take (k + 1)).filter (hitS p cur l)).map Edge.dst = ((p.edges.take k).filter (hitS p cur l)).map Edge.dst ++ [p.edges[k].dst] := by
 rw [List.take_succ_eq_append_getElem h, List.filter_append, List.map_append]
 simp [g]
theorem missS_take {p : Lts} {cur : List Int} {l : ByteArray} {k : Nat} (h : k < p.edges.length) (g : hitS p cur l p.edges[k] = false) :
  ((p.edges.take (k + 1)).filter (hitS p cur l)).map Edge.dst = ((p.edges.take k).filter (hitS p cur l)).map Edge.dst := by
 rw [List.take_succ_eq_append_getElem h, List.filter_append, List.map_append]
 simp [g]

set_option maxRecDepth 100000 in
set_option maxHeartbeats 2000000 in
theorem follow_any (lo lo2 : Nat) (p : Lts) (lv ev sv : Value) (cur : List Int) (l : ByteArray) (w : World) (hvp : Valid p) (hl : SliceK 1 encS lo w lv p.labels) (he : SliceK 3 encE lo w ev p.edges) (hs : SliceK 1 encI lo2 w sv cur) :
  Calls Tryz.prog 42 #[.agg #[.int .i64 p.states, .int .i64 p.initial, lv, ev], sv, .string l] w (MadeNums (followL p cur l) w) := by
 have HS := Lib.hid hs
 have HE := Lib.hid hvp.edge
 have hmost := hvp.most
 clear hs hvp
 obtain ⟨al, cl, rfl, hln, hlc, hlr⟩ := hl
 obtain ⟨ae, ce, rfl, hen, hec, hrow⟩ := he
 have HLR := Lib.hid hlr
 have HER := Lib.hid hrow
 clear hlr hrow
 obtain ⟨i0, hi, hz0, hz1, hz2⟩ := info_parts info_int64f
 have HB0 : Hid (Below w.heap.size w (w.alloc (.cells #[.int .i64 p.states, .int .i64 p.initial, .slice al p.labels.length cl, .slice ae p.edges.length ce] 27))) := (Below.refl _ _).alloc (Nat.le_refl _) _
 have HQ2 : Hid ((w.alloc (.cells #[.int .i64 p.states, .int .i64 p.initial, .slice al p.labels.length cl, .slice ae p.edges.length ce] 27)).cell? ⟨w.heap.size, 2, none⟩ = some (.slice al p.labels.length cl)) := by unfold Hid; simp
 obtain ⟨wB, hwB⟩ : ∃ wB, wB = w.alloc (.cells #[.int .i64 p.states, .int .i64 p.initial, .slice al p.labels.length cl, .slice ae p.edges.length ce] 27) := ⟨_, rfl⟩
 have hwz : wB.heap.size = w.heap.size + 1 := by rw [hwB]; simp
 rw [← hwB] at HB0 HQ2
 have HWB := Lib.hid hwB
 clear hwB
 go_enter Tryz.func42, Tryz.ntmps42
 go_wp2_with fail
 rw [← HWB.out]
 clear HWB
 go_loopw [7, 13] (fun v i wr => ∃ k : Nat, k ≤ p.edges.length ∧ i = .int .i64 k ∧ Below wB.heap.size wB wr ∧ wr.ownsRow wB.heap.size 2 1 v (((p.edges.take k).filter (hitS p cur l)).map Edge.dst).length ((((p.edges.take k).filter (hitS p cur l)).map Edge.dst).map (Value.int .i64))) (fun _ i _ => p.edges.length - (intOf i).toNat)
 case atStart => exact ⟨0, Nat.zero_le _, rfl, Below.refl _ _, World.ownsRow_nil _ _ _ _⟩
 case round =>
  obtain ⟨k, hk, rfl, hbl, ho⟩ := hrel
  have HBL := Lib.hid hbl
  have HO := Lib.hid ho
  have hsz := hbl.size
  have q2 := keeps hbl (by omega) HQ2.out
  have hwr : w.heap.size < wr.heap.size := by omega
  have hfl : (((p.edges.take k).filter (hitS p cur l)).map Edge.dst).length ≤ k := by rw [List.length_map]; exact Nat.le_trans (List.length_filter_le _ _) (List.length_take_le _ _)
  clear hbl ho
  by_cases hlt : k < p.edges.length
  ·have hbr := HB0.out.trans (HBL.out.mono HB0.out.size)
   obtain ⟨be, oe, rfl, -, hbe, e1, e2, e3⟩ := (HER.out.below hbr).edge hlt
   have hek := HE.out k hlt
   obtain ⟨hll, hla⟩ := labAt_idx hek
   obtain ⟨bl, ol, rfl, -, hbl2, c1⟩ := (HLR.out.below hbr).one hll
   simp only [encS, List.getElem?_cons_zero] at c1
   rw [← hla] at c1
   have hl0 : ((p.edges[k].lab.toNat : Nat) : Int) = p.edges[k].lab := by have := hek.l0; omega
   have hl1 := hek.l1
   have hl2 := hek.l0
   obtain ⟨e, hee⟩ : ∃ e, e = p.edges[k] := ⟨_, rfl⟩
   obtain ⟨m, hm⟩ : ∃ m, m = p.edges[k].lab.toNat := ⟨_, rfl⟩
   rw [← hm] at c1 hl0 hll
   rw [← hee] at e1 e2 e3 c1 hl0 hl1 hl2
   have HEE := Lib.hid hee
   rw [← hl0] at e2
   have HBA : Hid (Below wB.heap.size wB (wr.alloc (.cells #[.int .i64 e.src, .int .i64 m, .int .i64 e.dst] 68))) := HBL.out.alloc hsz _
   have HSA : Hid (SliceK 1 encI lo2 (wr.alloc (.cells #[.int .i64 e.src, .int .i64 m, .int .i64 e.dst] 68)) sv cur) := HS.out.below (hbr.alloc hbr.size _)
   have HOA : Hid ((wr.alloc (.cells #[.int .i64 e.src, .int .i64 m, .int .i64 e.dst] 68)).ownsRow wB.heap.size 2 1 u7 (((p.edges.take k).filter (hitS p cur l)).map Edge.dst).length ((((p.edges.take k).filter (hitS p cur l)).map Edge.dst).map (Value.int .i64))) := HO.out.alloc _
   have hml : (m : Int) < (p.labels.length : Int) := by omega
   clear hl0 hl1 hl2 hek hbr hla
   cases g1 : ((labAt p e).toList == l.toList)
   ·have HG : Hid (hitS p cur l p.edges[k] = false) := by unfold Hid hitS; rw [← hee, g1, Bool.and_false]
    clear hee hm
    go_wp2_with fail
    go_roundw
    case rel => exact ⟨k + 1, by omega, by go_num, HBA.out, by rw [missS_take hlt HG.out]; exact HOA.out⟩
    case measure => simp [intOf]; omega
   ·cases g2 : (cur.any fun y => y == e.src)
    ·have HG : Hid (hitS p cur l p.edges[k] = false) := by
      unfold Hid hitS
      rw [← hee, g2, Bool.false_and]
     have HG2 := Lib.hid g2
     clear hee hm g2
     go_wp2_with fail
     refine (Contains_ints lo2 _ _ cur _ HSA.out).mono ?_
     rintro e' w' ⟨rfl, rfl⟩
     rw [HG2.out]
     go_wp2_with fail
     go_roundw
     case rel => exact ⟨k + 1, by omega, by go_num, HBA.out, by rw [missS_take hlt HG.out]; exact HOA.out⟩
     case measure => simp [intOf]; omega
    ·have HG : Hid (hitS p cur l p.edges[k] = true) := by
      unfold Hid hitS
      rw [← hee, g2, g1]; rfl
     have HG2 := Lib.hid g2
     have HD : Hid (p.edges[k].dst = e.dst) := by unfold Hid; rw [← hee]
     clear hee hm g2
     have hfz := hfl
     generalize hfs : ((p.edges.take k).filter (hitS p cur l)).map Edge.dst = fs at *
     have HFS := Lib.hid hfs
     clear hfs
     go_wp2_with fail
     refine (Contains_ints lo2 _ _ cur _ HSA.out).mono ?_
     rintro e' w' ⟨rfl, rfl⟩
     rw [HG2.out]
     go_wp2_with (at_builtin; refine wpList_append_own _ rfl _ _ 34 rfl wB.heap.size 2 i0 (.int .i64 0) 1 8 Tryz.underlying34 hi hz0 hz1 hz2 rfl (by decide) _ _ _ rfl (HOA.out.alloc _) ⟨wr.heap.size + 1, 0, none⟩ 1 1 [.int .i64 e.dst] rfl rfl ?c1 ?c2 ?c3 ?c4 ?c5 ?_)
     case c1 => have := cell_one_new (wr.alloc (.cells #[.int .i64 e.src, .int .i64 m, .int .i64 e.dst] 68)) (.int .i64 e.dst) 2; simpa using this
     case c2 => intro u hu; simp at hu; subst hu; rfl
     case c3 => simp [maxLen]; omega
     case c4 => omega
     case c5 => simp; omega
     intro v' w3 ho1 hg1 _
     have HO2 : Hid (w3.ownsRow wB.heap.size 2 1 v' (fs ++ [e.dst]).length ((fs ++ [e.dst]).map (Value.int .i64))) := by
      unfold Hid
      rw [List.length_append, List.map_append, hwz]
      exact ho1
     have HB2 : Hid (Below wB.heap.size wB w3) := (HBA.out.alloc (by simp; omega) _).grown hg1 (by simp; omega) (fun b e => (HO.out.lt b e).1)
     clear ho1 hg1
     go_wp2_with fail
     go_roundw
     case rel => exact ⟨k + 1, by omega, by go_num, HB2.out, by rw [hitS_take hlt HG.out, HFS.out, HD.out]; exact HO2.out⟩
     case measure => simp [intOf]; omega
  ·obtain rfl : k = p.edges.length := by omega
   have HO2 : Hid (wr.ownsRow wB.heap.size 2 1 u7 (followR p cur l).length ((followR p cur l).map (Value.int .i64))) := by
    have := HO.out
    rw [List.take_length] at this
    exact this
   rw [List.take_length] at hfl
   have hfl2 : (followR p cur l).length ≤ 1048576 := by unfold followR; omega
   have HS1 := Lib.hid (Sort_own wB.heap.size u7 _ wr HO2.out hfl2)
   clear HO HER HLR q2 hfl hfl2
   go_wp2_with fail
   refine Calls.mono HS1.out ?_
   rintro e' w1 ⟨rfl, ho1, hg1⟩
   have HB1 := Lib.hid (HBL.out.grown hg1 (by exact hsz) (fun b e => (HO2.out.lt b e).1))
   have HS2 := Lib.hid (Compact_own wB.heap.size u7 ((followR p cur l).mergeSort fun x y => decide (x ≤ y)) w1 (by rw [List.length_mergeSort]; exact ho1))
   have HLT := Lib.hid (fun b e => (ho1.lt b e).1)
   clear ho1 hg1 HS1
   go_wp2_with fail
   refine Calls.mono HS2.out ?_
   rintro e' w2 ⟨v2, rfl, ho2, hg2⟩
   have HB2 := Lib.hid (HB1.out.grown hg2 HB1.out.size HLT.out)
   have HO3 := Lib.hid ho2
   clear ho2 hg2 HS2
   go_wp2_with fail
   go_ret
   exact ⟨_, rfl, HB0.out.trans (HB2.out.mono HB0.out.size), own_lower HO3.out HB0.out.size⟩

end Go.Proofs.YthofaoabgbgbdaaGreatDoor

namespace Go.Proofs.YthofaoabgbgbdaaGreatDoor
open Go Go.RowKit

theorem mem_followR {p : Lts} {cur : List Int} {l : ByteArray} {x : Int} : x ∈ followR p cur l ↔ ∃ e ∈ p.edges, e.src ∈ cur ∧ (labAt p e).toList = l.toList ∧ e.dst = x := by
 unfold followR hitS
 rw [List.mem_map]
 constructor
 ·rintro ⟨e, he, rfl⟩
  rw [List.mem_filter, Bool.and_eq_true, List.any_eq_true] at he
  obtain ⟨h1, ⟨y, hy, h2⟩, h3⟩ := he
  rw [beq_iff_eq] at h2 h3
  subst h2
  exact ⟨e, h1, hy, h3, rfl⟩
 ·rintro ⟨e, h1, h2, h3, rfl⟩
  refine ⟨e, ?_, rfl⟩
  rw [List.mem_filter, Bool.and_eq_true, List.any_eq_true]
  exact ⟨h1, ⟨e.src, h2, by rw [beq_iff_eq]⟩, by rw [beq_iff_eq]; exact h3⟩
theorem followL_is {t : Lts} (hv : Valid t) (cur : List Int) {k : Nat} (hk : k < t.labels.length) : IsSet (behindP t cur k) (followL t cur t.labels[k]) := by
 refine (sort_compact_is (followR t cur t.labels[k])).congr fun x => ?_
 rw [mem_followR]
 unfold behindP
 constructor
 ·rintro ⟨e, he, h1, h2, h3⟩
  refine ⟨e, he, ?_, h1, h3⟩
  obtain ⟨i, hi, rfl⟩ := List.mem_iff_getElem.1 he
  have hok := hv.edge i hi
  obtain ⟨hlt, hla⟩ := labAt_idx hok
  rw [hla] at h2
  have := labels_inj hv.labels _ _ hlt hk h2
  have := hok.l0
  omega
 ·rintro ⟨e, he, h1, h2, h3⟩
  refine ⟨e, he, h2, ?_, h3⟩
  obtain ⟨i, hi, rfl⟩ := List.mem_iff_getElem.1 he
  have hok := hv.edge i hi
  obtain ⟨hlt, hla⟩ := labAt_idx hok
  rw [hla]
  congr 2
  omega
theorem followL_len {p : Lts} (h : p.edges.length ≤ 300) (cur : List Int) (l : ByteArray) : (followL p cur l).length ≤ 300 := by
 unfold followL
 refine Nat.le_trans (Lib.compact_length_le _) ?_
 rw [List.length_mergeSort]
 unfold followR
 rw [List.length_map]
 exact Nat.le_trans (List.length_filter_le _ _) h

theorem few_states {n : Int} {l : List Int} (hd : l.Nodup) (h : ∀ x ∈ l, 0 ≤ x ∧ x < n) (hn : n ≤ 40) : l.length ≤ 40 := by
 have h1 : (l.map Int.toNat).Nodup := by
  rw [List.nodup_iff_pairwise_ne, List.pairwise_map]
  refine List.Pairwise.imp_of_mem ?_ (List.nodup_iff_pairwise_ne.1 hd)
  intro a b ha hb hne e
  have := h a ha
  have := h b hb
  exact hne (by omega)
 have := nodup_lt 40 (l.map Int.toNat) h1 (fun x hx => by
  obtain ⟨y, hy, rfl⟩ := List.mem_map.1 hx
  have := h y hy
  omega)
 rwa [List.length_map] at this

/-- A list on its way to what internal edges reach from S: its first i members are done. -/
structure IntOk (t : Lts) (S O : List Int) (i : Nat) : Prop where
 nodup : O.Nodup
 base : ∀ x ∈ S, x ∈ O
 sound : ∀ x ∈ O, clos t (fun y => y ∈ S) x
 upto : i ≤ O.length
 closed : ∀ j (h : j < O.length), j < i → ∀ e ∈ t.edges, e.lab = 0 → e.src = O[j] → e.dst ∈ O
theorem IntOk.start {t : Lts} {S : List Int} (h : S.Nodup) : IntOk t S S 0 := ⟨h, fun _ hx => hx, fun _ hx => clos.base hx, Nat.zero_le _, fun _ _ h => by omega⟩
theorem IntOk.range {t : Lts} (hv : Valid t) {S O : List Int} {i : Nat} (h : IntOk t S O i) (hS : ∀ x ∈ S, 0 ≤ x ∧ x < t.states) : ∀ x ∈ O, 0 ≤ x ∧ x < t.states :=
 fun x hx => clos.inside hv (fun y hy => hS y hy) x (h.sound x hx)
theorem IntOk.add {t : Lts} {S O : List Int} {i : Nat} (h : IntOk t S O i) {x : Int} (hx : x ∉ O) (hc : clos t (fun y => y ∈ S) x) : IntOk t S (O ++ [x]) i := by
 refine ⟨?_, fun y hy => List.mem_append_left _ (h.base y hy), ?_, by rw [List.length_append]; have := h.upto; omega, ?_⟩
 ·rw [List.nodup_append]
  exact ⟨h.nodup, by simp, fun a ha b hb e => by rw [List.mem_singleton] at hb; subst hb; subst e; exact hx ha⟩
 ·intro y hy
  rcases List.mem_append.1 hy with hy | hy
  ·exact h.sound y hy
  ·rw [List.mem_singleton] at hy; subst hy; exact hc
 ·intro j hj hji e he hl hs
  have hjo : j < O.length := by have := h.upto; omega
  rw [List.getElem_append_left hjo] at hs
  exact List.mem_append_left _ (h.closed j hjo hji e he hl hs)
theorem IntOk.next {t : Lts} {S O : List Int} {i : Nat} (h : IntOk t S O i) (hi : i < O.length) (hc : ∀ e ∈ t.edges, e.lab = 0 → e.src = O[i] → e.dst ∈ O) : IntOk t S O (i + 1) := by
 refine ⟨h.nodup, h.base, h.sound, hi, fun j hj hji e he hl hs => ?_⟩
 by_cases hji2 : j = i
 ·subst hji2; exact hc e he hl hs
 ·exact h.closed j hj (by omega) e he hl hs
theorem IntOk.done {t : Lts} {S O : List Int} {i : Nat} (h : IntOk t S O i) (hi : i = O.length) (x : Int) : x ∈ O ↔ clos t (fun y => y ∈ S) x := by
 refine ⟨h.sound x, fun hx => hx.least (Q := fun y => y ∈ O) h.base fun e he hl hs => ?_⟩
 obtain ⟨j, hj, hs⟩ := List.mem_iff_getElem.1 hs
 exact h.closed j hj (by omega) e he hl hs.symm

/-- The list within the work at its i-th member q: of what follows q the first m are in. -/
structure IntIn (t : Lts) (S O F : List Int) (q : Int) (i m : Nat) : Prop where
 ok : IntOk t S O i
 here : O[i]? = some q
 got : ∀ x ∈ F.take m, x ∈ O
theorem IntIn.start {t : Lts} {S O F : List Int} {i : Nat} (h : IntOk t S O i) (hi : i < O.length) : IntIn t S O F O[i] i 0 := ⟨h, List.getElem?_eq_getElem hi, by simp⟩
theorem IntIn.old {t : Lts} {S O F : List Int} {q : Int} {i m : Nat} (h : IntIn t S O F q i m) (hm : m < F.length) (hx : F[m] ∈ O) : IntIn t S O F q i (m + 1) := by
 refine ⟨h.ok, h.here, fun x hy => ?_⟩
 rw [List.take_succ_eq_append_getElem hm, List.mem_append, List.mem_singleton] at hy
 rcases hy with hy | rfl
 ·exact h.got x hy
 ·exact hx
theorem IntIn.new {t : Lts} {S O F : List Int} {q : Int} {i m : Nat} (h : IntIn t S O F q i m) (hF : ∀ x ∈ F, behindP t [q] 0 x) (hm : m < F.length) (hx : F[m] ∉ O) : IntIn t S (O ++ [F[m]]) F q i (m + 1) := by
 have hq : q ∈ O := List.mem_of_getElem? h.here
 refine ⟨h.ok.add hx ?_, ?_, fun x hy => ?_⟩
 ·obtain ⟨e, he, h1, h2, h3⟩ := hF _ (List.getElem_mem hm)
  rw [List.mem_singleton] at h2
  rw [← h3]
  exact clos.next (by rw [h2]; exact h.ok.sound q hq) he h1
 ·rw [List.getElem?_append_left (List.getElem?_eq_some_iff.1 h.here).1]; exact h.here
 ·rw [List.take_succ_eq_append_getElem hm, List.mem_append, List.mem_singleton] at hy
  rcases hy with hy | rfl
  ·exact List.mem_append_left _ (h.got x hy)
  ·simp
theorem IntIn.done {t : Lts} {S O F : List Int} {q : Int} {i : Nat} (h : IntIn t S O F q i F.length) (hF : ∀ x, behindP t [q] 0 x → x ∈ F) : IntOk t S O (i + 1) := by
 obtain ⟨hi, hq⟩ := List.getElem?_eq_some_iff.1 h.here
 refine h.ok.next hi fun e he hl hs => ?_
 have := h.got e.dst
 rw [List.take_length] at this
 exact this (hF _ ⟨e, he, hl, by rw [hs, hq]; simp, rfl⟩)

theorem closL_is {t : Lts} (hv : Valid t) {S : List Int} (hS : ∀ x ∈ S, 0 ≤ x ∧ x < t.states) : IsSet (clos t fun y => y ∈ S) (setL t.states (clos t fun y => y ∈ S)) := setL_is (clos.inside hv hS)
theorem nextS_eq {t : Lts} (hv : Valid t) (cur : List Int) {k : Nat} (hk : k < t.labels.length) : setL t.states (clos t fun y => y ∈ followL t cur t.labels[k]) = nextS t cur k := by
 unfold nextS nextP
 congr 1
 funext x
 exact propext (Iff.intro (fun h => h.least (Q := clos t (behindP t cur k)) (fun y hy => clos.base (((followL_is hv cur hk).mem y).1 hy)) fun e he hl hs => hs.next he hl)
  (fun h => h.least (Q := clos t fun y => y ∈ followL t cur t.labels[k]) (fun y hy => clos.base (((followL_is hv cur hk).mem y).2 hy)) fun e he hl hs => hs.next he hl))
theorem firstS_eq (t : Lts) : setL t.states (clos t fun y => y ∈ [t.initial]) = firstS t := by
 unfold firstS firstP
 congr 2
 funext x
 simp

end Go.Proofs.YthofaoabgbgbdaaGreatDoor

namespace Go.Proofs.YthofaoabgbgbdaaGreatDoor
open Go Go.RowKit

def tauT : ByteArray := ⟨#[116, 97, 117]⟩
theorem tau_first {t : Lts} (hv : Valid t) : ∃ h : 0 < t.labels.length, t.labels[0] = tauT :=
 ⟨hv.labels.pos, data_inj (by rw [← Lib.toList_data, hv.labels.first hv.labels.pos]; rfl)⟩
theorem info_int64y : (Tryz.prog.info? 2).map (fun i => (i.zero, i.size, i.bytes)) = some (some (.int .i64 0), 1, 8) := by kernel_rfl

set_option maxRecDepth 100000 in
set_option maxHeartbeats 4000000 in
theorem internal_any (lo lo2 : Nat) (t : Lts) (lv ev sv : Value) (S : List Int) (w : World) (hv : Valid t) (hl : SliceK 1 encS lo w lv t.labels) (he : SliceK 3 encE lo w ev t.edges) (hs : SliceK 1 encI lo2 w sv S) (hin : ∀ x ∈ S, 0 ≤ x ∧ x < t.states) (hnd : S.Nodup) :
  Calls Tryz.prog 43 #[.agg #[.int .i64 t.states, .int .i64 t.initial, lv, ev], sv] w (MadeNums (setL t.states (clos t fun y => y ∈ S)) w) := by
 have HV := Lib.hid hv
 have HIN := Lib.hid hin
 have HND := Lib.hid hnd
 have hS40 := few_states hnd hin hv.st1
 have HL := Lib.hid hl
 have HE := Lib.hid he
 obtain ⟨al, cl, rfl, -, -, -⟩ := hl
 obtain ⟨ae, ce, rfl, -, -, -⟩ := he
 obtain ⟨i0, hi, hz0, hz1, hz2⟩ := info_parts info_int64y
 obtain ⟨wB, hwB⟩ : ∃ wB, wB = w.alloc (.cells #[.int .i64 t.states, .int .i64 t.initial, .slice al t.labels.length cl, .slice ae t.edges.length ce] 27) := ⟨_, rfl⟩
 have hb0 : Below w.heap.size w wB := by rw [hwB]; exact (Below.refl _ _).alloc (Nat.le_refl _) _
 have hx0 : Blk wB w.heap.size [.int .i64 t.states, .int .i64 t.initial, .slice al t.labels.length cl, .slice ae t.edges.length ce] 27 := by rw [hwB]; exact Blk.new w _ _
 have HX0 := Lib.hid hx0
 have HB0 := Lib.hid hb0
 have HWB := Lib.hid hwB
 have HC := Lib.hid (Clone_own lo2 sv S wB (hs.below hb0) (by omega))
 obtain ⟨bx, hbx⟩ : ∃ bx, bx = w.heap.size := ⟨_, rfl⟩
 rw [← hbx] at HX0
 have HBX := Lib.hid hbx
 clear hv hin hnd hs hb0 hx0 hwB hbx
 go_enter Tryz.func43, Tryz.ntmps43
 go_wp2_with fail
 rw [← HWB.out, ← HBX.out]
 refine Calls.mono HC.out ?_
 rintro e1 w1 ⟨v1, rfl, ho1, hb1⟩
 obtain ⟨B, hB⟩ : ∃ B, B = wB.heap.size := ⟨_, rfl⟩
 rw [← hB] at ho1
 have hbxB : bx < B := by rw [hB]; exact HX0.out.lt
 have HBB := Lib.hid hB
 have HB1 : Hid (Below B wB w1) := by unfold Hid; rw [hB]; exact hb1
 have HO1 := Lib.hid ho1
 clear HC hb1 ho1 hB
 go_wp2
 go_loopw [5, 6] (fun v i wr => ∃ (k : Nat) (O : List Int), i = .int .i64 k ∧ IntOk t S O k ∧ Below B wB wr ∧ wr.ownsRow B 2 1 v O.length (O.map (Value.int .i64))) (fun _ i _ => 64 - (intOf i).toNat)
 case atStart => exact ⟨0, S, rfl, IntOk.start HND.out, HB1.out, HO1.out⟩
 case round =>
  clear HO1 HB1
  obtain ⟨k, O, rfl, hok, hbl, ho⟩ := hrel
  obtain ⟨wC, rfl⟩ : ∃ wC : World, wC = wr := ⟨_, rfl⟩
  have HOK := Lib.hid hok
  have HBL := Lib.hid hbl
  have HO := Lib.hid ho
  have hO40 := few_states hok.nodup (hok.range HV.out HIN.out) HV.out.st1
  have hkO := hok.upto
  have hsz : B ≤ wC.heap.size := by have := hbl.size; rw [HBB.out]; exact this
  obtain ⟨av, cv, rfl, -, -⟩ := owns_slice ho
  obtain ⟨NO, hNO⟩ : ∃ NO, NO = O.length := ⟨_, rfl⟩
  rw [← hNO] at hO40 hkO HO ⊢
  have HNO := Lib.hid hNO
  clear hok hbl ho hNO
  by_cases hlt : k < NO
  ·have hlO : k < O.length := by rw [← HNO.out]; exact hlt
   have HX := Lib.hid (HX0.out.belowB HBL.out hbxB)
   have hbxw : bx < wC.heap.size := by omega
   have x0 := HX.out.cell 0 rfl
   have x1 := HX.out.cell 1 rfl
   have x2 := HX.out.cell 2 rfl
   have x3 := HX.out.cell 3 rfl
   obtain ⟨g, c, hg, hgw, hcg⟩ : ∃ g c, Value.slice av NO cv = .slice (some ⟨g, 0, none⟩) NO c ∧ g < wC.heap.size ∧ wC.cell? ⟨g, k, none⟩ = some (.int .i64 O[k]) := by
    rcases HO.out.2 with ⟨h, h0⟩ | ⟨g, c, cur, h, -⟩
    ·omega
    ·refine ⟨g, c, h, (HO.out.lt g (by rw [h]; rfl)).2, ?_⟩
     have h1 := HO.out
     rw [h] at h1
     have := cell_num h1 hlt
     rw [List.getD_eq_getElem?_getD, List.getElem?_eq_getElem hlO] at this
     exact this
   simp only [Value.slice.injEq, true_and] at hg
   obtain ⟨rfl, rfl⟩ := hg
   have HIS := Lib.hid (IntIn.start (F := followL t [O[k]] tauT) HOK.out hlO)
   obtain ⟨q, hq⟩ : ∃ q, q = O[k] := ⟨_, rfl⟩
   rw [← hq] at hcg HIS
   have hW : Below wC.heap.size wC ((wC.alloc (.cells #[.int .i64 q] 2)).drew) := ((Below.refl _ _).alloc (Nat.le_refl _) _).drew
   have hbw : Below w.heap.size w wC := HB0.out.trans (HBL.out.mono (by rw [HBB.out]; exact HB0.out.size))
   have hbw2 := hbw.trans (hW.mono hbw.size)
   have HF : Hid (Calls Tryz.prog 42 #[.agg #[.int .i64 t.states, .int .i64 t.initial, .slice al t.labels.length cl, .slice ae t.edges.length ce], .slice (some ⟨wC.heap.size, 0, none⟩) 1 1, .string ⟨#[116, 97, 117]⟩] ((wC.alloc (.cells #[.int .i64 q] 2)).drew) (MadeNums (followL t [q] tauT) ((wC.alloc (.cells #[.int .i64 q] 2)).drew))) := by
    unfold Hid
    refine follow_any lo wC.heap.size t _ _ _ [q] tauT _ HV.out (HL.out.below hbw2) (HE.out.below hbw2) ?_
    have hlit : (wC.alloc (.cells #[.int .i64 q] 2)).ownsRow wC.heap.size 2 1 (.slice (some ⟨wC.heap.size, 0, none⟩) 1 1) 1 [.int .i64 q] := World.ownsRow_lit (size := 1) wC #[.int .i64 q] 1 (Nat.le_refl _) (by decide) rfl
    exact SliceK.of_owns (enc := encI) (e := 2) encI_len rfl (by rw [flat_encI]; exact hlit.drew)
   have W0 := keeps hW hbxw x0
   have W1 := keeps hW hbxw x1
   have W2 := keeps hW hbxw x2
   have W3 := keeps hW hbxw x3
   have W4 := keeps hW hgw hcg
   have HWW := Lib.hid hW
   have hki : (k : Int) < (NO : Int) := by omega
   clear hlO hq hW hbw hbw2
   go_wp2
   go_region_held3 (fun w' => w'.cell? ⟨bx, 0, none⟩ = some (.int .i64 t.states) ∧ w'.cell? ⟨bx, 1, none⟩ = some (.int .i64 t.initial) ∧ w'.cell? ⟨bx, 2, none⟩ = some (.slice al t.labels.length cl) ∧ w'.cell? ⟨bx, 3, none⟩ = some (.slice ae t.edges.length ce) ∧ w'.cell? ⟨g, k, none⟩ = some (.int .i64 q))
    (first
     | (refine ⟨?_, ?_, ?_, ?_, ?_⟩ <;> assumption)
     | go_keep)
    (first
     | (go_at_call 42; refine Calls.mono HF.out ?_; rintro e w9 ⟨v9, rfl, hb9, ho9⟩; have k0 := keeps hb9 (by simp; omega) W0; have k1 := keeps hb9 (by simp; omega) W1; have k2 := keeps hb9 (by simp; omega) W2; have k3 := keeps hb9 (by simp; omega) W3; have k4 := keeps hb9 (by simp; omega) W4; obtain ⟨a9, c9, rfl, -, -⟩ := owns_slice ho9))
   clear W0 W1 W2 W3 W4 x0 x1 x2 x3 k0 k1 k2 k3 k4 hcg
   obtain ⟨BF, hBF⟩ : ∃ BF, BF = wC.heap.size + 1 := ⟨_, rfl⟩
   have hFs : ((wC.alloc (.cells #[.int .i64 q] 2)).drew).heap.size = BF := by rw [hBF]; simp
   rw [hFs] at ho9
   have hb9' : Below wC.heap.size wC w9 := HWW.out.trans (hb9.mono HWW.out.size)
   have HB9 := Lib.hid (HBL.out.trans (hb9'.mono hsz))
   have HO9 := Lib.hid (owns_below HO.out hb9')
   have hFL := followL_len HV.out.most [q] tauT
   have hFm : ∀ x, behindP t [q] 0 x ↔ x ∈ followL t [q] tauT := fun x => by
    obtain ⟨h0, h1⟩ := tau_first HV.out
    have := (followL_is HV.out [q] h0).mem x
    rw [h1] at this
    exact this.symm
   obtain ⟨F, hF⟩ : ∃ F, F = followL t [q] tauT := ⟨_, rfl⟩
   rw [← hF] at ho9 hFL hFm HIS ⊢
   have HFM := Lib.hid hFm
   obtain ⟨NF, hNF⟩ : ∃ NF, NF = F.length := ⟨_, rfl⟩
   rw [← hNF] at ho9 hFL ⊢
   have HNF := Lib.hid hNF
   have HOF := Lib.hid ho9
   have HAP : Hid ((Value.slice a9 NF c9).ownBlock = none ∨ (Value.slice a9 NF c9).ownBlock ≠ (Value.slice (some ⟨g, 0, none⟩) NO cv).ownBlock) := by
    cases hb : (Value.slice a9 NF c9).ownBlock with
    | none => exact .inl rfl
    | some b =>
     refine .inr fun e => ?_
     have h1 := (ho9.lt b hb).1
     have h2 := Option.some.inj e
     simp [Value.ownBlock] at e
     omega
   have HBF := Lib.hid hBF
   clear hb9 hb9' ho9 hF hFs hFm hNF hBF HF HWW HO HBL
   go_wp2
   go_loopw [5, 25] (fun v v25 wr => ∃ (m : Nat) (O' : List Int), v25 = .int .i64 m ∧ m ≤ NF ∧ IntIn t S O' F q k m ∧ Below B wB wr ∧ wr.ownsRow B 2 1 v O'.length (O'.map (Value.int .i64)) ∧ wr.ownsRow BF 2 1 (.slice a9 NF c9) NF (F.map (Value.int .i64))
    ∧ ((Value.slice a9 NF c9).ownBlock = none ∨ (Value.slice a9 NF c9).ownBlock ≠ v.ownBlock)) (fun _ v25 _ => NF - (intOf v25).toNat)
   case atStart => exact ⟨0, O, rfl, Nat.zero_le _, HIS.out, HB9.out, by rw [← HNO.out]; exact HO9.out, HOF.out, HAP.out⟩
   case round =>
    clear HB9 HO9 HIS HOF HAP
    obtain ⟨m, O2, rfl, hm, hin, hbl, ho, hof, hap⟩ := hrel
    have HIN2 := Lib.hid hin
    have HBL := Lib.hid hbl
    have HO := Lib.hid ho
    have HOF := Lib.hid hof
    have HAP := Lib.hid hap
    have hO2 := few_states hin.ok.nodup (hin.ok.range HV.out HIN.out) HV.out.st1
    have hsz2 : B ≤ wr.heap.size := by have := hbl.size; rw [HBB.out]; exact this
    clear hin hbl hap
    by_cases hmF : m < NF
    ·have hmf : m < F.length := by rw [← HNF.out]; exact hmF
     obtain ⟨g9, e9, hg9, hc9⟩ : ∃ g9, a9 = some ⟨g9, 0, none⟩ ∧ g9 < wr.heap.size ∧ wr.cell? ⟨g9, m, none⟩ = some (.int .i64 F[m]) := by
      rcases hof.2 with ⟨h, h0⟩ | ⟨g9, c, cur, h, -⟩
      ·omega
      ·simp only [Value.slice.injEq, true_and] at h
       obtain ⟨rfl, rfl⟩ := h
       refine ⟨g9, rfl, (hof.lt g9 rfl).2, ?_⟩
       have := cell_num hof hmF
       rw [List.getD_eq_getElem?_getD, List.getElem?_eq_getElem hmf] at this
       exact this
     subst e9
     obtain ⟨x, hx⟩ : ∃ x, x = F[m] := ⟨_, rfl⟩
     rw [← hx] at hc9
     have HS2 := Lib.hid (SliceK.of_owns (enc := encI) (xs := O2) encI_len rfl (by rw [flat_encI]; exact ho))
     have HCT := Lib.hid (Contains_ints B u5 x O2 wr HS2.out)
     have HX := Lib.hid hx
     clear ho hof hx
     cases hc : (O2.any fun y => y == x)
     ·rw [hc] at HCT
      have HNX : Hid (F[m] ∉ O2) := by
       unfold Hid
       rw [← HX.out]
       intro h
       rw [List.any_eq_false] at hc
       exact hc x h (by simp)
      clear hc
      go_wp2_with fail
      refine Calls.mono HCT.out ?_
      rintro e2 w2 ⟨rfl, rfl⟩
      obtain ⟨NO2, hNO2⟩ : ∃ NO2, NO2 = O2.length := ⟨_, rfl⟩
      rw [← hNO2] at HO hO2
      have HNO2 := Lib.hid hNO2
      clear hNO2 HS2
      go_wp2_with (at_builtin; refine wpList_append_own_at _ rfl _ _ 34 rfl B 2 i0 (.int .i64 0) 1 8 Tryz.underlying34 hi hz0 hz1 hz2 rfl (by decide) _ _ _ rfl (HO.out.alloc _) ⟨wr.heap.size, 0, none⟩ 1 1 [.int .i64 x] rfl rfl ?c1 ?c2 ?c3 ?c4 ?c5 ?_)
      case c1 => exact cell_one_new _ _ _
      case c2 => intro u hu; simp at hu; subst hu; rfl
      case c3 => first | omega | (simp [maxLen]; omega)
      case c4 => first | omega | (simp; omega)
      case c5 => first | omega | (simp; omega)
      intro v5 w5 ho5 hg5 _ hob5
      have hal : Below wr.heap.size wr (wr.alloc (.cells #[.int .i64 x] 2)) := (Below.refl _ _).alloc (Nat.le_refl _) _
      have HO5 : Hid (w5.ownsRow B 2 1 v5 (O2 ++ [F[m]]).length ((O2 ++ [F[m]]).map (Value.int .i64))) := by
       unfold Hid
       rw [List.length_append, List.map_append, ← HNO2.out, ← HX.out]
       exact ho5
      have HOF5 := Lib.hid ((owns_below HOF.out hal).kept hg5 HAP.out)
      have HAP5 : Hid ((Value.slice (some ⟨g9, 0, none⟩) NF c9).ownBlock = none ∨ (Value.slice (some ⟨g9, 0, none⟩) NF c9).ownBlock ≠ v5.ownBlock) := by
       rcases hob5 with h | h
       ·rw [h]; exact HAP.out
       ·refine .inr ?_
        rw [h]
        intro e
        have h9 : g9 = wr.heap.size + 1 := Option.some.inj e
        omega
      have HB5 : Hid (Below B wB w5) := (HBL.out.alloc hsz2 _).grown hg5 (by simp; omega) (fun b e => (HO.out.lt b e).1)
      clear ho5 hg5 hob5 hal
      go_wp2
      go_roundw
      case rel => exact ⟨m + 1, O2 ++ [F[m]], by go_num, by omega, HIN2.out.new (fun y hy => (HFM.out y).2 hy) hmf HNX.out, HB5.out, HO5.out, HOF5.out, HAP5.out⟩
      case measure => simp [intOf]; omega
     ·rw [hc] at HCT
      have HIX : Hid (F[m] ∈ O2) := by
       unfold Hid
       rw [← HX.out]
       rw [List.any_eq_true] at hc
       obtain ⟨y, hy, h⟩ := hc
       rw [beq_iff_eq] at h
       rw [← h]; exact hy
      clear hc
      go_wp2_with fail
      refine Calls.mono HCT.out ?_
      rintro e2 w2 ⟨rfl, rfl⟩
      clear HS2
      go_wp2
      go_roundw
      case rel => exact ⟨m + 1, O2, by go_num, by omega, HIN2.out.old hmf HIX.out, HBL.out, HO.out, HOF.out, HAP.out⟩
      case measure => simp [intOf]; omega
    ·have hmF2 : NF = m := by omega
     subst hmF2
     have HK := Lib.hid (show IntOk t S O2 (k + 1) from IntIn.done (F := F) (q := q) (by rw [← HNF.out]; exact HIN2.out) (fun x hx => (HFM.out x).1 hx))
     clear ho hof
     go_wp2
     go_roundw
     case rel => exact ⟨k + 1, O2, by go_num, HK.out, HBL.out, HO.out⟩
     case measure => simp [intOf]; omega
  ·have hk2 : NO = k := by omega
   subst hk2
   have hset : (O.mergeSort fun x y => decide (x ≤ y)) = setL t.states (clos t fun y => y ∈ S) := by
    refine ((sort_nodup_is O HOK.out.nodup).congr fun x => ?_).unique (closL_is HV.out HIN.out)
    exact HOK.out.done HNO.out x
   have hls : (setL t.states (clos t fun y => y ∈ S)).length = NO := by rw [← hset, List.length_mergeSort, HNO.out]
   have HS := Lib.hid (Sort_own B (.slice av NO cv) O wC (by rw [← HNO.out]; exact HO.out) (by rw [← HNO.out]; omega))
   rw [hset] at HS
   have HLS := Lib.hid hls
   clear hset hls
   go_wp2_with fail
   refine Calls.mono HS.out ?_
   rintro e2 w2 ⟨rfl, ho2, hg2⟩
   have HB2 := Lib.hid (HBL.out.grown hg2 hsz (fun b e => (HO.out.lt b e).1))
   have HO2 : Hid (w2.ownsRow B 2 1 (.slice av NO cv) (setL t.states (clos t fun y => y ∈ S)).length ((setL t.states (clos t fun y => y ∈ S)).map (Value.int .i64))) := by
    unfold Hid
    rw [HLS.out]
    rw [← HNO.out] at ho2
    exact ho2
   clear ho2 hg2
   go_wp2
   go_ret
   exact ⟨_, rfl, HB0.out.trans (HB2.out.mono (by rw [HBB.out]; exact HB0.out.size)), own_lower HO2.out (by rw [HBB.out]; exact HB0.out.size)⟩

set_option maxRecDepth 100000 in
set_option maxHeartbeats 2000000 in
theorem visible_any (lo lo2 : Nat) (t : Lts) (lv ev sv : Value) (cur : List Int) (l : ByteArray) (w : World) (hv : Valid t) (hl : SliceK 1 encS lo w lv t.labels) (he : SliceK 3 encE lo w ev t.edges) (hs : SliceK 1 encI lo2 w sv cur) {k : Nat} (hk : k < t.labels.length) (hkl : t.labels[k] = l) :
  Calls Tryz.prog 44 #[.agg #[.int .i64 t.states, .int .i64 t.initial, lv, ev], sv, .string l] w (MadeNums (nextS t cur k) w) := by
 subst hkl
 have HV := Lib.hid hv
 have HL := Lib.hid hl
 have HE := Lib.hid he
 have HS := Lib.hid hs
 have hfi := followL_is hv cur hk
 have HIN : Hid (∀ x ∈ followL t cur t.labels[k], 0 ≤ x ∧ x < t.states) := fun x hx => behindP_in hv ((hfi.mem x).1 hx)
 have HND : Hid (followL t cur t.labels[k]).Nodup := by
  unfold Hid
  rw [List.nodup_iff_pairwise_ne]
  exact hfi.asc.imp fun h => by omega
 have HN := Lib.hid (nextS_eq hv cur hk)
 obtain ⟨wB, hwB⟩ : ∃ wB, wB = w.alloc (.cells #[.int .i64 t.states, .int .i64 t.initial, lv, ev] 27) := ⟨_, rfl⟩
 have hb0 : Below w.heap.size w wB := by rw [hwB]; exact (Below.refl _ _).alloc (Nat.le_refl _) _
 have hx0 : Blk wB w.heap.size [.int .i64 t.states, .int .i64 t.initial, lv, ev] 27 := by rw [hwB]; exact Blk.new w _ _
 have HB0 := Lib.hid hb0
 have HWB := Lib.hid hwB
 obtain ⟨bx, hbx⟩ : ∃ bx, bx = w.heap.size := ⟨_, rfl⟩
 rw [← hbx] at hx0
 have HBX := Lib.hid hbx
 have hbw := hx0.lt
 have hD : Below wB.heap.size wB wB.drew := (Below.refl _ _).drew
 have HD := Lib.hid hD
 have W0 := keeps hD hbw (hx0.cell 0 rfl)
 have W1 := keeps hD hbw (hx0.cell 1 rfl)
 have W2 := keeps hD hbw (hx0.cell 2 rfl)
 have W3 := keeps hD hbw (hx0.cell 3 rfl)
 have V0 := hx0.cell 0 rfl
 have V1 := hx0.cell 1 rfl
 have V2 := hx0.cell 2 rfl
 have V3 := hx0.cell 3 rfl
 have hb1 : Below w.heap.size w wB.drew := hb0.trans (hD.mono hb0.size)
 have HF := Lib.hid (follow_any lo lo2 t lv ev sv cur t.labels[k] wB.drew hv (hl.below hb1) (he.below hb1) (hs.below hb1))
 have HB1 := Lib.hid hb1
 obtain ⟨l, hl2⟩ : ∃ l, l = t.labels[k] := ⟨_, rfl⟩
 rw [← hl2] at HF HIN HND HN ⊢
 clear hv hl he hs hfi hb0 hx0 hwB hbx hD hl2 hb1
 go_enter Tryz.func44, Tryz.ntmps44
 go_wp2
 rw [← HWB.out, ← HBX.out]
 go_region_held3 (fun w' => w'.cell? ⟨bx, 0, none⟩ = some (.int .i64 t.states) ∧ w'.cell? ⟨bx, 1, none⟩ = some (.int .i64 t.initial) ∧ w'.cell? ⟨bx, 2, none⟩ = some lv ∧ w'.cell? ⟨bx, 3, none⟩ = some ev)
  (first
   | (refine ⟨?_, ?_, ?_, ?_⟩ <;> assumption)
   | go_keep)
  (first
   | (go_at_call 42; refine Calls.mono HF.out ?_; rintro e w9 ⟨v9, rfl, hb9, ho9⟩; have k0 := keeps hb9 (by simp; omega) W0; have k1 := keeps hb9 (by simp; omega) W1; have k2 := keeps hb9 (by simp; omega) W2; have k3 := keeps hb9 (by simp; omega) W3)
   | (go_at_call 43; refine Calls.mono (internal_any lo wB.drew.heap.size t lv ev v9 (followL t cur l) w9 HV.out (HL.out.below (HB1.out.trans (hb9.mono HB1.out.size))) (HE.out.below (HB1.out.trans (hb9.mono HB1.out.size))) (SliceK.of_owns (enc := encI) encI_len rfl (by rw [flat_encI]; exact ho9)) HIN.out HND.out) ?_; rintro e w8 ⟨v8, rfl, hb8, ho8⟩; have k4 := keeps hb8 (by have := hb9.size; simp at this; omega) k0; have k5 := keeps hb8 (by have := hb9.size; simp at this; omega) k1; have k6 := keeps hb8 (by have := hb9.size; simp at this; omega) k2; have k7 := keeps hb8 (by have := hb9.size; simp at this; omega) k3))
 rw [HN.out] at ho8
 have hz := hb9.size
 have hz2 := HB1.out.size
 have HBF := Lib.hid (HB1.out.trans ((hb9.trans (hb8.mono hz)).mono hz2))
 have HOF := Lib.hid (own_lower ho8 (Nat.le_trans hz2 hz))
 clear hb8 hb9 ho8 ho9 k0 k1 k2 k3 k4 k5 k6 k7 W0 W1 W2 W3 V0 V1 V2 V3
 go_wp2
 go_ret
 exact ⟨_, rfl, HBF.out, HOF.out⟩

end Go.Proofs.YthofaoabgbgbdaaGreatDoor
