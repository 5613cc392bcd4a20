/-
  What the implementation's follow and step compute at one state of a deterministic system.
  What the implementation's step computes in a deterministic system.
  A slice less its first element, where its capacity is not known.
  The program's minimalFrom, from values that are all zero: the partition at rest, and the least system.
  The program's minimal.
-/
import Derived.Test.YtaabkeejbhdenaaGreatDoorM3
import Derived.Test.YtaabkeejbhdenaaGreatDoorM4
import Derived.Test.YtaabkeejbhdenaaGreatDoorM14
import Derived.Test.YtaabkeejbhdenaaGreatDoorM21
import Derived.Deep.AppendLies
import Derived.Deep.OwnRows
import Derived.Deep.RegionHeld3
namespace Go.Proofs.YtaabkeejbhdenaaGreatDoor
open Go Go.RowKit

theorem Sort_one (a : Option Addr) (n cap : Nat) (w : World) (hn : n ≤ 1) :
  Calls Tryz.prog 102 #[.slice a n cap] w fun e w' => e = .returned (.tuple #[]) ∧ w = w' := by
 have h0 : (0 : Int) ≤ (n : Int) := by omega
 have h1 : (n : Int) ≤ 18446744073709551615 := by omega
 go_enter Tryz.func102, Tryz.ntmps102
 go_wp2_with fail
 refine (Tryz.bits_Len _ _ h0 h1).mono ?_
 rintro e w' ⟨rfl, rfl⟩
 go_wp2_with fail
 refine (pdq_one _ _ _ _ hn).mono ?_
 rintro e w' ⟨rfl, rfl⟩
 go_wp2_with fail
 go_end0
 exact ⟨rfl, rfl⟩

theorem info_int64x : (Tryz.prog.info? 2).map (fun i => (i.zero, i.size, i.bytes)) = some (some (.int .i64 0), 1, 8) := by kernel_rfl

theorem hit_take {p : Lts} {q : Int} {l : ByteArray} {k : Nat} (h : k < p.edges.length) (g : hitB p q l p.edges[k] = true) :
  ((p.edges.take (k + 1)).filter (hitB p q l)).map Edge.dst = ((p.edges.take k).filter (hitB p q l)).map Edge.dst ++ [p.edges[k].dst] := by
 rw [List.take_succ_eq_append_getElem h, List.filter_append, List.map_append]
 simp [g]
theorem miss_take {p : Lts} {q : Int} {l : ByteArray} {k : Nat} (h : k < p.edges.length) (g : hitB p q l p.edges[k] = false) :
  ((p.edges.take (k + 1)).filter (hitB p q l)).map Edge.dst = ((p.edges.take k).filter (hitB p q l)).map Edge.dst := by
 rw [List.take_succ_eq_append_getElem h, List.filter_append, List.map_append]
 simp [g]

set_option maxRecDepth 100000 in
set_option maxHeartbeats 2000000 in
theorem follow_one (lo lo2 : Nat) (p : Lts) (lv ev sv : Value) (q : Int) (l : ByteArray) (w : World) (hvp : Valid p) (hsp : Single p) (hl : SliceK 1 encS lo w lv p.labels) (he : SliceK 3 encE lo w ev p.edges) (hs : SliceK 1 encI lo2 w sv [q]) :
  Calls Tryz.prog 100 #[.agg #[.int .i64 p.states, .int .i64 p.initial, lv, ev], sv, .string l] w (MadeNums (behind p q l) w) := by
 have HS := Lib.hid hs
 have hone := behind_one hvp hsp q l
 have HE := Lib.hid hvp.edge
 have hmost := hvp.most
 clear hs hvp hsp
 obtain ⟨al, cl, rfl, hln, hlc, hlr⟩ := hl
 obtain ⟨ae, ce, rfl, hen, hec, hrow⟩ := he
 have HLR := Lib.hid hlr
 have HER := Lib.hid hrow
 clear hlr hrow
 obtain ⟨i0, hi, hz0, hz1, hz2⟩ := info_parts info_int64x
 have HB0 : Hid (Below w.heap.size w (w.alloc (.cells #[.int .i64 p.states, .int .i64 p.initial, .slice al p.labels.length cl, .slice ae p.edges.length ce] 29))) := (Below.refl _ _).alloc (Nat.le_refl _) _
 have HQ2 : Hid ((w.alloc (.cells #[.int .i64 p.states, .int .i64 p.initial, .slice al p.labels.length cl, .slice ae p.edges.length ce] 29)).cell? ⟨w.heap.size, 2, none⟩ = some (.slice al p.labels.length cl)) := by unfold Hid; simp
 obtain ⟨wB, hwB⟩ : ∃ wB, wB = w.alloc (.cells #[.int .i64 p.states, .int .i64 p.initial, .slice al p.labels.length cl, .slice ae p.edges.length ce] 29) := ⟨_, rfl⟩
 have hwz : wB.heap.size = w.heap.size + 1 := by rw [hwB]; simp
 rw [← hwB] at HB0 HQ2
 have HWB := Lib.hid hwB
 clear hwB
 go_enter Tryz.func100, Tryz.ntmps100
 go_wp2_with fail
 rw [← HWB.out]
 clear HWB
 go_loopw [7, 13] (fun v i wr => ∃ k : Nat, k ≤ p.edges.length ∧ i = .int .i64 k ∧ Below wB.heap.size wB wr ∧ wr.ownsRow wB.heap.size 2 1 v (((p.edges.take k).filter (hitB p q l)).map Edge.dst).length ((((p.edges.take k).filter (hitB p q l)).map Edge.dst).map (Value.int .i64))) (fun _ i _ => p.edges.length - (intOf i).toNat)
 case atStart => exact ⟨0, Nat.zero_le _, rfl, Below.refl _ _, World.ownsRow_nil _ _ _ _⟩
 case round =>
  obtain ⟨k, hk, rfl, hbl, ho⟩ := hrel
  have HBL := Lib.hid hbl
  have HO := Lib.hid ho
  have hsz := hbl.size
  have q2 := keeps hbl (by omega) HQ2.out
  have hwr : w.heap.size < wr.heap.size := by omega
  have hfl : (((p.edges.take k).filter (hitB p q l)).map Edge.dst).length ≤ k := by rw [List.length_map]; exact Nat.le_trans (List.length_filter_le _ _) (List.length_take_le _ _)
  clear hbl ho
  by_cases hlt : k < p.edges.length
  ·have hbr := HB0.out.trans (HBL.out.mono HB0.out.size)
   obtain ⟨be, oe, rfl, -, hbe, e1, e2, e3⟩ := (HER.out.below hbr).edge hlt
   have hek := HE.out k hlt
   obtain ⟨hll, hla⟩ := labAt_idx hek
   obtain ⟨bl, ol, rfl, -, hbl2, c1⟩ := (HLR.out.below hbr).one hll
   simp only [encS, List.getElem?_cons_zero] at c1
   rw [← hla] at c1
   have hl0 : ((p.edges[k].lab.toNat : Nat) : Int) = p.edges[k].lab := by have := hek.l0; omega
   have hl1 := hek.l1
   have hl2 := hek.l0
   obtain ⟨e, hee⟩ : ∃ e, e = p.edges[k] := ⟨_, rfl⟩
   obtain ⟨m, hm⟩ : ∃ m, m = p.edges[k].lab.toNat := ⟨_, rfl⟩
   rw [← hm] at c1 hl0 hll
   rw [← hee] at e1 e2 e3 c1 hl0 hl1 hl2
   have HEE := Lib.hid hee
   rw [← hl0] at e2
   have HBA : Hid (Below wB.heap.size wB (wr.alloc (.cells #[.int .i64 e.src, .int .i64 m, .int .i64 e.dst] 73))) := HBL.out.alloc hsz _
   have HSA : Hid (SliceK 1 encI lo2 (wr.alloc (.cells #[.int .i64 e.src, .int .i64 m, .int .i64 e.dst] 73)) sv [q]) := HS.out.below (hbr.alloc hbr.size _)
   have HOA : Hid ((wr.alloc (.cells #[.int .i64 e.src, .int .i64 m, .int .i64 e.dst] 73)).ownsRow wB.heap.size 2 1 u7 (((p.edges.take k).filter (hitB p q l)).map Edge.dst).length ((((p.edges.take k).filter (hitB p q l)).map Edge.dst).map (Value.int .i64))) := HO.out.alloc _
   have hml : (m : Int) < (p.labels.length : Int) := by omega
   clear hl0 hl1 hl2 hek hbr hla
   cases g1 : ((labAt p e).toList == l.toList)
   ·have HG : Hid (hitB p q l p.edges[k] = false) := by unfold Hid hitB; rw [← hee, g1, Bool.and_false]
    clear hee hm
    go_wp2_with fail
    go_roundw
    case rel => exact ⟨k + 1, by omega, by go_num, HBA.out, by rw [miss_take hlt HG.out]; exact HOA.out⟩
    case measure => simp [intOf]; omega
   ·cases g2 : (q == e.src)
    ·have HG : Hid (hitB p q l p.edges[k] = false) := by
      unfold Hid hitB
      rw [← hee]
      have : (e.src == q) = false := by rw [beq_eq_false_iff_ne] at g2 ⊢; exact fun h => g2 h.symm
      rw [this, Bool.false_and]
     have HG2 : Hid (([q].any fun y => y == e.src) = false) := by unfold Hid; simp [g2]
     clear hee hm g2
     go_wp2_with fail
     refine (Contains_ints lo2 _ _ [q] _ HSA.out).mono ?_
     rintro e' w' ⟨rfl, rfl⟩
     rw [HG2.out]
     go_wp2_with fail
     go_roundw
     case rel => exact ⟨k + 1, by omega, by go_num, HBA.out, by rw [miss_take hlt HG.out]; exact HOA.out⟩
     case measure => simp [intOf]; omega
    ·have HG : Hid (hitB p q l p.edges[k] = true) := by
      unfold Hid hitB
      rw [← hee]
      have : (e.src == q) = true := by rw [beq_iff_eq] at g2 ⊢; exact g2.symm
      rw [this, g1]; rfl
     have HG2 : Hid (([q].any fun y => y == e.src) = true) := by unfold Hid; simp [g2]
     have HD : Hid (p.edges[k].dst = e.dst) := by unfold Hid; rw [← hee]
     clear hee hm g2
     have hfz := hfl
     generalize hfs : ((p.edges.take k).filter (hitB p q l)).map Edge.dst = fs at *
     have HFS := Lib.hid hfs
     clear hfs
     go_wp2_with fail
     refine (Contains_ints lo2 _ _ [q] _ HSA.out).mono ?_
     rintro e' w' ⟨rfl, rfl⟩
     rw [HG2.out]
     go_wp2_with (at_builtin; refine wpList_append_own _ rfl _ _ 66 rfl wB.heap.size 2 i0 (.int .i64 0) 1 8 Tryz.underlying66 hi hz0 hz1 hz2 rfl (by decide) _ _ _ rfl (HOA.out.alloc _) ⟨wr.heap.size + 1, 0, none⟩ 1 1 [.int .i64 e.dst] rfl rfl ?c1 ?c2 ?c3 ?c4 ?c5 ?_)
     case c1 => have := cell_one_new (wr.alloc (.cells #[.int .i64 e.src, .int .i64 m, .int .i64 e.dst] 73)) (.int .i64 e.dst) 2; simpa using this
     case c2 => intro u hu; simp at hu; subst hu; rfl
     case c3 => simp [maxLen]; omega
     case c4 => omega
     case c5 => simp; omega
     intro v' w3 ho1 hg1 _
     have HO2 : Hid (w3.ownsRow wB.heap.size 2 1 v' (fs ++ [e.dst]).length ((fs ++ [e.dst]).map (Value.int .i64))) := by
      unfold Hid
      rw [List.length_append, List.map_append, hwz]
      exact ho1
     have HB2 : Hid (Below wB.heap.size wB w3) := (HBA.out.alloc (by simp; omega) _).grown hg1 (by simp; omega) (fun b e => (HO.out.lt b e).1)
     clear ho1 hg1
     go_wp2_with fail
     go_roundw
     case rel => exact ⟨k + 1, by omega, by go_num, HB2.out, by rw [hit_take hlt HG.out, HFS.out, HD.out]; exact HO2.out⟩
     case measure => simp [intOf]; omega
  ·obtain rfl : k = p.edges.length := by omega
   have HO2 : Hid (wr.ownsRow wB.heap.size 2 1 u7 (behind p q l).length ((behind p q l).map (Value.int .i64))) := by
    have := HO.out
    rw [List.take_length] at this
    exact this
   obtain ⟨a7, c7, rfl, -, -⟩ := owns_slice HO2.out
   clear HO HER HLR q2
   go_wp2_with fail
   refine (Sort_one _ _ _ _ hone).mono ?_
   rintro e' w' ⟨rfl, rfl⟩
   go_wp2_with fail
   refine (Compact_one _ _ _ _ hone).mono ?_
   rintro e' w' ⟨rfl, rfl⟩
   go_wp2_with fail
   go_ret
   exact ⟨_, rfl, HB0.out.trans (HBL.out.mono HB0.out.size), own_lower HO2.out HB0.out.size⟩

end Go.Proofs.YtaabkeejbhdenaaGreatDoor

namespace Go.Proofs.YtaabkeejbhdenaaGreatDoor
open Go Go.RowKit

set_option maxRecDepth 100000 in
set_option maxHeartbeats 1000000 in
theorem step_any (lo : Nat) (p : Lts) (lv ev : Value) (q : Int) (l : ByteArray) (w : World) (hvp : Valid p) (hsp : Single p) (hl : SliceK 1 encS lo w lv p.labels) (he : SliceK 3 encE lo w ev p.edges) :
  Calls Tryz.prog 83 #[.agg #[.int .i64 p.states, .int .i64 p.initial, lv, ev], .int .i64 q, .string l] w fun e w' => e = .returned (.int .i64 (goTo p q l)) ∧ Below w.heap.size w w' := by
 have HB0 := Lib.hid (box_below w #[.int .i64 p.states, .int .i64 p.initial, lv, ev] 29)
 by_cases hq : q < 0
 ·have HF : Hid (goTo p q l = -1) := by unfold Hid goTo; rw [if_pos hq]
  clear hvp hsp hl he
  go_enter Tryz.func83, Tryz.ntmps83
  go_wp2_with fail
  go_ret
  exact ⟨ret_int HF.out.symm, HB0.out⟩
 ·have hq' : ¬ q < 0 := hq
  have HF := Lib.hid (goTo_behind (p := p) (q := q) (by omega) l)
  have HB1 : Hid (Below w.heap.size w ((w.alloc (.cells #[.int .i64 p.states, .int .i64 p.initial, lv, ev] 29)).alloc (.cells #[.int .i64 q] 2))) := HB0.out.alloc HB0.out.size _
  have HS : Hid (SliceK 1 encI 0 ((w.alloc (.cells #[.int .i64 p.states, .int .i64 p.initial, lv, ev] 29)).alloc (.cells #[.int .i64 q] 2)) (.slice (some ⟨w.heap.size + 1, 0, none⟩) 1 1) [q]) := by
   have := World.ownsRow_lit (base := 0) (e := 2) (size := 1) (w.alloc (.cells #[.int .i64 p.states, .int .i64 p.initial, lv, ev] 29)) #[.int .i64 q] 1 (Nat.zero_le _) (by decide) (by simp)
   have e9 : (w.alloc (.cells #[.int .i64 p.states, .int .i64 p.initial, lv, ev] 29)).heap.size = w.heap.size + 1 := by simp
   rw [e9] at this
   exact SliceK.of_owns (e := 2) encI_len rfl (by rw [flat_encI]; simpa using this)
  have HC := Lib.hid (follow_one lo 0 p lv ev (.slice (some ⟨w.heap.size + 1, 0, none⟩) 1 1) q l _ hvp hsp (hl.below HB1.out) (he.below HB1.out) HS.out)
  clear hvp hsp hl he hq
  go_enter Tryz.func83, Tryz.ntmps83
  go_wp2_with fail
  refine Calls.mono HC.out ?_
  rintro e w1 ⟨v, rfl, hb1, ho1⟩
  have HB2 := Lib.hid (HB1.out.trans (hb1.mono HB1.out.size))
  clear hb1
  obtain ⟨av, cv, rfl, hc1, hc2⟩ := owns_slice ho1
  cases hbh : behind p q l with
  | nil =>
   have HG : Hid (goTo p q l = -1) := by unfold Hid; rw [HF.out, hbh]; rfl
   clear ho1 hc1
   simp only [List.length_nil]
   go_wp2_with fail
   go_ret
   exact ⟨ret_int HG.out.symm, HB2.out⟩
  | cons x r =>
   have HG : Hid (goTo p q l = x) := by unfold Hid; rw [HF.out, hbh]; rfl
   rw [hbh] at ho1
   have hsl : SliceK 1 encI 0 w1 (.slice av (x :: r).length cv) (x :: r) := SliceK.of_owns (e := 2) encI_len rfl (by rw [flat_encI]; exact own_lower ho1 (Nat.zero_le _))
   obtain ⟨a2, c2, e2, h2, h3, hrow⟩ := hsl
   simp only [Value.slice.injEq, true_and] at e2
   obtain ⟨rfl, rfl⟩ := e2
   obtain ⟨b1, o1, rfl, -, hbs, k1⟩ := hrow.one (i := 0) (by simp)
   simp only [encI, List.getElem?_cons_zero, List.getElem_cons_zero, Nat.add_zero] at k1
   have hlen : (0 : Int) < ((x :: r).length : Int) := by simp
   obtain ⟨n, hn⟩ : ∃ n, n = (x :: r).length := ⟨_, rfl⟩
   rw [← hn] at hlen
   simp only [← hn]
   clear ho1 hrow hc1 h2 hn hbh
   go_wp2_with fail
   go_ret
   exact ⟨ret_int HG.out.symm, HB2.out⟩

end Go.Proofs.YtaabkeejbhdenaaGreatDoor

namespace Go.Proofs.YtaabkeejbhdenaaGreatDoor
open Go Go.RowKit

theorem slice_from (T e : TypeId) (s : Nat) (hT : Tryz.prog.underlying T = some (.slice e)) (hs : ∀ w, (sizeOf e).run Tryz.prog w = .ok s w) (a : Addr) (n c : Nat) (hn : 1 ≤ n) (w : World) :
  (Instr.slice T (.slice (some a) n c) (some (.int .i64 1)) none none).run Tryz.prog w = .ok (.slice (some (if c = 1 then a else a.add s)) (n - 1) (c - 1)) w := by
 have hel : Tryz.prog.elem T = e := by simp [Program.elem, hT]
 rw [run_slice_l w T (some a) n c (by rw [hel]; exact hT) .i64 1 (by decide) (by omega), hel, hs]
 simp only [Result.andThen, sliced, Nat.one_mul, Int.toNat_one]
 by_cases h : c = 1
 ·simp [h]
 ·simp [h]
end Go.Proofs.YtaabkeejbhdenaaGreatDoor

namespace Go.Proofs.YtaabkeejbhdenaaGreatDoor
open Go Go.RowKit

theorem mf_results {w : World} {b : Nat} {v0 v1 v2 v3 : Value} {tmps : Array Value} (hc : tmps.getD 4 undef = .pointer (some ⟨b, 0, none⟩)) (hb : Blk w b [v0, v1, v2, v3] 29) :
  (results Tryz.f65 tmps).run Tryz.prog w = .ok (.tuple #[.agg #[v0, v1, v2, v3], tmps.getD 5 undef]) w := by
 have h0 := hb.cell 0 rfl
 have h1 := hb.cell 1 rfl
 have h2 := hb.cell 2 rfl
 have h3 := hb.cell 3 rfl
 simp only [Array.getD_eq_getD_getElem?] at hc
 simp [results, Tryz.results65, go_sem, hc, h0, h1, h2, h3, Result.andThen]
theorem info_int64Q : (Tryz.prog.info? 2).map (fun i => (i.zero, i.size, i.bytes)) = some (some (.int .i64 0), 1, 8) := by kernel_rfl
theorem info_intsQ : (Tryz.prog.info? 66).map (fun i => (i.zero, i.size, i.bytes)) = some (some (.slice none 0 0), 1, 24) := by kernel_rfl
/-- A state's key, its first entries. -/
def keyTo (d : Lts) (P : List Int) (k j : Nat) : List Int := P.getD k 0 :: (blkOf (goOf d) j P k)
theorem keyTo_succ (d : Lts) (P : List Int) (k j : Nat) : keyTo d P k (j + 1) = keyTo d P k j ++ [if goOf d k j < 0 then -1 else P.getD (goOf d k j).toNat 0] := by
 unfold keyTo blkOf
 rw [List.range_succ, List.map_append]
 rfl
theorem keyTo_len (d : Lts) (P : List Int) (k j : Nat) : (keyTo d P k j).length = j + 1 := by simp [keyTo, blkOf]
def keysTo (d : Lts) (P : List Int) (m n : Nat) : List (List Int) := (List.range n).map fun k => keyTo d P k m
theorem keysTo_succ (d : Lts) (P : List Int) (m n : Nat) : keysTo d P m (n + 1) = keysTo d P m n ++ [keyTo d P n m] := by unfold keysTo; rw [List.range_succ, List.map_append]; rfl
theorem keysTo_len (d : Lts) (P : List Int) (m n : Nat) : (keysTo d P m n).length = n := by simp [keysTo]
theorem keysTo_step (d : Lts) (P : List Int) (m n : Nat) : blocksL (keysTo d P m n) = implStep (goOf d) n m P := rfl

set_option maxRecDepth 100000 in
set_option maxHeartbeats 8000000 in
theorem minimalFrom_any (lo lo2 N : Nat) (d : Lts) (lv ev zv : Value) (w : World) (hv : Valid d) (hs : Single d) (hu : Up d.edges) (h00 : d.initial = 0) (hN : (N : Int) = d.states) (hl : SliceK 1 encS lo w lv d.labels) (he : SliceK 3 encE lo w ev d.edges) (hz : SliceK 1 encI lo2 w zv (List.replicate N 0)) (g : Glob w) (hsh : Short20 d.labels) :
  Calls Tryz.prog 65 #[.agg #[.int .i64 d.states, .int .i64 d.initial, lv, ev], zv] w fun e w' => Below w.heap.size w w' ∧ ∃ r lv' ev' sv, e = .returned (.tuple #[.agg #[.int .i64 r.states, .int .i64 r.initial, lv', ev'], sv]) ∧ MinSys d r ∧ OwnLts w.heap.size w' lv' ev' r := by
 have hst0 := hv.st0
 have hst1 := hv.st1
 have hlp := hv.labels.pos
 have hl12 := hv.labels.most
 rw [← hN] at hst0 hst1
 obtain ⟨tb, htb⟩ : ∃ tb, tb = w.heap.size := ⟨_, rfl⟩
 have hlE : SliceK 1 encS lo w lv d.labels := hl
 obtain ⟨al, cl, rfl, hln, hlc, hlrow⟩ := hl
 obtain ⟨LN, hLN⟩ : ∃ LN, LN = d.labels.length := ⟨_, rfl⟩
 rw [← hLN] at hlE hln hlp hl12 ⊢
 obtain ⟨bl, ol, rfl, hblw, hcells⟩ : ∃ bl ol, al = some ⟨bl, ol, none⟩ ∧ bl < w.heap.size ∧ ∀ i (h : i < d.labels.length), w.cell? ⟨bl, ol + i, none⟩ = some (.string d.labels[i]) := by
  rcases hlrow with h | ⟨bl, ol, h1, -, h3, h4⟩
  ·omega
  ·exact ⟨bl, ol, h1, h3, fun i hi => by have := h4 i hi 0 (by omega); simpa [encS] using this⟩
 obtain ⟨ox, hox⟩ : ∃ ox, ox = if cl = 1 then ol else ol + 1 := ⟨_, rfl⟩
 have hsl := slice_from 22 9 1 Tryz.underlying22 (fun _ => by kernel_rfl) ⟨bl, ol, none⟩ LN cl hlp
 have hpk : (if cl = 1 then (⟨bl, ol, none⟩ : Addr) else (⟨bl, ol, none⟩ : Addr).add 1) = ⟨bl, ox, none⟩ := by
  rw [hox]
  by_cases h : cl = 1
  ·rw [if_pos h, if_pos h]
  ·rw [if_neg h, if_neg h]; rfl
 rw [hpk] at hsl
 have hlab : ∀ j, j < LN - 1 → w.cell? ⟨bl, ox + j, none⟩ = some (.string (d.labels.getD (j + 1) ByteArray.empty)) := fun j hj => by
  have hj2 : j + 1 < d.labels.length := by omega
  have h := hcells (j + 1) hj2
  have hcl : ¬ cl = 1 := by omega
  rw [hox, if_neg hcl, show ol + 1 + j = ol + (j + 1) from by omega, h, List.getD_eq_getElem?_getD, List.getElem?_eq_getElem hj2]
  rfl
 obtain ⟨wA, hwA⟩ : ∃ wA, wA = (w.alloc (.cells #[.int .i64 d.states, .int .i64 d.initial, .slice (some ⟨bl, ol, none⟩) LN cl, ev] 29)).alloc (.cells #[.int .i64 0, .int .i64 0, .slice none 0 0, .slice none 0 0] 29) := ⟨_, rfl⟩
 have hbA : Below w.heap.size w wA := by rw [hwA]; exact ((Below.refl _ _).alloc (Nat.le_refl _) _).alloc (by simp) _
 have hT : Blk wA tb [.int .i64 d.states, .int .i64 d.initial, .slice (some ⟨bl, ol, none⟩) LN cl, ev] 29 := by rw [hwA, htb]; exact (Blk.new w _ _).alloc _
 have hR : Blk wA (tb + 1) [.int .i64 0, .int .i64 0, .slice none 0 0, .slice none 0 0] 29 := by
  have := Blk.new (w.alloc (.cells #[.int .i64 d.states, .int .i64 d.initial, .slice (some ⟨bl, ol, none⟩) LN cl, ev] 29)) [.int .i64 0, .int .i64 0, .slice none 0 0, .slice none 0 0] 29
  rw [World.size_alloc, ← htb] at this
  rw [hwA]
  exact this
 have HNO := Lib.hid (normal_any lo2 zv (List.replicate N 0) wA (by simp; omega) (fun x hx => by
  have := (List.mem_replicate.1 hx).2
  subst this
  exact ⟨by decide, by decide⟩) (hz.below hbA))
 rw [normL_zeros] at HNO
 have hgo : ∀ i k, i < N → k < LN - 1 → goOf d i k < (N : Int) := fun i k _ _ => by rw [hN]; exact (goOf_lt hv i k).2
 obtain ⟨m, hm⟩ : ∃ m, m = LN - 1 := ⟨_, rfl⟩
 rw [← hm] at hgo hlab
 have hrest : restP d = partsR (goOf d) N m N := by unfold restP; rw [show d.states.toNat = N from by omega, hm, hLN]
 have HV := Lib.hid hv
 have HSI := Lib.hid hs
 have HU := Lib.hid hu
 have H00 := Lib.hid h00
 have HN := Lib.hid hN
 have HLE := Lib.hid hlE
 have HE := Lib.hid he
 have HG := Lib.hid g
 have HSH := Lib.hid hsh
 have HLAB := Lib.hid hlab
 have HGO := Lib.hid hgo
 have HREST := Lib.hid hrest
 have HBA := Lib.hid hbA
 have HT := Lib.hid hT
 have HR := Lib.hid hR
 have HWA := Lib.hid hwA
 have HTB := Lib.hid htb
 have HM := Lib.hid hm
 have HLN := Lib.hid hLN
 have HSL := Lib.hid hsl
 have hsWA : w.heap.size ≤ wA.heap.size := hbA.size
 obtain ⟨i1, hi1, hz10, hz11, hz12⟩ := info_parts info_int64Q
 obtain ⟨i2, hi2, hz20, hz21, hz22⟩ := info_parts info_intsQ
 clear hv hs hu h00 hN hlE he hz g hsh hlab hgo hrest hbA hT hR hwA htb hlrow hcells hox hpk hLN hsl hm
 go_enter Tryz.func65, Tryz.ntmps65
 go_wp2_with fail
 rw [← HWA.out]
 try rw [← HTB.out]
 refine Calls.mono HNO.out ?_
 rintro e w2 ⟨v2, rfl, hb2, ho2⟩
 rw [List.length_replicate] at ho2
 obtain ⟨gP, cP, rfl, -, hgPw⟩ := own_someP ho2 (by omega)
 obtain ⟨cb, hcb⟩ : ∃ cb, cb = w2.heap.size := ⟨_, rfl⟩
 obtain ⟨W, hW⟩ : ∃ W, W = w2.alloc (.cells #[.slice (some ⟨gP, 0, none⟩) N cP] 66) := ⟨_, rfl⟩
 have hbW : Below w2.heap.size w2 W := by rw [hW]; exact (Below.refl _ _).alloc (Nat.le_refl _) _
 have hbAW : Below wA.heap.size wA W := hb2.trans (hbW.mono hb2.size)
 have HC : Hid (Blk W cb [.slice (some ⟨gP, 0, none⟩) N cP] 66) := by unfold Hid; rw [hW, hcb]; exact Blk.new w2 _ _
 have HTW := Lib.hid (HT.out.below hbAW)
 have HRW := Lib.hid (HR.out.below hbAW)
 have HBW := Lib.hid (HBA.out.trans (hbAW.mono hsWA))
 have HOW : Hid (W.ownsRow w.heap.size 2 1 (.slice (some ⟨gP, 0, none⟩) N cP) N ((partsR (goOf d) N m 0).map (Value.int .i64))) := own_lower (owns_below ho2 hbW) hsWA
 have HWW := Lib.hid hW
 have HCB := Lib.hid hcb
 have HCBW : Hid (w.heap.size ≤ cb) := by unfold Hid; rw [hcb]; have := hb2.size; omega
 clear hb2 ho2 hcb hW hbW hbAW HNO hgPw
 go_wp2
 rw [← HWW.out]
 try rw [← HCB.out]
 go_loopg [7] 64 (fun gk v7 wr => ∃ (r gP cP : Nat), (∀ s, s < r → partsR (goOf d) N m s ≠ partsR (goOf d) N m (s + 1)) ∧ 64 - r ≤ gk ∧ Below w.heap.size w wr ∧ Blk wr tb [.int .i64 d.states, .int .i64 d.initial, .slice (some ⟨bl, ol, none⟩) LN cl, ev] 29 ∧ Blk wr (tb + 1) [.int .i64 0, .int .i64 0, .slice none 0 0, .slice none 0 0] 29
  ∧ Blk wr cb [.slice (some ⟨gP, 0, none⟩) N cP] 66 ∧ wr.ownsRow w.heap.size 2 1 (.slice (some ⟨gP, 0, none⟩) N cP) N ((partsR (goOf d) N m r).map (Value.int .i64)))
 case atStart => exact ⟨0, gP, cP, (fun s h => by omega), Nat.le_refl _, HBW.out, HTW.out, HRW.out, HC.out, HOW.out⟩
 case round =>
  clear HBW HTW HRW HC HOW
  obtain ⟨r, gP, cP, hne, hgk, hbl, hT, hR, hC, hO⟩ := hrel
  obtain ⟨wC, rfl⟩ : ∃ wC : World, wC = wr := ⟨_, rfl⟩
  have hrN : r < N := rounds_few (by omega) HGO.out hne
  obtain ⟨P, hP⟩ : ∃ P, P = partsR (goOf d) N m r := ⟨_, rfl⟩
  rw [← hP] at hO
  have hPl : P.length = N := by rw [hP]; exact partsR_len _ _ _ _
  have hP0 : ∀ z ∈ P, 0 ≤ z ∧ z < (N : Int) := fun z hz => by rw [hP] at hz; exact partsR_range _ _ hz
  have HNE := Lib.hid hne
  have HGK := Lib.hid hgk
  have HBL := Lib.hid hbl
  have HTC := Lib.hid hT
  have HRC := Lib.hid hR
  have HCC := Lib.hid hC
  have HOC := Lib.hid hO
  have HP := Lib.hid hP
  have HPL := Lib.hid hPl
  have HP0 := Lib.hid hP0
  have hszC := hbl.size
  have htw := hT.lt
  have hcw := hC.lt
  have hgw := (hO.lt gP rfl).2
  have x0 := hT.cell 0 rfl
  rw [← HN.out] at x0
  clear hne hgk hbl hT hR hC hO hP hPl hP0
  go_wp2
  go_loopw [7, 23] (fun v7 v23 wr => ∃ (k : Nat) (vs : List Value), k ≤ N ∧ v23 = .int .i64 k ∧ Below wC.heap.size wC wr ∧ OwnIntss 66 2 wC.heap.size wr v7 vs (keysTo d P m k)) (fun _ v23 _ => N - (intOf v23).toNat)
  case atStart => exact ⟨0, [], Nat.zero_le _, rfl, Below.refl _ _, ⟨rfl, World.ownsRow_nil _ _ _ _, fun i h _ => absurd h (Nat.not_lt_zero _), fun i j h _ _ => absurd h (Nat.not_lt_zero _), fun i h => absurd h (Nat.not_lt_zero _)⟩⟩
  case round =>
   obtain ⟨k, vs, hk, rfl, hbk, hok⟩ := hrel
   obtain ⟨wK, rfl⟩ : ∃ wK : World, wK = wr := ⟨_, rfl⟩
   have HBK := Lib.hid hbk
   have HOK := Lib.hid hok
   have hszK := hbk.size
   have hvl : vs.length = k := by have := hok.1; rw [keysTo_len] at this; exact this
   obtain ⟨ka, kc, hkv, -, -⟩ := owns_slice hok.2.1
   rw [hvl] at hkv
   subst hkv
   have HVL := Lib.hid hvl
   have ct := keeps hbk hcw (HCC.out.cell 0 rfl)
   have t2 := keeps hbk htw (HTC.out.cell 2 rfl)
   have htk : tb < wK.heap.size := by omega
   have hck : cb < wK.heap.size := by omega
   have hgk2 : gP < wK.heap.size := by omega
   by_cases hkN : k < N
   ·have hkP : k < P.length := by rw [HPL.out]; exact hkN
    have cp := keeps hbk hgw (cell_num HOC.out hkN)
    obtain ⟨pk, hpk⟩ : ∃ pk, pk = P.getD k 0 := ⟨_, rfl⟩
    rw [← hpk] at cp
    obtain ⟨wL, hwL⟩ : ∃ wL, wL = wK.alloc (.cells #[.int .i64 pk] 2) := ⟨_, rfl⟩
    have hbL : Below wK.heap.size wK wL := by rw [hwL]; exact (Below.refl _ _).alloc (Nat.le_refl _) _
    have HOL : Hid (wL.ownsRow wK.heap.size 2 1 (.slice (some ⟨wK.heap.size, 0, none⟩) 1 1) (keyTo d P k 0).length ((keyTo d P k 0).map (Value.int .i64))) := by
     have h := World.ownsRow_lit (base := wK.heap.size) (e := 2) (size := 1) wK #[.int .i64 pk] 1 (Nat.le_refl _) (by decide) rfl
     unfold Hid
     rw [hwL]
     have e : keyTo d P k 0 = [pk] := by unfold keyTo blkOf; rw [hpk]; rfl
     rw [e]
     exact h
    have HBL2 := Lib.hid hbL
    have HWL := Lib.hid hwL
    have hsl2 := HSL.out
    clear hpk hwL hbL hok hbk
    go_wp2
    rw [← HWL.out]
    go_loopw [9, 35] (fun v9 v35 wr => ∃ j : Nat, j ≤ m ∧ v35 = .int .i64 j ∧ Below wK.heap.size wK wr ∧ wr.ownsRow wK.heap.size 2 1 v9 (keyTo d P k j).length ((keyTo d P k j).map (Value.int .i64))) (fun _ v35 _ => m - (intOf v35).toNat)
    case atStart => exact ⟨0, Nat.zero_le _, rfl, HBL2.out, HOL.out⟩
    case round =>
     clear HOL HBL2
     obtain ⟨j, hj, rfl, hbj, hoj⟩ := hrel
     obtain ⟨wJ, rfl⟩ : ∃ wJ : World, wJ = wr := ⟨_, rfl⟩
     rw [keyTo_len] at hoj
     obtain ⟨ja, jc, rfl, -, -⟩ := owns_slice hoj
     have HBJ := Lib.hid hbj
     have HOJ := Lib.hid hoj
     have hszJ := hbj.size
     have hbCJ : Below wC.heap.size wC wJ := HBK.out.trans (hbj.mono hszK)
     have HBCJ := Lib.hid hbCJ
     clear hoj t2 ct cp
     by_cases hjm : j < m
     ·have hjL : j < LN - 1 := by rw [← HM.out]; exact hjm
      have hw0J : Below w.heap.size w wJ := HBL.out.trans (hbCJ.mono hszC)
      have cl1 := keeps hw0J hblw (HLAB.out j hjm)
      obtain ⟨l, hl⟩ : ∃ l, l = d.labels.getD (j + 1) ByteArray.empty := ⟨_, rfl⟩
      rw [← hl] at cl1
      have t0 := (HTC.out.below hbCJ).cell 0 rfl
      have t1 := (HTC.out.below hbCJ).cell 1 rfl
      have t2 := (HTC.out.below hbCJ).cell 2 rfl
      have t3 := (HTC.out.below hbCJ).cell 3 rfl
      have hst := step_any lo d (.slice (some ⟨bl, ol, none⟩) LN cl) ev (k : Int) l wJ HV.out HSI.out (HLE.out.below hw0J) (HE.out.below hw0J)
      have hgo2 : goTo d (k : Int) l = goOf d k j := by rw [hl]; rfl
      rw [hgo2] at hst
      obtain ⟨y, hy⟩ : ∃ y, y = goOf d k j := ⟨_, rfl⟩
      rw [← hy] at hst
      have HST := Lib.hid hst
      have hyN : y < (N : Int) := by rw [hy]; exact HGO.out k j hkN hjm
      have HY := Lib.hid hy
      have ck := keeps hbCJ hcw (HCC.out.cell 0 rfl)
      have hckJ : cb < wJ.heap.size := by omega
      clear hst hgo2 hl hy hw0J hbj hbCJ
      go_wp2_with fail
      refine Calls.mono HST.out ?_
      rintro e w5 ⟨rfl, hb5⟩
      have HB5 := Lib.hid (HBJ.out.trans (hb5.mono hszJ))
      have HO5 := Lib.hid (owns_below HOJ.out hb5)
      have HBC5 := Lib.hid (HBCJ.out.trans (hb5.mono HBCJ.out.size))
      have hs5 := HB5.out.size
      have ck5 := keeps hb5 hckJ ck
      clear hb5 HST t0 t1 t2 t3 cl1 ck
      by_cases hy0 : y < 0
      ·have HZ : Hid ((if goOf d k j < 0 then (-1 : Int) else P.getD (goOf d k j).toNat 0) = -1) := by unfold Hid; rw [← HY.out, if_pos hy0]
       have hyg : ¬ y ≥ 0 := by omega
       go_wp2_with (at_builtin; refine wpList_append_own _ rfl _ _ 66 rfl wK.heap.size 2 i1 (.int .i64 0) 1 8 Tryz.underlying66 hi1 hz10 hz11 hz12 rfl (by decide) _ (j + 1) _ rfl (HO5.out.alloc _) ⟨w5.heap.size, 0, none⟩ 1 1 [.int .i64 (-1)] rfl rfl ?c1 ?c2 ?c3 ?c4 ?c5 ?_)
       case c1 => exact World.news_of_block (cs := #[.int .i64 (-1)]) (t := 2) (fr := (0, 0)) (heap_alloc_new _ _)
       case c2 => intro u hu; simp at hu; subst hu; rfl
       case c3 => simp [maxLen]; omega
       case c4 => omega
       case c5 => first | omega | (simp; omega)
       intro v7 w7 ho7 hg7 _
       have HB7 : Hid (Below wK.heap.size wK w7) := (HB5.out.alloc hs5 _).grown hg7 (by simp; omega) (fun b e => (HO5.out.lt b e).1)
       have HO7 : Hid (w7.ownsRow wK.heap.size 2 1 v7 (keyTo d P k (j + 1)).length ((keyTo d P k (j + 1)).map (Value.int .i64))) := by
        unfold Hid
        rw [keyTo_len, keyTo_succ, List.map_append, HZ.out]
        exact ho7
       clear ho7 hg7
       go_wp2
       go_roundw
       case rel => exact ⟨j + 1, by omega, by go_num, HB7.out, HO7.out⟩
       case measure => simp [intOf]; omega
      ·obtain ⟨yn, hyn⟩ : ∃ yn : Nat, (yn : Int) = y := ⟨y.toNat, by omega⟩
       have hynN : yn < N := by omega
       obtain ⟨z, hzz⟩ : ∃ z, z = P.getD yn 0 := ⟨_, rfl⟩
       have cy := keeps HBC5.out hgw (cell_num HOC.out hynN)
       rw [← hzz] at cy
       have HZ : Hid ((if goOf d k j < 0 then (-1 : Int) else P.getD (goOf d k j).toNat 0) = z) := by unfold Hid; rw [← HY.out, if_neg hy0, ← hyn, Int.toNat_natCast, hzz]
       rw [← hyn]
       have hyg : (yn : Int) ≥ 0 := by omega
       clear hyn hzz hy0 hyN HY
       go_wp2_with (at_builtin; refine wpList_append_own _ rfl _ _ 66 rfl wK.heap.size 2 i1 (.int .i64 0) 1 8 Tryz.underlying66 hi1 hz10 hz11 hz12 rfl (by decide) _ (j + 1) _ rfl (HO5.out.alloc _) ⟨w5.heap.size, 0, none⟩ 1 1 [.int .i64 z] rfl rfl ?c1 ?c2 ?c3 ?c4 ?c5 ?_)
       case c1 => exact World.news_of_block (cs := #[.int .i64 z]) (t := 2) (fr := (0, 0)) (heap_alloc_new _ _)
       case c2 => intro u hu; simp at hu; subst hu; rfl
       case c3 => simp [maxLen]; omega
       case c4 => omega
       case c5 => first | omega | (simp; omega)
       intro v7 w7 ho7 hg7 _
       have HB7 : Hid (Below wK.heap.size wK w7) := (HB5.out.alloc hs5 _).grown hg7 (by simp; omega) (fun b e => (HO5.out.lt b e).1)
       have HO7 : Hid (w7.ownsRow wK.heap.size 2 1 v7 (keyTo d P k (j + 1)).length ((keyTo d P k (j + 1)).map (Value.int .i64))) := by
        unfold Hid
        rw [keyTo_len, keyTo_succ, List.map_append, HZ.out]
        exact ho7
       clear ho7 hg7
       go_wp2
       go_roundw
       case rel => exact ⟨j + 1, by omega, by go_num, HB7.out, HO7.out⟩
       case measure => simp [intOf]; omega
     ·obtain rfl : j = m := by omega
      have hjL : ¬ j < LN - 1 := by rw [← HM.out]; exact hjm
      have hjE : LN - 1 = j := HM.out.symm
      have HJE := Lib.hid hjE
      clear hjE
      have HOKJ := Lib.hid (owns_below HOK.out.2.1 hbj)
      rw [HVL.out] at HOKJ
      have hal : Below wJ.heap.size wJ (wJ.alloc (.cells #[.slice ja (j + 1) jc] 66)) := (Below.refl _ _).alloc (Nat.le_refl _) _
      clear hbj hbCJ
      go_wp2_with (at_builtin; refine wpList_append_own _ rfl _ _ 45 rfl wC.heap.size 66 i2 (.slice none 0 0) 1 24 Tryz.underlying45 hi2 hz20 hz21 hz22 rfl (by decide) _ k _ rfl (HOKJ.out.alloc _) ⟨wJ.heap.size, 0, none⟩ 1 1 [.slice ja (j + 1) jc] rfl rfl ?c1 ?c2 ?c3 ?c4 ?c5 ?_)
      case c1 => exact World.news_of_block (cs := #[.slice ja (j + 1) jc]) (t := 66) (fr := (0, 0)) (heap_alloc_new _ _)
      case c2 => intro u hu; simp at hu; subst hu; rfl
      case c3 => simp [maxLen]; omega
      case c4 => omega
      case c5 => first | omega | (simp; omega)
      intro v8 w8 ho8 hg8 _
      have HB8 : Hid (Below wC.heap.size wC w8) := (HBCJ.out.alloc HBCJ.out.size _).grown hg8 (by simp; omega) (fun b e => (HOKJ.out.lt b e).1)
      have HK8 : Hid (OwnIntss 66 2 wC.heap.size w8 v8 (vs ++ [.slice ja (j + 1) jc]) (keysTo d P j (k + 1))) := by
       unfold Hid
       rw [keysTo_succ]
       exact OwnIntss.push (B := wK.heap.size) (xs := keyTo d P k j) (by decide) HOK.out (Nat.le_refl _) (HBJ.out.trans (hal.mono hszJ)) (by rw [keyTo_len]; exact owns_below HOJ.out hal) hszK hg8 (by rw [HVL.out]; exact ho8)
      clear ho8 hg8 hal
      go_wp2
      go_roundw
      case rel => exact ⟨k + 1, vs ++ [.slice ja (j + 1) jc], by omega, by go_num, HB8.out, HK8.out⟩
      case measure => simp [intOf]; omega
   ·obtain rfl : k = N := by omega
    have hnk := normalKeys_any wC.heap.size (.slice ka k kc) vs (keysTo d P m k) wK HOK.out (fun row hrow => by
     obtain ⟨q, -, rfl⟩ := List.mem_map.1 hrow
     exact List.cons_ne_nil _ _) (by rw [keysTo_len]; omega)
    have hstep : blocksL (keysTo d P m k) = partsR (goOf d) k m (r + 1) := by rw [keysTo_step, HP.out]; exact implStep_eq HGO.out r
    rw [hstep] at hnk
    have HNK := Lib.hid hnk
    clear hnk hstep hbk hok t2
    go_wp2_with fail
    refine Calls.mono HNK.out ?_
    rintro e w5 ⟨v5, rfl, hb5, ho5⟩
    rw [partsR_len] at ho5
    obtain ⟨g5, c5, rfl, hg5, hg5w⟩ := own_someP ho5 (by omega)
    have hBC5 := HBK.out.trans (hb5.mono hszK)
    have HBC5 := Lib.hid hBC5
    have HO5 := Lib.hid ho5
    have HOC5 := Lib.hid (owns_below HOC.out hBC5)
    have ck5 := keeps hBC5 hcw (HCC.out.cell 0 rfl)
    have hneq : partsR (goOf d) k m (r + 1) ≠ [] := List.ne_nil_of_length_pos (by rw [partsR_len]; omega)
    have hneP : P ≠ [] := List.ne_nil_of_length_pos (by rw [HPL.out]; omega)
    have HEQ := Lib.hid (EqualI_any wK.heap.size w.heap.size (.slice (some ⟨g5, 0, none⟩) k c5) (.slice (some ⟨gP, 0, none⟩) k cP) (partsR (goOf d) k m (r + 1)) P w5 (SliceK.of_owns (enc := encI) (e := 2) encI_len (partsR_len _ _ _ _).symm (by rw [flat_encI]; exact ho5)) (SliceK.of_owns (enc := encI) (e := 2) encI_len HPL.out.symm (by rw [flat_encI]; exact HOC5.out)) hneq hneP)
    obtain ⟨bq, hbq⟩ : ∃ bq, bq = (partsR (goOf d) k m (r + 1) == P) := ⟨_, rfl⟩
    rw [← hbq] at HEQ
    have HBQ := Lib.hid hbq
    clear hb5 ho5 hneq hneP hbq HNK ct
    go_wp2_with fail
    refine Calls.mono HEQ.out ?_
    rintro e w6 ⟨rfl, hb6⟩
    have hBC6 := hBC5.trans (hb6.mono hBC5.size)
    have HBC6 := Lib.hid hBC6
    have HO6 := Lib.hid (owns_below HO5.out hb6)
    have HOC6 := Lib.hid (owns_below HOC.out hBC6)
    have HC6 := Lib.hid (HCC.out.below hBC6)
    have HT6 := Lib.hid (HTC.out.below hBC6)
    have HR6 := Lib.hid (HRC.out.below hBC6)
    have HW6 := Lib.hid (HBL.out.trans (hBC6.mono hszC))
    have hs6 : w.heap.size ≤ w6.heap.size := HW6.out.size
    have hsKw : w.heap.size ≤ wK.heap.size := by omega
    clear hb6 hBC5 hBC6 HEQ ck5
    cases bq
    ·have y1 := HC6.out.cell 0 rfl
     have y2 := HC6.out.frozen 0
     have hcb6 := HC6.out.lt
     have hneR : partsR (goOf d) k m r ≠ partsR (goOf d) k m (r + 1) := fun e => by
      have h := HBQ.out
      rw [← e, ← HP.out] at h
      simp at h
     have HNE2 : Hid (∀ s, s < r + 1 → partsR (goOf d) k m s ≠ partsR (goOf d) k m (s + 1)) := fun s hs => by
      by_cases e : s = r
      ·rw [e]; exact hneR
      ·exact HNE.out s (by omega)
     have HOS : Hid ((w6.setCell ⟨cb, 0, none⟩ (.slice (some ⟨g5, 0, none⟩) k c5)).ownsRow w.heap.size 2 1 (.slice (some ⟨g5, 0, none⟩) k c5) k ((partsR (goOf d) k m (r + 1)).map (Value.int .i64))) := own_lower (own_sets HO6.out HC6.out (by decide) 0 _) hsKw
     have hnt : tb ≠ cb := blk_blk_ne HT6.out HC6.out (by decide)
     have hnr : tb + 1 ≠ cb := blk_blk_ne HR6.out HC6.out (by decide)
     have HTS := Lib.hid (HT6.out.setOther ⟨cb, 0, none⟩ (.slice (some ⟨g5, 0, none⟩) k c5) hnt)
     have HRS := Lib.hid (HR6.out.setOther ⟨cb, 0, none⟩ (.slice (some ⟨g5, 0, none⟩) k c5) hnr)
     have HCS := Lib.hid (HC6.out.set 0 (.slice (some ⟨g5, 0, none⟩) k c5))
     have hcbw : w.heap.size ≤ cb := by have := HCBW.out; omega
     have HBS := Lib.hid (HW6.out.setCell (show w.heap.size ≤ (⟨cb, 0, none⟩ : Addr).block from hcbw) (.slice (some ⟨g5, 0, none⟩) k c5))
     clear hneR hnt hnr
     go_wp2
     go_roundg (64 - (r + 1))
     case measure => have := HGK.out; omega
     case rel => exact ⟨r + 1, g5, c5, HNE2.out, Nat.le_refl _, HBS.out, HTS.out, HRS.out, HCS.out, HOS.out⟩
    ·have heq : partsR (goOf d) k m r = partsR (goOf d) k m (r + 1) := by
      have h := HBQ.out
      have h2 : partsR (goOf d) k m (r + 1) = P := beq_iff_eq.1 h.symm
      rw [h2, HP.out]
     have hPR : P = restP d := by rw [HREST.out, HP.out]; exact parts_last (Nat.le_of_lt hrN) heq
     have hpm : PMem w6.heap.size cb gP cP k P w6 := ⟨HPL.out, fun z hz => by have := HP0.out z hz; exact ⟨this.1, by omega⟩, HC6.out.lt, (HOC6.out.lt gP rfl).2, HC6.out.lt, (HOC6.out.lt gP rfl).2, HC6.out.cell 0 rfl, fun j hj => cell_num HOC6.out hj⟩
     have HEX := Lib.hid (exploredM_any w6.heap.size tb cb gP cP k lo d P (.slice (some ⟨bl, ol, none⟩) LN cl) ev w6 w6 HV.out HSI.out HU.out rfl (Below.refl _ _) hpm HN.out (HLE.out.below HW6.out) (HE.out.below HW6.out) HT6.out (HG.out.below HW6.out) HSH.out)
     have t1 := HT6.out.cell 1 rfl
     rw [H00.out] at t1
     have htb6 := HT6.out.lt
     have HPR := Lib.hid hPR
     clear heq hPR hpm
     go_wp2_with fail
     refine Calls.mono HEX.out ?_
     rintro e w7 ⟨hb7, st, lv7, ev7, sv7, bv, hdn, rfl, hol, hoe⟩
     obtain ⟨la7, lc7, rfl, -, -⟩ := owns_slice hol
     obtain ⟨ea7, ec7, rfl, -, -⟩ := owns_slice hoe
     have HDN := Lib.hid hdn
     obtain ⟨RN, hRN⟩ : ∃ RN, RN = st.rows.length := ⟨_, rfl⟩
     obtain ⟨W8, hW8⟩ : ∃ W8, W8 = w7.alloc (.cells #[.int .i64 RN, .int .i64 0, .slice la7 (sysOf d (mNet st)).labels.length lc7, .slice ea7 (sysOf d (mNet st)).edges.length ec7] 29) := ⟨_, rfl⟩
     have hb8 : Below w7.heap.size w7 W8 := by rw [hW8]; exact (Below.refl _ _).alloc (Nat.le_refl _) _
     have h68 : Below w6.heap.size w6 W8 := hb7.trans (hb8.mono hb7.size)
     have HB8 := Lib.hid (HW6.out.trans (h68.mono hs6))
     have HR8 := Lib.hid (HR6.out.below h68)
     have HOL8 := Lib.hid (own_lower (owns_below hol hb8) hs6)
     have HOE8 := Lib.hid (own_lower (owns_below hoe hb8) hs6)
     have r0 := HR8.out.cell 0 rfl
     have r1 := HR8.out.cell 1 rfl
     have r2 := HR8.out.cell 2 rfl
     have r3 := HR8.out.cell 3 rfl
     have s0 := HR8.out.frozen 0
     have s1 := HR8.out.frozen 1
     have s2 := HR8.out.frozen 2
     have s3 := HR8.out.frozen 3
     have HW8 := Lib.hid hW8
     rw [← hRN]
     have HRN := Lib.hid hRN
     rw [hW8] at r0 r1 r2 r3 s0 s1 s2 s3
     clear hb7 hdn hol hoe hb8 h68 hW8 hRN HEX t1
     go_wp2
     rw [← HW8.out]
     refine bodyPost_ret (mf_results rfl ((((HR8.out.set 0 _).set 1 _).set 2 _).set 3 _)) rfl ?_
     have hrbw : w.heap.size ≤ tb + 1 := by rw [HTB.out]; omega
     refine ⟨(((HB8.out.setCell hrbw _).setCell hrbw _).setCell hrbw _).setCell hrbw _, sysOf d (mNet st), _, _, _, by rw [show (sysOf d (mNet st)).states = ((RN : Nat) : Int) from by show (((st.rows.map ([·])).length : Nat) : Int) = _; rw [List.length_map, HRN.out]]; rfl, ⟨st, by rw [← HPR.out]; exact HDN.out, rfl⟩, ?_, ?_⟩
     ·exact own4 HR8.out HOL8.out (by decide)
     ·exact own4 HR8.out HOE8.out (by decide)

end Go.Proofs.YtaabkeejbhdenaaGreatDoor

namespace Go.Proofs.YtaabkeejbhdenaaGreatDoor
open Go Go.RowKit

theorem mn_results {w : World} {b : Nat} {v0 v1 v2 v3 : Value} {tmps : Array Value} (hc : tmps.getD 2 undef = .pointer (some ⟨b, 0, none⟩)) (hb : Blk w b [v0, v1, v2, v3] 29) :
  (results Tryz.f26 tmps).run Tryz.prog w = .ok (.agg #[v0, v1, v2, v3]) w := by
 have h0 := hb.cell 0 rfl
 have h1 := hb.cell 1 rfl
 have h2 := hb.cell 2 rfl
 have h3 := hb.cell 3 rfl
 simp only [Array.getD_eq_getD_getElem?] at hc
 simp [results, Tryz.results26, go_sem, hc, h0, h1, h2, h3, Result.andThen]
theorem info_int64Z : (Tryz.prog.info? 2).map (fun i => (i.zero, i.size, i.bytes)) = some (some (.int .i64 0), 1, 8) := by kernel_rfl
def PostMf (d : Lts) (w : World) (e : Ending) (w' : World) : Prop := Below w.heap.size w w' ∧ ∃ r lv' ev' sv, e = .returned (.tuple #[.agg #[.int .i64 r.states, .int .i64 r.initial, lv', ev'], sv]) ∧ MinSys d r ∧ OwnLts w.heap.size w' lv' ev' r

set_option maxRecDepth 100000 in
set_option maxHeartbeats 4000000 in
theorem minimal_any (lo N : Nat) (d : Lts) (lv ev : Value) (w : World) (hv : Valid d) (hs : Single d) (hu : Up d.edges) (h00 : d.initial = 0) (hN : (N : Int) = d.states) (hl : SliceK 1 encS lo w lv d.labels) (he : SliceK 3 encE lo w ev d.edges) (g : Glob w) (hsh : Short20 d.labels) :
  Calls Tryz.prog 26 #[.agg #[.int .i64 d.states, .int .i64 d.initial, lv, ev]] w fun e w' => Below w.heap.size w w' ∧ ∃ r lv' ev', e = .returned (.agg #[.int .i64 r.states, .int .i64 r.initial, lv', ev']) ∧ MinSys d r ∧ OwnLts w.heap.size w' lv' ev' r := by
 have hst1 := hv.st1
 rw [← hN] at hst1
 obtain ⟨tb, htb⟩ : ∃ tb, tb = w.heap.size := ⟨_, rfl⟩
 obtain ⟨W1, hW1⟩ : ∃ W1, W1 = (w.alloc (.cells #[.int .i64 d.states, .int .i64 d.initial, lv, ev] 29)).alloc (.cells #[.int .i64 0, .int .i64 0, .slice none 0 0, .slice none 0 0] 29) := ⟨_, rfl⟩
 have hb1 : Below w.heap.size w W1 := by rw [hW1]; exact ((Below.refl _ _).alloc (Nat.le_refl _) _).alloc (by simp) _
 have hT : Blk W1 tb [.int .i64 d.states, .int .i64 d.initial, lv, ev] 29 := by rw [hW1, htb]; exact (Blk.new w _ _).alloc _
 have hR : Blk W1 (tb + 1) [.int .i64 0, .int .i64 0, .slice none 0 0, .slice none 0 0] 29 := by
  have := Blk.new (w.alloc (.cells #[.int .i64 d.states, .int .i64 d.initial, lv, ev] 29)) [.int .i64 0, .int .i64 0, .slice none 0 0, .slice none 0 0] 29
  rw [World.size_alloc, ← htb] at this
  rw [hW1]
  exact this
 have hmk : ∀ w, (Instr.makeSlice 66 (.int .i64 d.states) (.int .i64 d.states)).run Tryz.prog w = .ok (.slice (some ⟨w.heap.size, 0, none⟩) N N) (w.alloc (.cells (madeCells #[.int .i64 0] N) 2)) := by
  rw [← hN]
  exact run_make_row' 66 2 (.int .i64 0) 8 Tryz.underlying66 info_int64Z rfl .i64 .i64 N (by omega) (by omega)
 obtain ⟨Z, hZ⟩ : ∃ Z, Z = madeCells #[.int .i64 0] N := ⟨_, rfl⟩
 have hZl : Z.toList = (List.replicate N (0 : Int)).map (Value.int .i64) := by
  rw [hZ, toList_madeCells_one]; simp
 have hZs : Z.size = N * 1 := by have := congrArg List.length hZl; simpa using this
 rw [← hZ] at hmk
 have HMF : Hid (∀ w' zv, Below W1.heap.size W1 w' → SliceK 1 encI W1.heap.size w' zv (List.replicate N 0) → Calls Tryz.prog 65 #[.agg #[.int .i64 d.states, .int .i64 d.initial, lv, ev], zv] w' (PostMf d w')) := fun w' zv hb hz =>
  minimalFrom_any lo W1.heap.size N d lv ev zv w' hv hs hu h00 hN ((hl.below hb1).below hb) ((he.below hb1).below hb) hz ((g.below hb1).below hb) hsh
 have zrow : ∀ w' : World, W1.heap.size ≤ w'.heap.size → (w'.alloc (.cells Z 2)).ownsRow W1.heap.size 2 1 (.slice (some ⟨w'.heap.size, 0, none⟩) N N) N ((List.replicate N (0 : Int)).map (Value.int .i64)) := fun w' hw => by
  have h := World.ownsRow_lit (base := W1.heap.size) (e := 2) (size := 1) w' Z N hw (by simp [maxLen]; omega) hZs
  rw [hZl] at h
  exact h
 have zk : ∀ {w' : World} {a : Nat}, w'.ownsRow W1.heap.size 2 1 (.slice (some ⟨a, 0, none⟩) N N) N ((List.replicate N (0 : Int)).map (Value.int .i64)) → SliceK 1 encI W1.heap.size w' (.slice (some ⟨a, 0, none⟩) N N) (List.replicate N 0) := fun h =>
  SliceK.of_owns (enc := encI) (e := 2) (n := N) encI_len (by simp) (by rw [flat_encI]; exact h)
 have HM1 : Hid (Calls Tryz.prog 65 #[.agg #[.int .i64 d.states, .int .i64 d.initial, lv, ev], .slice (some ⟨W1.heap.size, 0, none⟩) N N] ((W1.alloc (.cells Z 2)).drew) (PostMf d ((W1.alloc (.cells Z 2)).drew))) :=
  HMF.out _ _ (((Below.refl _ _).alloc (Nat.le_refl _) _).drew) (zk ((zrow W1 (Nat.le_refl _)).drew))
 have HM2 : Hid (Calls Tryz.prog 65 #[.agg #[.int .i64 d.states, .int .i64 d.initial, lv, ev], .slice (some ⟨W1.heap.size, 0, none⟩) N N] (((W1.alloc (.cells Z 2)).alloc (.cells #[.int .i64 0, .int .i64 0, .slice none 0 0, .slice none 0 0] 29)).drew) (PostMf d (((W1.alloc (.cells Z 2)).alloc (.cells #[.int .i64 0, .int .i64 0, .slice none 0 0, .slice none 0 0] 29)).drew))) :=
  HMF.out _ _ ((((Below.refl _ _).alloc (Nat.le_refl _) _).alloc (by simp) _).drew) (zk (((zrow W1 (Nat.le_refl _)).alloc _).drew))
 have HM3 : Hid (Calls Tryz.prog 65 #[.agg #[.int .i64 d.states, .int .i64 d.initial, lv, ev], .slice (some ⟨W1.heap.size + 1, 0, none⟩) N N] (((W1.alloc (.cells #[.int .i64 0, .int .i64 0, .slice none 0 0, .slice none 0 0] 29)).alloc (.cells Z 2)).drew) (PostMf d (((W1.alloc (.cells #[.int .i64 0, .int .i64 0, .slice none 0 0, .slice none 0 0] 29)).alloc (.cells Z 2)).drew))) :=
  HMF.out _ _ ((((Below.refl _ _).alloc (Nat.le_refl _) _).alloc (by simp) _).drew) (by
   have h := zrow (W1.alloc (.cells #[.int .i64 0, .int .i64 0, .slice none 0 0, .slice none 0 0] 29)) (by simp)
   rw [World.size_alloc] at h
   exact zk h.drew)
 have HD1 : Hid (Below W1.heap.size W1 ((W1.alloc (.cells Z 2)).drew)) := ((Below.refl _ _).alloc (Nat.le_refl _) _).drew
 have HD2 : Hid (Below W1.heap.size W1 (((W1.alloc (.cells Z 2)).alloc (.cells #[.int .i64 0, .int .i64 0, .slice none 0 0, .slice none 0 0] 29)).drew)) := (((Below.refl _ _).alloc (Nat.le_refl _) _).alloc (by simp) _).drew
 have HD3 : Hid (Below W1.heap.size W1 (((W1.alloc (.cells #[.int .i64 0, .int .i64 0, .slice none 0 0, .slice none 0 0] 29)).alloc (.cells Z 2)).drew)) := (((Below.refl _ _).alloc (Nat.le_refl _) _).alloc (by simp) _).drew
 have HK2 : Hid (Blk (((W1.alloc (.cells Z 2)).alloc (.cells #[.int .i64 0, .int .i64 0, .slice none 0 0, .slice none 0 0] 29)).drew) (W1.heap.size + 1) [.int .i64 0, .int .i64 0, .slice none 0 0, .slice none 0 0] 29) := by
  have h := (Blk.new (W1.alloc (.cells Z 2)) [.int .i64 0, .int .i64 0, .slice none 0 0, .slice none 0 0] 29).below (Below.refl _ _).drew
  rw [World.size_alloc] at h
  exact h
 have HK3 : Hid (Blk (((W1.alloc (.cells #[.int .i64 0, .int .i64 0, .slice none 0 0, .slice none 0 0] 29)).alloc (.cells Z 2)).drew) W1.heap.size [.int .i64 0, .int .i64 0, .slice none 0 0, .slice none 0 0] 29) := ((Blk.new W1 [.int .i64 0, .int .i64 0, .slice none 0 0, .slice none 0 0] 29).alloc _).below (Below.refl _ _).drew
 have HSW : Hid (∀ w', Below W1.heap.size W1 w' → w'.cell? ⟨tb, 0, none⟩ = some (.int .i64 d.states) ∧ w'.cell? ⟨tb, 1, none⟩ = some (.int .i64 d.initial) ∧ w'.cell? ⟨tb, 2, none⟩ = some lv ∧ w'.cell? ⟨tb, 3, none⟩ = some ev) := fun w' hb =>
  ⟨(hT.below hb).cell 0 rfl, (hT.below hb).cell 1 rfl, (hT.below hb).cell 2 rfl, (hT.below hb).cell 3 rfl⟩
 have HW1 := Lib.hid hW1
 have HTB := Lib.hid htb
 have HB1 := Lib.hid hb1
 have HR := Lib.hid hR
 have hs1 : w.heap.size ≤ W1.heap.size := hb1.size
 have hle1 : w.heap.size ≤ tb + 1 := by rw [htb]; omega
 clear hv hs hu h00 hN hl he g hsh htb hW1 hb1 hT hR hZ hZl hZs zrow zk hst1
 go_enter Tryz.func26, Tryz.ntmps26
 go_wp2
 rw [← HW1.out]
 try rw [← HTB.out]
 go_region_held3 (fun w' => w'.cell? ⟨tb, 0, none⟩ = some (.int .i64 d.states) ∧ w'.cell? ⟨tb, 1, none⟩ = some (.int .i64 d.initial) ∧ w'.cell? ⟨tb, 2, none⟩ = some lv ∧ w'.cell? ⟨tb, 3, none⟩ = some ev)
  ((refine HSW.out _ ?_; repeat (first | with_reducible exact hq1 | with_reducible exact HD1.out | with_reducible exact HD2.out | with_reducible exact HD3.out | with_reducible exact Below.refl _ _ | with_reducible refine Below.drew ?_ | ((with_reducible refine Below.setCell ?_ ?hp _); (case hp => first | exact Nat.le_refl _ | ((try dsimp only); omega))) | ((with_reducible refine Below.alloc ?_ ?hp _); (case hp => first | exact Nat.le_refl _ | (simp; done) | (simp; omega) | exact hq1.size)))))
  (first
   | (go_at_call 65; first
     | ((with_reducible refine Calls.mono HM1.out ?_); rintro e w5 ⟨hb5, r, lv5, ev5, sv5, rfl, hms, hown⟩; obtain ⟨la5, lc5, rfl, -, -⟩ := owns_slice hown.1; obtain ⟨ea5, ec5, rfl, -, -⟩ := owns_slice hown.2; have hq1 : Below W1.heap.size W1 w5 := HD1.out.trans (hb5.mono HD1.out.size); have hz5 := hq1.size; have how := hown.lower (lo' := W1.heap.size) HD1.out.size)
     | ((with_reducible refine Calls.mono HM2.out ?_); rintro e w5 ⟨hb5, r, lv5, ev5, sv5, rfl, hms, hown⟩; obtain ⟨la5, lc5, rfl, -, -⟩ := owns_slice hown.1; obtain ⟨ea5, ec5, rfl, -, -⟩ := owns_slice hown.2; have hq1 : Below W1.heap.size W1 w5 := HD2.out.trans (hb5.mono HD2.out.size); have hz5 := hq1.size; have how := hown.lower (lo' := W1.heap.size) HD2.out.size; have l2 := HK2.out.below hb5; have l2_lt := l2.lt; have q0 := l2.cell 0 rfl; have q1 := l2.cell 1 rfl; have q2 := l2.cell 2 rfl; have q3 := l2.cell 3 rfl; have f0 := l2.frozen 0; have f1 := l2.frozen 1; have f2 := l2.frozen 2; have f3 := l2.frozen 3)
     | ((with_reducible refine Calls.mono HM3.out ?_); rintro e w5 ⟨hb5, r, lv5, ev5, sv5, rfl, hms, hown⟩; obtain ⟨la5, lc5, rfl, -, -⟩ := owns_slice hown.1; obtain ⟨ea5, ec5, rfl, -, -⟩ := owns_slice hown.2; have hq1 : Below W1.heap.size W1 w5 := HD3.out.trans (hb5.mono HD3.out.size); have hz5 := hq1.size; have how := hown.lower (lo' := W1.heap.size) HD3.out.size; have l3 := HK3.out.below hb5; have l3_lt := l3.lt; have q0 := l3.cell 0 rfl; have q1 := l3.cell 1 rfl; have q2 := l3.cell 2 rfl; have q3 := l3.cell 3 rfl; have f0 := l3.frozen 0; have f1 := l3.frozen 1; have f2 := l3.frozen 2; have f3 := l3.frozen 3))
   | fail)
 all_goals (
  first
   | (
    have hl1 : (w5.alloc (.cells #[.int .i64 r.states, .int .i64 r.initial, .slice la5 r.labels.length lc5, .slice ea5 r.edges.length ec5] 29)).ownsRow W1.heap.size 9 1 (.slice la5 r.labels.length lc5) r.labels.length (r.labels.map .string) := how.1.alloc _
    have hl2 : (w5.alloc (.cells #[.int .i64 r.states, .int .i64 r.initial, .slice la5 r.labels.length lc5, .slice ea5 r.edges.length ec5] 29)).ownsRow W1.heap.size 73 3 (.slice ea5 r.edges.length ec5) r.edges.length (r.edges.flatMap encE) := how.2.alloc _
    have hwe : Below W1.heap.size W1 (w5.alloc (.cells #[.int .i64 r.states, .int .i64 r.initial, .slice la5 r.labels.length lc5, .slice ea5 r.edges.length ec5] 29)) := hq1.alloc hq1.size _
    have hbe : Blk (w5.alloc (.cells #[.int .i64 r.states, .int .i64 r.initial, .slice la5 r.labels.length lc5, .slice ea5 r.edges.length ec5] 29)) w5.heap.size [.int .i64 r.states, .int .i64 r.initial, .slice la5 r.labels.length lc5, .slice ea5 r.edges.length ec5] 29 := Blk.new w5 _ _
    obtain ⟨WE, hWE⟩ : ∃ WE, WE = w5.alloc (.cells #[.int .i64 r.states, .int .i64 r.initial, .slice la5 r.labels.length lc5, .slice ea5 r.edges.length ec5] 29) := ⟨_, rfl⟩
    rw [← hWE] at hl1 hl2 hwe hbe ⊢
    obtain ⟨bA, hbA⟩ : ∃ bA, bA = w5.heap.size := ⟨_, rfl⟩
    rw [← hbA] at hbe ⊢
    clear hWE hbA)
   | (
    have h1 := four_sets (v0 := .int .i64 r.states) (v1 := .int .i64 r.initial) (v2 := .slice la5 r.labels.length lc5) (v3 := .slice ea5 r.edges.length ec5) l2 hq1 (by first | exact Nat.le_refl _ | omega)
    have hl1 := h1.2.2 how.1 (by decide)
    have hl2 := h1.2.2 how.2 (by decide)
    have hwe := h1.1
    have hbe := h1.2.1
    obtain ⟨WE, hWE⟩ : ∃ WE, WE = ((((w5.setCell ⟨W1.heap.size + 1, 0, none⟩ (.int .i64 r.states)).setCell ⟨W1.heap.size + 1, 1, none⟩ (.int .i64 r.initial)).setCell ⟨W1.heap.size + 1, 2, none⟩ (.slice la5 r.labels.length lc5)).setCell ⟨W1.heap.size + 1, 3, none⟩ (.slice ea5 r.edges.length ec5)) := ⟨_, rfl⟩
    rw [← hWE] at hl1 hl2 hwe hbe ⊢
    obtain ⟨bA, hbA⟩ : ∃ bA, bA = W1.heap.size + 1 := ⟨_, rfl⟩
    rw [← hbA] at hbe ⊢
    clear hWE hbA h1)
   | (
    have h1 := four_sets (v0 := .int .i64 r.states) (v1 := .int .i64 r.initial) (v2 := .slice la5 r.labels.length lc5) (v3 := .slice ea5 r.edges.length ec5) l3 hq1 (by first | exact Nat.le_refl _ | omega)
    have hl1 := h1.2.2 how.1 (by decide)
    have hl2 := h1.2.2 how.2 (by decide)
    have hwe := h1.1
    have hbe := h1.2.1
    obtain ⟨WE, hWE⟩ : ∃ WE, WE = ((((w5.setCell ⟨W1.heap.size, 0, none⟩ (.int .i64 r.states)).setCell ⟨W1.heap.size, 1, none⟩ (.int .i64 r.initial)).setCell ⟨W1.heap.size, 2, none⟩ (.slice la5 r.labels.length lc5)).setCell ⟨W1.heap.size, 3, none⟩ (.slice ea5 r.edges.length ec5)) := ⟨_, rfl⟩
    rw [← hWE] at hl1 hl2 hwe hbe ⊢
    obtain ⟨bA, hbA⟩ : ∃ bA, bA = W1.heap.size := ⟨_, rfl⟩
    rw [← hbA] at hbe ⊢
    clear hWE hbA h1)
  have HL1 := Lib.hid (own_lower hl1 hs1)
  have HL2 := Lib.hid (own_lower hl2 hs1)
  have HBE := Lib.hid (HB1.out.trans (hwe.mono hs1))
  have HRE := Lib.hid (HR.out.below hwe)
  have HMS := Lib.hid hms
  have a0 := hbe.cell 0 rfl
  have a1 := hbe.cell 1 rfl
  have a2 := hbe.cell 2 rfl
  have a3 := hbe.cell 3 rfl
  have r0 := HRE.out.cell 0 rfl
  have r1 := HRE.out.cell 1 rfl
  have r2 := HRE.out.cell 2 rfl
  have r3 := HRE.out.cell 3 rfl
  have s0 := HRE.out.frozen 0
  have s1 := HRE.out.frozen 1
  have s2 := HRE.out.frozen 2
  have s3 := HRE.out.frozen 3
  clear hl1 hl2 hwe hbe hms how hown hq1 hb5 hz5
  go_wp2
  refine bodyPost_ret (mn_results rfl ((((HRE.out.set 0 _).set 1 _).set 2 _).set 3 _)) rfl ?_
  exact ⟨(((HBE.out.setCell hle1 _).setCell hle1 _).setCell hle1 _).setCell hle1 _, r, _, _, rfl, HMS.out, own4 HRE.out HL1.out (by decide), own4 HRE.out HL2.out (by decide)⟩)

end Go.Proofs.YtaabkeejbhdenaaGreatDoor
