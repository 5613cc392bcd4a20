/-
  What the implementation's follow and step compute at one state of a deterministic system.
  What the implementation's step computes in a deterministic system.
  What the implementation's closures on a matrix of pairs compute.
  The pairs that can leave: the least set, and a list of marks that is it. Plain.
  The program's closures of leave.
  What the implementation's out computes: the edges from a state.
  What the implementation's moves and any compute over the edges from a state.
  The program's moves, with the closure of leave.
-/
import Derived.Test.YtmhpfmanagbggaaGreatDoorK3
import Derived.Test.YtmhpfmanagbggaaGreatDoorK4
import Derived.Test.YtmhpfmanagbggaaGreatDoorK13
import Derived.Test.YtmhpfmanagbggaaGreatDoorK6
namespace Go.Proofs.YtmhpfmanagbggaaGreatDoor
open Go Go.RowKit

theorem Sort_one (a : Option Addr) (n cap : Nat) (w : World) (hn : n ≤ 1) :
  Calls Tryz.prog 76 #[.slice a n cap] w fun e w' => e = .returned (.tuple #[]) ∧ w = w' := by
 have h0 : (0 : Int) ≤ (n : Int) := by omega
 have h1 : (n : Int) ≤ 18446744073709551615 := by omega
 go_enter Tryz.func76, Tryz.ntmps76
 go_wp2_with fail
 refine (Tryz.bits_Len _ _ h0 h1).mono ?_
 rintro e w' ⟨rfl, rfl⟩
 go_wp2_with fail
 refine (pdq_one _ _ _ _ hn).mono ?_
 rintro e w' ⟨rfl, rfl⟩
 go_wp2_with fail
 go_end0
 exact ⟨rfl, rfl⟩

theorem info_int64x : (Tryz.prog.info? 2).map (fun i => (i.zero, i.size, i.bytes)) = some (some (.int .i64 0), 1, 8) := by kernel_rfl

theorem hit_take {p : Lts} {q : Int} {l : ByteArray} {k : Nat} (h : k < p.edges.length) (g : hitB p q l p.edges[k] = true) :
  ((p.edges.take (k + 1)).filter (hitB p q l)).map Edge.dst = ((p.edges.take k).filter (hitB p q l)).map Edge.dst ++ [p.edges[k].dst] := by
 rw [List.take_succ_eq_append_getElem h, List.filter_append, List.map_append]
 simp [g]
theorem miss_take {p : Lts} {q : Int} {l : ByteArray} {k : Nat} (h : k < p.edges.length) (g : hitB p q l p.edges[k] = false) :
  ((p.edges.take (k + 1)).filter (hitB p q l)).map Edge.dst = ((p.edges.take k).filter (hitB p q l)).map Edge.dst := by
 rw [List.take_succ_eq_append_getElem h, List.filter_append, List.map_append]
 simp [g]

set_option maxRecDepth 100000 in
set_option maxHeartbeats 2000000 in
theorem follow_one (lo lo2 : Nat) (p : Lts) (lv ev sv : Value) (q : Int) (l : ByteArray) (w : World) (hvp : Valid p) (hsp : Single p) (hl : SliceK 1 encS lo w lv p.labels) (he : SliceK 3 encE lo w ev p.edges) (hs : SliceK 1 encI lo2 w sv [q]) :
  Calls Tryz.prog 74 #[.agg #[.int .i64 p.states, .int .i64 p.initial, lv, ev], sv, .string l] w (MadeNums (behind p q l) w) := by
 have HS := Lib.hid hs
 have hone := behind_one hvp hsp q l
 have HE := Lib.hid hvp.edge
 have hmost := hvp.most
 clear hs hvp hsp
 obtain ⟨al, cl, rfl, hln, hlc, hlr⟩ := hl
 obtain ⟨ae, ce, rfl, hen, hec, hrow⟩ := he
 have HLR := Lib.hid hlr
 have HER := Lib.hid hrow
 clear hlr hrow
 obtain ⟨i0, hi, hz0, hz1, hz2⟩ := info_parts info_int64x
 have HB0 : Hid (Below w.heap.size w (w.alloc (.cells #[.int .i64 p.states, .int .i64 p.initial, .slice al p.labels.length cl, .slice ae p.edges.length ce] 29))) := (Below.refl _ _).alloc (Nat.le_refl _) _
 have HQ2 : Hid ((w.alloc (.cells #[.int .i64 p.states, .int .i64 p.initial, .slice al p.labels.length cl, .slice ae p.edges.length ce] 29)).cell? ⟨w.heap.size, 2, none⟩ = some (.slice al p.labels.length cl)) := by unfold Hid; simp
 obtain ⟨wB, hwB⟩ : ∃ wB, wB = w.alloc (.cells #[.int .i64 p.states, .int .i64 p.initial, .slice al p.labels.length cl, .slice ae p.edges.length ce] 29) := ⟨_, rfl⟩
 have hwz : wB.heap.size = w.heap.size + 1 := by rw [hwB]; simp
 rw [← hwB] at HB0 HQ2
 have HWB := Lib.hid hwB
 clear hwB
 go_enter Tryz.func74, Tryz.ntmps74
 go_wp2_with fail
 rw [← HWB.out]
 clear HWB
 go_loopw [7, 13] (fun v i wr => ∃ k : Nat, k ≤ p.edges.length ∧ i = .int .i64 k ∧ Below wB.heap.size wB wr ∧ wr.ownsRow wB.heap.size 2 1 v (((p.edges.take k).filter (hitB p q l)).map Edge.dst).length ((((p.edges.take k).filter (hitB p q l)).map Edge.dst).map (Value.int .i64))) (fun _ i _ => p.edges.length - (intOf i).toNat)
 case atStart => exact ⟨0, Nat.zero_le _, rfl, Below.refl _ _, World.ownsRow_nil _ _ _ _⟩
 case round =>
  obtain ⟨k, hk, rfl, hbl, ho⟩ := hrel
  have HBL := Lib.hid hbl
  have HO := Lib.hid ho
  have hsz := hbl.size
  have q2 := keeps hbl (by omega) HQ2.out
  have hwr : w.heap.size < wr.heap.size := by omega
  have hfl : (((p.edges.take k).filter (hitB p q l)).map Edge.dst).length ≤ k := by rw [List.length_map]; exact Nat.le_trans (List.length_filter_le _ _) (List.length_take_le _ _)
  clear hbl ho
  by_cases hlt : k < p.edges.length
  ·have hbr := HB0.out.trans (HBL.out.mono HB0.out.size)
   obtain ⟨be, oe, rfl, -, hbe, e1, e2, e3⟩ := (HER.out.below hbr).edge hlt
   have hek := HE.out k hlt
   obtain ⟨hll, hla⟩ := labAt_idx hek
   obtain ⟨bl, ol, rfl, -, hbl2, c1⟩ := (HLR.out.below hbr).one hll
   simp only [encS, List.getElem?_cons_zero] at c1
   rw [← hla] at c1
   have hl0 : ((p.edges[k].lab.toNat : Nat) : Int) = p.edges[k].lab := by have := hek.l0; omega
   have hl1 := hek.l1
   have hl2 := hek.l0
   obtain ⟨e, hee⟩ : ∃ e, e = p.edges[k] := ⟨_, rfl⟩
   obtain ⟨m, hm⟩ : ∃ m, m = p.edges[k].lab.toNat := ⟨_, rfl⟩
   rw [← hm] at c1 hl0 hll
   rw [← hee] at e1 e2 e3 c1 hl0 hl1 hl2
   have HEE := Lib.hid hee
   rw [← hl0] at e2
   have HBA : Hid (Below wB.heap.size wB (wr.alloc (.cells #[.int .i64 e.src, .int .i64 m, .int .i64 e.dst] 67))) := HBL.out.alloc hsz _
   have HSA : Hid (SliceK 1 encI lo2 (wr.alloc (.cells #[.int .i64 e.src, .int .i64 m, .int .i64 e.dst] 67)) sv [q]) := HS.out.below (hbr.alloc hbr.size _)
   have HOA : Hid ((wr.alloc (.cells #[.int .i64 e.src, .int .i64 m, .int .i64 e.dst] 67)).ownsRow wB.heap.size 2 1 u7 (((p.edges.take k).filter (hitB p q l)).map Edge.dst).length ((((p.edges.take k).filter (hitB p q l)).map Edge.dst).map (Value.int .i64))) := HO.out.alloc _
   have hml : (m : Int) < (p.labels.length : Int) := by omega
   clear hl0 hl1 hl2 hek hbr hla
   cases g1 : ((labAt p e).toList == l.toList)
   ·have HG : Hid (hitB p q l p.edges[k] = false) := by unfold Hid hitB; rw [← hee, g1, Bool.and_false]
    clear hee hm
    go_wp2_with fail
    go_roundw
    case rel => exact ⟨k + 1, by omega, by go_num, HBA.out, by rw [miss_take hlt HG.out]; exact HOA.out⟩
    case measure => simp [intOf]; omega
   ·cases g2 : (q == e.src)
    ·have HG : Hid (hitB p q l p.edges[k] = false) := by
      unfold Hid hitB
      rw [← hee]
      have : (e.src == q) = false := by rw [beq_eq_false_iff_ne] at g2 ⊢; exact fun h => g2 h.symm
      rw [this, Bool.false_and]
     have HG2 : Hid (([q].any fun y => y == e.src) = false) := by unfold Hid; simp [g2]
     clear hee hm g2
     go_wp2_with fail
     refine (Contains_ints lo2 _ _ [q] _ HSA.out).mono ?_
     rintro e' w' ⟨rfl, rfl⟩
     rw [HG2.out]
     go_wp2_with fail
     go_roundw
     case rel => exact ⟨k + 1, by omega, by go_num, HBA.out, by rw [miss_take hlt HG.out]; exact HOA.out⟩
     case measure => simp [intOf]; omega
    ·have HG : Hid (hitB p q l p.edges[k] = true) := by
      unfold Hid hitB
      rw [← hee]
      have : (e.src == q) = true := by rw [beq_iff_eq] at g2 ⊢; exact g2.symm
      rw [this, g1]; rfl
     have HG2 : Hid (([q].any fun y => y == e.src) = true) := by unfold Hid; simp [g2]
     have HD : Hid (p.edges[k].dst = e.dst) := by unfold Hid; rw [← hee]
     clear hee hm g2
     have hfz := hfl
     generalize hfs : ((p.edges.take k).filter (hitB p q l)).map Edge.dst = fs at *
     have HFS := Lib.hid hfs
     clear hfs
     go_wp2_with fail
     refine (Contains_ints lo2 _ _ [q] _ HSA.out).mono ?_
     rintro e' w' ⟨rfl, rfl⟩
     rw [HG2.out]
     go_wp2_with (at_builtin; refine wpList_append_own _ rfl _ _ 30 rfl wB.heap.size 2 i0 (.int .i64 0) 1 8 Tryz.underlying30 hi hz0 hz1 hz2 rfl (by decide) _ _ _ rfl (HOA.out.alloc _) ⟨wr.heap.size + 1, 0, none⟩ 1 1 [.int .i64 e.dst] rfl rfl ?c1 ?c2 ?c3 ?c4 ?c5 ?_)
     case c1 => have := cell_one_new (wr.alloc (.cells #[.int .i64 e.src, .int .i64 m, .int .i64 e.dst] 67)) (.int .i64 e.dst) 2; simpa using this
     case c2 => intro u hu; simp at hu; subst hu; rfl
     case c3 => simp [maxLen]; omega
     case c4 => omega
     case c5 => simp; omega
     intro v' w3 ho1 hg1 _
     have HO2 : Hid (w3.ownsRow wB.heap.size 2 1 v' (fs ++ [e.dst]).length ((fs ++ [e.dst]).map (Value.int .i64))) := by
      unfold Hid
      rw [List.length_append, List.map_append, hwz]
      exact ho1
     have HB2 : Hid (Below wB.heap.size wB w3) := (HBA.out.alloc (by simp; omega) _).grown hg1 (by simp; omega) (fun b e => (HO.out.lt b e).1)
     clear ho1 hg1
     go_wp2_with fail
     go_roundw
     case rel => exact ⟨k + 1, by omega, by go_num, HB2.out, by rw [hit_take hlt HG.out, HFS.out, HD.out]; exact HO2.out⟩
     case measure => simp [intOf]; omega
  ·obtain rfl : k = p.edges.length := by omega
   have HO2 : Hid (wr.ownsRow wB.heap.size 2 1 u7 (behind p q l).length ((behind p q l).map (Value.int .i64))) := by
    have := HO.out
    rw [List.take_length] at this
    exact this
   obtain ⟨a7, c7, rfl, -, -⟩ := owns_slice HO2.out
   clear HO HER HLR q2
   go_wp2_with fail
   refine (Sort_one _ _ _ _ hone).mono ?_
   rintro e' w' ⟨rfl, rfl⟩
   go_wp2_with fail
   refine (Compact_one _ _ _ _ hone).mono ?_
   rintro e' w' ⟨rfl, rfl⟩
   go_wp2_with fail
   go_ret
   exact ⟨_, rfl, HB0.out.trans (HBL.out.mono HB0.out.size), own_lower HO2.out HB0.out.size⟩

end Go.Proofs.YtmhpfmanagbggaaGreatDoor

namespace Go.Proofs.YtmhpfmanagbggaaGreatDoor
open Go Go.RowKit

set_option maxRecDepth 100000 in
set_option maxHeartbeats 1000000 in
theorem step_any (lo : Nat) (p : Lts) (lv ev : Value) (q : Int) (l : ByteArray) (w : World) (hvp : Valid p) (hsp : Single p) (hl : SliceK 1 encS lo w lv p.labels) (he : SliceK 3 encE lo w ev p.edges) :
  Calls Tryz.prog 50 #[.agg #[.int .i64 p.states, .int .i64 p.initial, lv, ev], .int .i64 q, .string l] w fun e w' => e = .returned (.int .i64 (goTo p q l)) ∧ Below w.heap.size w w' := by
 have HB0 := Lib.hid (box_below w #[.int .i64 p.states, .int .i64 p.initial, lv, ev] 29)
 by_cases hq : q < 0
 ·have HF : Hid (goTo p q l = -1) := by unfold Hid goTo; rw [if_pos hq]
  clear hvp hsp hl he
  go_enter Tryz.func50, Tryz.ntmps50
  go_wp2_with fail
  go_ret
  exact ⟨ret_int HF.out.symm, HB0.out⟩
 ·have hq' : ¬ q < 0 := hq
  have HF := Lib.hid (goTo_behind (p := p) (q := q) (by omega) l)
  have HB1 : Hid (Below w.heap.size w ((w.alloc (.cells #[.int .i64 p.states, .int .i64 p.initial, lv, ev] 29)).alloc (.cells #[.int .i64 q] 2))) := HB0.out.alloc HB0.out.size _
  have HS : Hid (SliceK 1 encI 0 ((w.alloc (.cells #[.int .i64 p.states, .int .i64 p.initial, lv, ev] 29)).alloc (.cells #[.int .i64 q] 2)) (.slice (some ⟨w.heap.size + 1, 0, none⟩) 1 1) [q]) := by
   have := World.ownsRow_lit (base := 0) (e := 2) (size := 1) (w.alloc (.cells #[.int .i64 p.states, .int .i64 p.initial, lv, ev] 29)) #[.int .i64 q] 1 (Nat.zero_le _) (by decide) (by simp)
   have e9 : (w.alloc (.cells #[.int .i64 p.states, .int .i64 p.initial, lv, ev] 29)).heap.size = w.heap.size + 1 := by simp
   rw [e9] at this
   exact SliceK.of_owns (e := 2) encI_len rfl (by rw [flat_encI]; simpa using this)
  have HC := Lib.hid (follow_one lo 0 p lv ev (.slice (some ⟨w.heap.size + 1, 0, none⟩) 1 1) q l _ hvp hsp (hl.below HB1.out) (he.below HB1.out) HS.out)
  clear hvp hsp hl he hq
  go_enter Tryz.func50, Tryz.ntmps50
  go_wp2_with fail
  refine Calls.mono HC.out ?_
  rintro e w1 ⟨v, rfl, hb1, ho1⟩
  have HB2 := Lib.hid (HB1.out.trans (hb1.mono HB1.out.size))
  clear hb1
  obtain ⟨av, cv, rfl, hc1, hc2⟩ := owns_slice ho1
  cases hbh : behind p q l with
  | nil =>
   have HG : Hid (goTo p q l = -1) := by unfold Hid; rw [HF.out, hbh]; rfl
   clear ho1 hc1
   simp only [List.length_nil]
   go_wp2_with fail
   go_ret
   exact ⟨ret_int HG.out.symm, HB2.out⟩
  | cons x r =>
   have HG : Hid (goTo p q l = x) := by unfold Hid; rw [HF.out, hbh]; rfl
   rw [hbh] at ho1
   have hsl : SliceK 1 encI 0 w1 (.slice av (x :: r).length cv) (x :: r) := SliceK.of_owns (e := 2) encI_len rfl (by rw [flat_encI]; exact own_lower ho1 (Nat.zero_le _))
   obtain ⟨a2, c2, e2, h2, h3, hrow⟩ := hsl
   simp only [Value.slice.injEq, true_and] at e2
   obtain ⟨rfl, rfl⟩ := e2
   obtain ⟨b1, o1, rfl, -, hbs, k1⟩ := hrow.one (i := 0) (by simp)
   simp only [encI, List.getElem?_cons_zero, List.getElem_cons_zero, Nat.add_zero] at k1
   have hlen : (0 : Int) < ((x :: r).length : Int) := by simp
   obtain ⟨n, hn⟩ : ∃ n, n = (x :: r).length := ⟨_, rfl⟩
   rw [← hn] at hlen
   simp only [← hn]
   clear ho1 hrow hc1 h2 hn hbh
   go_wp2_with fail
   go_ret
   exact ⟨ret_int HG.out.symm, HB2.out⟩

end Go.Proofs.YtmhpfmanagbggaaGreatDoor

namespace Go.Proofs.YtmhpfmanagbggaaGreatDoor
open Go Go.RowKit

/-- A matrix of booleans behind a variable's box, each row in a block of its own. -/
structure Mat (w : World) (bm S P : Nat) (c : List Bool) (g : Nat) (gs : List Nat) : Prop where
 box : Blk w bm [.slice (some ⟨g, 0, none⟩) S S] 72
 rows : Blk w g (gs.map fun b => Value.slice (some ⟨b, 0, none⟩) P P) 59
 len : gs.length = S
 nodup : gs.Nodup
 size : c.length = S * P
 row : ∀ x (h : x < gs.length), Blk w gs[x] (((c.drop (x * P)).take P).map .bool) 4

theorem Mat.below {w w' : World} {bm S P : Nat} {c : List Bool} {g : Nat} {gs : List Nat} (h : Mat w bm S P c g gs) (hb : Below w.heap.size w w') : Mat w' bm S P c g gs :=
 ⟨h.box.below hb, h.rows.below hb, h.len, h.nodup, h.size, fun x hx => (h.row x hx).below hb⟩

theorem Mat.belowB {B : Nat} {w w' : World} {bm S P : Nat} {c : List Bool} {g : Nat} {gs : List Nat} (h : Mat w bm S P c g gs) (hb : Below B w w') (h1 : bm < B) (h2 : g < B) (h3 : ∀ x ∈ gs, x < B) : Mat w' bm S P c g gs :=
 ⟨h.box.belowB hb h1, h.rows.belowB hb h2, h.len, h.nodup, h.size, fun x hx => (h.row x hx).belowB hb (h3 _ (List.getElem_mem _))⟩

theorem Mat.cell {w : World} {bm S P : Nat} {c : List Bool} {g : Nat} {gs : List Nat} (h : Mat w bm S P c g gs) (x y : Nat) (hx : x < gs.length) (hy : y < P) : w.cell? ⟨gs[x], y, none⟩ = some (.bool (c.getD (x * P + y) false)) := by
 refine (h.row x hx).cell y ?_
 have hl := pair_lt (S := S) (P := P) (k := x) (q := y) (by rw [← h.len]; exact hx) hy
 have hc : x * P + y < c.length := by rw [h.size]; exact hl
 rw [List.getElem?_map, List.getElem?_take, if_pos hy, List.getElem?_drop, List.getElem?_eq_getElem hc, List.getD_eq_getElem?_getD, List.getElem?_eq_getElem hc]
 rfl

theorem Mat.rowCell {w : World} {bm S P : Nat} {c : List Bool} {g : Nat} {gs : List Nat} (h : Mat w bm S P c g gs) (x : Nat) (hx : x < gs.length) : w.cell? ⟨g, x, none⟩ = some (.slice (some ⟨gs[x], 0, none⟩) P P) :=
 h.rows.cell x (by rw [List.getElem?_map, List.getElem?_eq_getElem hx]; rfl)

theorem drop_take_set {α : Type} (c : List α) (x y P : Nat) (v : α) (hy : y < P) : ((c.set (x * P + y) v).drop (x * P)).take P = ((c.drop (x * P)).take P).set y v := by
 apply List.ext_getElem?
 intro i
 rw [List.getElem?_take, List.getElem?_drop, List.getElem?_set, List.getElem?_set, List.getElem?_take, List.getElem?_drop]
 simp only [List.length_take, List.length_drop]
 by_cases hi : i < P
 ·by_cases e : y = i
  ·subst e
   by_cases hl : x * P + y < c.length
   ·simp [hi, hl]; omega
   ·simp [hi, hl]; omega
  ·simp [hi, e]
 ·have : ¬ y = i := by omega
  simp [hi, this]
theorem drop_take_other {α : Type} (c : List α) (x x' y P : Nat) (v : α) (hy : y < P) (hne : x ≠ x') : ((c.set (x * P + y) v).drop (x' * P)).take P = (c.drop (x' * P)).take P := by
 apply List.ext_getElem?
 intro i
 rw [List.getElem?_take, List.getElem?_drop, List.getElem?_set, List.getElem?_take, List.getElem?_drop]
 by_cases hi : i < P
 ·have : ¬ x * P + y = x' * P + i := by
   intro e
   rcases Nat.lt_or_gt_of_ne hne with h | h
   ·have := Nat.mul_le_mul_right P (Nat.succ_le_of_lt h)
    rw [Nat.succ_mul] at this
    omega
   ·have := Nat.mul_le_mul_right P (Nat.succ_le_of_lt h)
    rw [Nat.succ_mul] at this
    omega
  simp [this]
 ·simp [hi]

theorem Mat.set {w : World} {bm S P : Nat} {c : List Bool} {g : Nat} {gs : List Nat} (h : Mat w bm S P c g gs) (x y : Nat) (hx : x < gs.length) (hy : y < P) (v : Bool) : Mat (w.setCell ⟨gs[x], y, none⟩ (.bool v)) bm S P (c.set (x * P + y) v) g gs := by
 have hr := h.row x hx
 have hne1 : bm ≠ gs[x] := by
  intro e
  have h1 := h.box
  unfold Blk at h1 hr
  rw [e, hr] at h1
  simp at h1
 have hne2 : g ≠ gs[x] := by
  intro e
  have h1 := h.rows
  unfold Blk at h1 hr
  rw [e, hr] at h1
  simp at h1
 refine ⟨h.box.setOther _ _ hne1, h.rows.setOther _ _ hne2, h.len, h.nodup, by rw [List.length_set]; exact h.size, fun x' hx' => ?_⟩
 by_cases e : x = x'
 ·subst e
  rw [drop_take_set _ _ _ _ _ hy, List.map_set]
  exact hr.set y _
 ·rw [drop_take_other _ _ _ _ _ _ hy e]
  exact (h.row x' hx').setOther _ _ (fun e' => e ((List.getElem_inj h.nodup).1 e'.symm))

theorem has_any (bm S P : Nat) (c : List Bool) (g : Nat) (gs : List Nat) (v : Nat) (q : Int) (w : World) (hm : Mat w bm S P c g gs) (hv : v < S) (hq : q < P) :
  Calls Tryz.prog 121 #[.int .i64 v, .int .i64 q, .pointer (some ⟨bm, 0, none⟩)] w fun e w' => e = .returned (.bool (decide (0 ≤ q) && c.getD (v * P + q.toNat) false)) ∧ w = w' := by
 by_cases h0 : 0 ≤ q
 ·obtain ⟨y, rfl⟩ : ∃ y : Nat, q = y := ⟨q.toNat, by omega⟩
  have hy : y < P := by omega
  have hx : v < gs.length := by rw [hm.len]; exact hv
  have c0 := hm.box.cell 0 rfl
  have c1 := hm.rowCell v hx
  have c2 := hm.cell v y hx hy
  have HF : Hid ((decide (0 ≤ (y : Int)) && c.getD (v * P + (y : Int).toNat) false) = c.getD (v * P + y) false) := by unfold Hid; simp
  have hvi : (v : Int) < (S : Int) := by omega
  clear h0 hm
  obtain ⟨b, hb⟩ : ∃ b, c.getD (v * P + y) false = b := ⟨_, rfl⟩
  rw [hb] at c2 HF
  clear hb
  go_enter Tryz.func121, Tryz.ntmps121
  go_wp2_with fail
  go_ret
  exact ⟨ret_bool HF.out.symm, rfl⟩
 ·have HF : Hid ((decide (0 ≤ q) && c.getD (v * P + q.toNat) false) = false) := by unfold Hid; rw [decide_eq_false h0, Bool.false_and]
  clear hm
  go_enter Tryz.func121, Tryz.ntmps121
  go_wp2_with fail
  go_ret
  exact ⟨ret_bool HF.out.symm, rfl⟩

theorem any1_any (bm fb ib S P : Nat) (c : List Bool) (g : Nat) (gs : List Nat) (v : Nat) (q : Int) (b : Bool) (w : World) (hm : Mat w bm S P c g gs) (hv : v < S) (hq : q < P)
  (hf : Blk w fb [.bool b] 4) (hi : w.cell? ⟨ib, 0, none⟩ = some (.func (.func 121) #[] #[.pointer (some ⟨bm, 0, none⟩)])) :
  Calls Tryz.prog 123 #[.int .i64 v, .int .i64 q, .pointer (some ⟨fb, 0, none⟩), .pointer (some ⟨ib, 0, none⟩)] w fun e w' => e = .returned (.tuple #[]) ∧ w' = w.setCell ⟨fb, 0, none⟩ (.bool (b || (decide (0 ≤ q) && c.getD (v * P + q.toNat) false))) := by
 have f0 := hf.cell 0 rfl
 have f1 := hf.frozen 0
 cases b
 ·have HM := Lib.hid hm
  clear hm hf
  go_enter Tryz.func123, Tryz.ntmps123
  go_wp2_with fail
  refine (has_any bm S P c g gs v q _ HM.out hv hq).mono ?_
  rintro e w' ⟨rfl, rfl⟩
  go_wp2_with fail
  go_end0
  exact ⟨rfl, by simp⟩
 ·clear hm hf
  go_enter Tryz.func123, Tryz.ntmps123
  go_wp2_with fail
  go_end0
  exact ⟨rfl, by simp⟩

end Go.Proofs.YtmhpfmanagbggaaGreatDoor

namespace Go.Proofs.YtmhpfmanagbggaaGreatDoor
open Go Go.RowKit

/-- From the pair some path leads to where the property is left. -/
inductive CanLv (t p : Lts) : Int → Int → Prop
 | off {e : Edge} {q : Int} : e ∈ t.edges → toState t p e q < 0 → CanLv t p e.src q
 | go {e : Edge} {q : Int} : e ∈ t.edges → 0 ≤ toState t p e q → CanLv t p e.dst (toState t p e q) → CanLv t p e.src q
/-- An edge leads from a pair to one that is marked, or leaves. -/
def lvB (t p : Lts) (c : List Bool) (e : Edge) (q : Int) : Bool := decide (toState t p e q < 0) || c.getD (idx p e.dst (toState t p e q)) false
def LvSound (t p : Lts) (c : List Bool) : Prop := ∀ x y : Nat, (x : Int) < t.states → (y : Int) < p.states → c.getD (idx p x y) false = true → CanLv t p x y
def LvClosed (t p : Lts) (c : List Bool) : Prop := ∀ e ∈ t.edges, ∀ q : Nat, (q : Int) < p.states → lvB t p c e q = true → c.getD (idx p e.src q) false = true
def LvIs (t p : Lts) (c : List Bool) : Prop := c.length = t.states.toNat * p.states.toNat ∧ LvSound t p c ∧ LvClosed t p c
theorem LvClosed.all {t p : Lts} (_ht : Valid t) (hp : Valid p) {c : List Bool} (h : LvClosed t p c) {x q : Int} (hc : CanLv t p x q) (h0 : 0 ≤ q) (h1 : q < p.states) : c.getD (idx p x q) false = true := by
 induction hc with
 | @off e q he hlt =>
  obtain ⟨n, rfl⟩ : ∃ n : Nat, (n : Int) = q := ⟨q.toNat, by omega⟩
  exact h e he n h1 (by unfold lvB; rw [decide_eq_true hlt]; rfl)
 | @go e q he hge _ ih =>
  obtain ⟨n, rfl⟩ : ∃ n : Nat, (n : Int) = q := ⟨q.toNat, by omega⟩
  have hr := toState_range (t := t) hp e h0 h1
  exact h e he n h1 (by unfold lvB; rw [ih hge hr.2]; simp)
theorem LvIs.unique {t p : Lts} (ht : Valid t) (hp : Valid p) {c d : List Bool} (h : LvIs t p c) (k : LvIs t p d) : c = d := by
 have hs := ht.st0
 have hps := hp.st0
 obtain ⟨S, hS⟩ : ∃ S : Nat, (S : Int) = t.states := ⟨t.states.toNat, by omega⟩
 obtain ⟨P, hP⟩ : ∃ P : Nat, (P : Int) = p.states := ⟨p.states.toNat, by omega⟩
 have hlc := h.1
 have hld := k.1
 rw [← hS, ← hP] at hlc hld
 simp only [Int.toNat_natCast] at hlc hld
 have key : ∀ i, i < S * P → c.getD i false = d.getD i false := by
  intro i hi
  have hP1 : 0 < P := by omega
  have hx : i / P < S := Nat.div_lt_of_lt_mul (by rw [Nat.mul_comm]; exact hi)
  have hy : i % P < P := Nat.mod_lt _ hP1
  have hix : idx p ((i / P : Nat) : Int) ((i % P : Nat) : Int) = i := by rw [idx_nat hP]; exact Nat.div_add_mod' i P
  rw [Bool.eq_iff_iff]
  constructor
  ·intro hc
   have := h.2.1 (i / P) (i % P) (by omega) (by omega) (by rw [hix]; exact hc)
   have := k.2.2.all ht hp this (by omega) (by omega)
   rwa [hix] at this
  ·intro hd
   have := k.2.1 (i / P) (i % P) (by omega) (by omega) (by rw [hix]; exact hd)
   have := h.2.2.all ht hp this (by omega) (by omega)
   rwa [hix] at this
 refine List.ext_getElem (by omega) fun i h1 h2 => ?_
 have := key i (by omega)
 rw [List.getD_eq_getElem?_getD, List.getD_eq_getElem?_getD, List.getElem?_eq_getElem h1, List.getElem?_eq_getElem h2] at this
 simpa using this

/-- What became of c0: more are marked, or nothing. -/
def More (c0 c : List Bool) (b : Bool) : Prop := c.length = c0.length ∧ ((b = true ∧ c.count false < c0.count false) ∨ (b = false ∧ c = c0))
theorem More.refl (c : List Bool) : More c c false := ⟨rfl, .inr ⟨rfl, rfl⟩⟩
theorem count_setF {c : List Bool} {i : Nat} (hi : i < c.length) (h : c.getD i false = false) : (c.set i true).count false < c.count false := by
 induction c generalizing i with
 | nil => simp at hi
 | cons x r ih =>
  cases i with
  | zero =>
   have : x = false := by simpa [List.getD] using h
   subst this
   simp
  | succ i =>
   have := ih (i := i) (by simpa using hi) (by simpa [List.getD] using h)
   simp only [List.set_cons_succ, List.count_cons]
   omega
theorem More.set {c0 c : List Bool} {b : Bool} (h : More c0 c b) {i : Nat} (hl : i < c.length) (hi : c.getD i false = false) : More c0 (c.set i true) true := by
 refine ⟨by rw [List.length_set]; exact h.1, .inl ⟨rfl, ?_⟩⟩
 have h1 := count_setF hl hi
 rcases h.2 with ⟨-, h2⟩ | ⟨-, rfl⟩
 ·omega
 ·exact h1
theorem getD_setB {c : List Bool} {i j : Nat} {v : Bool} : (c.set i v).getD j false = if i = j ∧ i < c.length then v else c.getD j false := by
 rw [List.getD_eq_getElem?_getD, List.getD_eq_getElem?_getD, List.getElem?_set]
 by_cases h : i = j
 ·subst h
  by_cases h2 : i < c.length
  ·simp [h2]
  ·simp [h2]
 ·simp [h]
theorem LvSound.set {t p : Lts} (ht : Valid t) (hp : Valid p) {c : List Bool} (h : LvSound t p c) {e : Edge} (he : e ∈ t.edges) {q : Nat} (hq : (q : Int) < p.states) (hb : lvB t p c e q = true) : LvSound t p (c.set (idx p e.src q) true) := by
 intro x y hx hy hc
 rw [getD_setB] at hc
 split at hc
 ·next hi =>
  obtain ⟨P, hP⟩ : ∃ P : Nat, (P : Int) = p.states := ⟨p.states.toNat, by have := hp.st0; omega⟩
  obtain ⟨i, hie, hek⟩ := List.mem_iff_getElem.1 he
  have hok := ht.edge i hie
  rw [hek] at hok
  obtain ⟨s, hs⟩ : ∃ s : Nat, (s : Int) = e.src := ⟨e.src.toNat, by have := hok.s0; omega⟩
  have h1 := hi.1
  rw [← hs, idx_nat hP, idx_nat hP] at h1
  have hsx : s = x ∧ q = y := by
   have h2 : (s * P + q) / P = (x * P + y) / P := by rw [h1]
   have hP1 : 0 < P := by omega
   rw [Nat.mul_comm s, Nat.mul_comm x, Nat.mul_add_div hP1, Nat.mul_add_div hP1, Nat.div_eq_of_lt (show q < P by omega), Nat.div_eq_of_lt (show y < P by omega)] at h2
   have h3 : s = x := by omega
   subst h3
   exact ⟨rfl, by omega⟩
  rw [← hsx.1, ← hsx.2, hs]
  unfold lvB at hb
  rw [Bool.or_eq_true, decide_eq_true_eq] at hb
  rcases hb with hb | hb
  ·exact .off he hb
  ·by_cases hlt : toState t p e q < 0
   ·exact .off he hlt
   ·have hr := toState_range (t := t) hp e (q := (q : Int)) (by omega) hq
    obtain ⟨z, hz⟩ : ∃ z : Nat, (z : Int) = toState t p e q := ⟨(toState t p e q).toNat, by omega⟩
    obtain ⟨d, hd⟩ : ∃ d : Nat, (d : Int) = e.dst := ⟨e.dst.toNat, by have := hok.d0; omega⟩
    refine .go he (by omega) ?_
    rw [← hz, ← hd] at hb ⊢
    exact h d z (by have := hok.d1; omega) (by omega) hb
 ·exact h x y hx hy hc
theorem LvSound.start (t p : Lts) (N : Nat) : LvSound t p (List.replicate N false) := fun x y _ _ h => by
 rw [List.getD_eq_getElem?_getD, List.getElem?_replicate] at h
 split at h <;> cases h

end Go.Proofs.YtmhpfmanagbggaaGreatDoor

namespace Go.Proofs.YtmhpfmanagbggaaGreatDoor
open Go Go.RowKit

theorem leave11_any (bm kb S P : Nat) (c : List Bool) (g : Nat) (gs : List Nat) (v : Nat) (q : Int) (w : World) (hm : Mat w bm S P c g gs) (hk : Blk w kb [.func (.func 121) #[] #[.pointer (some ⟨bm, 0, none⟩)]] 133) (hv : v < S) (hq : q < P) :
  Calls Tryz.prog 98 #[.int .i64 v, .int .i64 q, .pointer (some ⟨kb, 0, none⟩)] w fun e w' => e = .returned (.bool (decide (q < 0) || (decide (0 ≤ q) && c.getD (v * P + q.toNat) false))) ∧ w = w' := by
 have k0 := hk.cell 0 rfl
 have HH := Lib.hid (has_any bm S P c g gs v q w hm hv hq)
 obtain ⟨b, hb⟩ : ∃ b, b = (decide (0 ≤ q) && c.getD (v * P + q.toNat) false) := ⟨_, rfl⟩
 rw [← hb] at HH ⊢
 clear hm hk hb
 by_cases h0 : q < 0
 ·have hd : decide (q < 0) = true := decide_eq_true h0
  rw [hd, Bool.true_or]
  go_enter Tryz.func98, Tryz.ntmps98
  go_wp2_with fail
  go_ret
  exact ⟨rfl, rfl⟩
 ·have hd : decide (q < 0) = false := decide_eq_false h0
  rw [hd, Bool.false_or]
  go_enter Tryz.func98, Tryz.ntmps98
  go_wp2_with fail
  refine Calls.mono HH.out ?_
  rintro e w' ⟨rfl, rfl⟩
  go_wp2_with fail
  go_ret
  exact ⟨rfl, rfl⟩

theorem any1L_any (bm kb fb ib S P : Nat) (c : List Bool) (g : Nat) (gs : List Nat) (v : Nat) (q : Int) (b : Bool) (w : World) (hm : Mat w bm S P c g gs) (hv : v < S) (hq : q < P)
  (hk : Blk w kb [.func (.func 121) #[] #[.pointer (some ⟨bm, 0, none⟩)]] 133) (hf : Blk w fb [.bool b] 4) (hi : w.cell? ⟨ib, 0, none⟩ = some (.func (.func 98) #[] #[.pointer (some ⟨kb, 0, none⟩)])) :
  Calls Tryz.prog 123 #[.int .i64 v, .int .i64 q, .pointer (some ⟨fb, 0, none⟩), .pointer (some ⟨ib, 0, none⟩)] w fun e w' => e = .returned (.tuple #[]) ∧ w' = w.setCell ⟨fb, 0, none⟩ (.bool (b || (decide (q < 0) || (decide (0 ≤ q) && c.getD (v * P + q.toNat) false)))) := by
 have f0 := hf.cell 0 rfl
 have f1 := hf.frozen 0
 cases b
 ·have HM := Lib.hid hm
  have HK := Lib.hid hk
  clear hm hf hk
  go_enter Tryz.func123, Tryz.ntmps123
  go_wp2_with fail
  refine (leave11_any bm kb S P c g gs v q _ HM.out HK.out hv hq).mono ?_
  rintro e w' ⟨rfl, rfl⟩
  go_wp2_with fail
  go_end0
  exact ⟨rfl, by simp⟩
 ·clear hm hf hk
  go_enter Tryz.func123, Tryz.ntmps123
  go_wp2_with fail
  go_end0
  exact ⟨rfl, by simp⟩

end Go.Proofs.YtmhpfmanagbggaaGreatDoor

namespace Go.Proofs.YtmhpfmanagbggaaGreatDoor
open Go Go.RowKit

set_option maxRecDepth 100000 in
set_option maxHeartbeats 2000000 in
theorem out_any (lo : Nat) (t : Lts) (lv ev : Value) (s : Int) (w : World) (hsmall : t.edges.length ≤ 1073741824) (he : SliceK 3 encE lo w ev t.edges) :
  Calls Tryz.prog 100 #[.agg #[.int .i64 t.states, .int .i64 t.initial, lv, ev], .int .i64 s] w (MadeOut t s w) := by
 obtain ⟨ae, ce, rfl, hen, hec, hrow⟩ := he
 obtain ⟨i0, hi, hz0, hz1, hz2⟩ := info_parts info_edge2
 have HB0 : Hid (Below w.heap.size w (w.alloc (.cells #[.int .i64 t.states, .int .i64 t.initial, lv, .slice ae t.edges.length ce] 29))) := (Below.refl _ _).alloc (Nat.le_refl _) _
 go_enter Tryz.func100, Tryz.ntmps100
 go_wp2_with fail
 go_loopw [5, 11] (fun v i wr => ∃ k : Nat, k ≤ t.edges.length ∧ i = .int .i64 k ∧ Below w.heap.size w wr ∧ wr.ownsRow w.heap.size 67 3 v ((t.edges.take k).filter fun e => e.src == s).length (((t.edges.take k).filter fun e => e.src == s).flatMap encE)) (fun _ i _ => t.edges.length - (intOf i).toNat)
 case atStart => exact ⟨0, Nat.zero_le _, rfl, HB0.out, World.ownsRow_nil _ _ _ _⟩
 case round =>
  obtain ⟨k, hk, rfl, hbl, ho⟩ := hrel
  have HBL := Lib.hid hbl
  have HO := Lib.hid ho
  have hsz := hbl.size
  have hfl : ((t.edges.take k).filter fun e => e.src == s).length ≤ k := Nat.le_trans (List.length_filter_le _ _) (List.length_take_le _ _)
  clear hbl ho
  by_cases hlt : k < t.edges.length
  ·obtain ⟨be, oe, rfl, -, hbe, e1, e2, e3⟩ := (hrow.below HBL.out).edge hlt
   clear hrow
   have HBA : Hid (Below w.heap.size w (wr.alloc (.cells #[.int .i64 t.edges[k].src, .int .i64 t.edges[k].lab, .int .i64 t.edges[k].dst] 67))) := HBL.out.alloc hsz _
   have HOA : Hid ((wr.alloc (.cells #[.int .i64 t.edges[k].src, .int .i64 t.edges[k].lab, .int .i64 t.edges[k].dst] 67)).ownsRow w.heap.size 67 3 u5 ((t.edges.take k).filter fun e => e.src == s).length (((t.edges.take k).filter fun e => e.src == s).flatMap encE)) := HO.out.alloc _
   cases g : (t.edges[k].src == s)
   ·have HL : Hid ((t.edges.take (k + 1)).filter (fun e => e.src == s) = (t.edges.take k).filter fun e => e.src == s) := by
     unfold Hid
     rw [List.take_succ_eq_append_getElem hlt, List.filter_append]
     simp [g]
    go_wp2_with fail
    go_roundw
    case rel => exact ⟨k + 1, by omega, by go_num, HBA.out, by rw [HL.out]; exact HOA.out⟩
    case measure => simp [intOf]; omega
   ·have HL : Hid ((t.edges.take (k + 1)).filter (fun e => e.src == s) = ((t.edges.take k).filter fun e => e.src == s) ++ [t.edges[k]]) := by
     unfold Hid
     rw [List.take_succ_eq_append_getElem hlt, List.filter_append]
     simp [g]
    generalize hfs : (t.edges.take k).filter (fun e => e.src == s) = fs at *
    have HFS := Lib.hid hfs
    clear hfs
    go_wp2_with (at_builtin; refine wpList_append_own _ rfl _ _ 27 rfl w.heap.size 67 i0 (.agg #[.int .i64 0, .int .i64 0, .int .i64 0]) 3 24 Tryz.underlying27 hi hz0 hz1 hz2 rfl (by decide) _ _ _ rfl (HOA.out.alloc _) ⟨wr.heap.size + 1, 0, none⟩ 1 1 (encE t.edges[k]) rfl rfl ?c1 ?c2 ?c3 ?c4 ?c5 ?_)
    case c1 => have := three_new (wr.alloc (.cells #[.int .i64 t.edges[k].src, .int .i64 t.edges[k].lab, .int .i64 t.edges[k].dst] 67)) t.edges[k] 67; simpa using this
    case c2 => intro u hu; simp [encE] at hu; rcases hu with rfl | rfl | rfl <;> rfl
    case c3 => simp [maxLen]; omega
    case c4 => omega
    case c5 => simp; omega
    intro v' w1 ho1 hg1 _
    have HO2 : Hid (w1.ownsRow w.heap.size 67 3 v' (fs ++ [t.edges[k]]).length ((fs ++ [t.edges[k]]).flatMap encE)) := by
     unfold Hid
     rw [List.length_append, List.flatMap_append, List.flatMap_singleton]
     exact ho1
    have HB2 : Hid (Below w.heap.size w w1) := (HBA.out.alloc (by simp; omega) _).grown hg1 (by simp; omega) (fun b e => (HO.out.lt b e).1)
    clear ho1 hg1
    go_wp2_with fail
    go_roundw
    case rel => exact ⟨k + 1, by omega, by go_num, HB2.out, by rw [HL.out]; exact HO2.out⟩
    case measure => simp [intOf]; omega
  ·clear hrow
   go_wp2_with fail
   go_ret
   obtain rfl : k = t.edges.length := by omega
   exact ⟨_, rfl, HBL.out, by unfold outOf; have := HO.out; rw [List.take_length] at this; exact this⟩

end Go.Proofs.YtmhpfmanagbggaaGreatDoor

namespace Go.Proofs.YtmhpfmanagbggaaGreatDoor
open Go Go.RowKit

theorem has_idx {p : Lts} {P : Nat} (hP : (P : Int) = p.states) (c : List Bool) (d : Nat) (q : Int) : (decide (0 ≤ q) && c.getD (d * P + q.toNat) false) = (decide (0 ≤ q) && c.getD (idx p d q) false) := by
 by_cases h : 0 ≤ q
 ·obtain ⟨y, rfl⟩ : ∃ y : Nat, q = y := ⟨q.toNat, by omega⟩
  rw [idx_nat hP, Int.toNat_natCast]
 ·rw [decide_eq_false h, Bool.false_and, Bool.false_and]

theorem any_next {t p : Lts} {c : List Bool} {l : List Edge} {q : Int} {j : Nat} (hj : j < l.length) {d : Nat} (hd : (d : Int) = l[j].dst) {P : Nat} (hP : (P : Int) = p.states) :
  anyTo t p c l q (j + 1) = (anyTo t p c l q j || (decide (0 ≤ toState t p l[j] q) && c.getD (d * P + (toState t p l[j] q).toNat) false)) := by
 rw [anyTo_succ _ _ _ _ _ _ hj, has_idx hP, hd]

/-- What holds at the head of the loop of moves. -/
structure MoveInv (w0 : World) (B0 fb ib bm : Nat) (cells : List Value) (b : Bool) (v : Value) (l : List Edge) (wr : World) : Prop where
 below : Below w0.heap.size w0 wr
 obs : Blk wr B0 cells 51
 found : Blk wr fb [.bool b] 4
 is : Blk wr ib [.func (.func 121) #[] #[.pointer (some ⟨bm, 0, none⟩)]] 133
 own : wr.ownsRow (B0 + 1) 67 3 v l.length (l.flatMap encE)

theorem MoveInv.later {w0 wr w' : World} {B0 fb ib bm : Nat} {cells : List Value} {b : Bool} {v : Value} {l : List Edge} (h : MoveInv w0 B0 fb ib bm cells b v l wr) (hb : Below wr.heap.size wr w') : MoveInv w0 B0 fb ib bm cells b v l w' :=
 ⟨h.below.trans (hb.mono h.below.size), h.obs.below hb, h.found.below hb, h.is.below hb, owns_below h.own hb⟩
theorem MoveInv.found' {w0 wr w' : World} {B0 fb ib bm : Nat} {cells : List Value} {b b2 : Bool} {v : Value} {l : List Edge} (h : MoveInv w0 B0 fb ib bm cells b v l wr) (hf : w0.heap.size ≤ fb) (h1 : fb < B0) (h2 : fb ≠ ib)
  (e : w' = wr.setCell ⟨fb, 0, none⟩ (.bool b2)) : MoveInv w0 B0 fb ib bm cells b2 v l w' := by
 subst e
 refine ⟨h.below.setCell hf _, h.obs.setOther _ _ (by show B0 ≠ fb; omega), h.found.set 0 _, h.is.setOther _ _ (fun e => h2 e.symm), owns_setOther h.own _ _ ?_⟩
 intro e
 have := (h.own.lt _ e).1
 simp at this
 omega

set_option maxRecDepth 100000 in
set_option maxHeartbeats 4000000 in
theorem moves_any (lo bm fb ib S P : Nat) (c : List Bool) (g : Nat) (gs : List Nat) (t p : Lts) (lv ev lv2 ev2 : Value) (x q : Int) (w0 w : World) (hvt : Valid t) (hvp : Valid p) (hsp : Single p) (hS : (S : Int) = t.states) (hP : (P : Int) = p.states)
  (hs1 : SliceK 1 encS lo w0 lv t.labels) (hs2 : SliceK 3 encE lo w0 ev t.edges) (hq1 : SliceK 1 encS lo w0 lv2 p.labels) (hq2 : SliceK 3 encE lo w0 ev2 p.edges) (hm : Mat w0 bm S P c g gs)
  (hb : Below w0.heap.size w0 w) (hfb : Blk w fb [.bool false] 4) (hib : Blk w ib [.func (.func 121) #[] #[.pointer (some ⟨bm, 0, none⟩)]] 133) (hf : w0.heap.size ≤ fb) (_hi : w0.heap.size ≤ ib) (hne : fb ≠ ib)
  (_h0 : 0 ≤ q) (h1 : q < P) :
  Calls Tryz.prog 122 #[.agg #[.int .i64 t.states, .int .i64 t.initial, lv, ev, .int .i64 p.states, .int .i64 p.initial, lv2, ev2], .int .i64 x, .int .i64 q, .func (.func 123) #[] #[.pointer (some ⟨fb, 0, none⟩), .pointer (some ⟨ib, 0, none⟩)]] w
   fun e w' => e = .returned (.tuple #[]) ∧ Below w0.heap.size w0 w' ∧ Blk w' fb [.bool (goesB t p c (outOf t x) q)] 4 := by
 have HS1 := Lib.hid hs1
 have HS2 := Lib.hid hs2
 have HQ1 := Lib.hid hq1
 have HQ2 := Lib.hid hq2
 have HM := Lib.hid hm
 have HB := Lib.hid hb
 have VT := Lib.hid hvt
 have VP := Lib.hid hvp
 have SP := Lib.hid hsp
 have HNE := Lib.hid hne
 have HSS := Lib.hid hS
 have HPP := Lib.hid hP
 have hz := hb.size
 have hfz := hfb.lt
 have hiz := hib.lt
 have hB0 : Below w0.heap.size w0 (w.alloc (.cells #[.int .i64 t.states, .int .i64 t.initial, lv, ev, .int .i64 p.states, .int .i64 p.initial, lv2, ev2] 51)) := hb.alloc hz _
 have HBX := Lib.hid (Blk.new w [.int .i64 t.states, .int .i64 t.initial, lv, ev, .int .i64 p.states, .int .i64 p.initial, lv2, ev2] 51)
 have HFB := Lib.hid (hfb.alloc (.cells #[.int .i64 t.states, .int .i64 t.initial, lv, ev, .int .i64 p.states, .int .i64 p.initial, lv2, ev2] 51))
 have HIB := Lib.hid (hib.alloc (.cells #[.int .i64 t.states, .int .i64 t.initial, lv, ev, .int .i64 p.states, .int .i64 p.initial, lv2, ev2] 51))
 have HC := Lib.hid (out_any lo t lv ev x _ (by have := hvt.most; omega) (hs2.below hB0))
 have HB0 := Lib.hid hB0
 clear hs1 hs2 hq1 hq2 hm hb hvt hvp hsp hne hB0 hfb hib hS hP
 go_enter Tryz.func122, Tryz.ntmps122
 go_wp2_with fail
 refine Calls.mono HC.out ?_
 rintro e w1 ⟨v, rfl, hb1, ho1⟩
 have HBX1 := Lib.hid (HBX.out.below hb1)
 have HFB1 := Lib.hid (HFB.out.below hb1)
 have HIB1 := Lib.hid (HIB.out.below hb1)
 have HB1 := Lib.hid (HB0.out.trans (hb1.mono HB0.out.size))
 have hw1 : w.heap.size < w1.heap.size := by have := hb1.size; simp at this; omega
 have hll : (outOf t x).length ≤ 300 := by unfold outOf; exact Nat.le_trans (List.length_filter_le _ _) VT.out.most
 have HOK : Hid (∀ e ∈ outOf t x, EdgeOk t e) := outOf_ok VT.out x
 have HGO : Hid (anyTo t p c (outOf t x) q (outOf t x).length = goesB t p c (outOf t x) q) := anyTo_all t p c _ q
 obtain ⟨l, hl⟩ : ∃ l, l = outOf t x := ⟨_, rfl⟩
 rw [← hl] at ho1 hll HOK HGO
 try rw [← hl]
 have HO1 : Hid (w1.ownsRow (w.heap.size + 1) 67 3 v l.length (l.flatMap encE)) := by unfold Hid; simpa using ho1
 have HLL := Lib.hid hl
 clear hb1 ho1 hl HBX HFB HIB HB0 HC
 obtain ⟨av, cv, rfl, hc1, hc2⟩ := owns_slice HO1.out
 go_wp2_with fail
 have HI1 : Hid (MoveInv w0 w.heap.size fb ib bm [.int .i64 t.states, .int .i64 t.initial, lv, ev, .int .i64 p.states, .int .i64 p.initial, lv2, ev2] false (.slice av l.length cv) l w1) := ⟨HB1.out, HBX1.out, HFB1.out, HIB1.out, HO1.out⟩
 clear HB1 HBX1 HFB1 HIB1 HO1
 go_loopw [15] (fun i wr => ∃ j : Nat, j ≤ l.length ∧ i = .int .i64 j ∧ MoveInv w0 w.heap.size fb ib bm [.int .i64 t.states, .int .i64 t.initial, lv, ev, .int .i64 p.states, .int .i64 p.initial, lv2, ev2] (anyTo t p c l q j) (.slice av l.length cv) l wr) (fun i _ => l.length - (intOf i).toNat)
 case atStart => exact ⟨0, Nat.zero_le _, rfl, HI1.out⟩
 case round =>
  obtain ⟨j, hj, rfl, hinv⟩ := hrel
  clear HI1
  have HI := Lib.hid hinv
  have hsz := hinv.below.size
  have hxl := hinv.obs.lt
  have hfl := hinv.found.lt
  have hil := hinv.is.lt
  clear hinv
  by_cases hlt : j < l.length
  ·obtain ⟨a', c', e9, -, -, hrow⟩ := SliceK.of_owns encE_len rfl HI.out.own
   simp only [Value.slice.injEq, true_and] at e9
   obtain ⟨rfl, rfl⟩ := e9
   obtain ⟨be, oe, rfl, -, hbe, e1, e2, e3⟩ := hrow.edge hlt
   obtain ⟨e, hee⟩ : ∃ e, e = l[j] := ⟨_, rfl⟩
   have hek : EdgeOk t e := by rw [hee]; exact HOK.out _ (List.getElem_mem _)
   rw [← hee] at e1 e2 e3
   obtain ⟨d, hd⟩ : ∃ d : Nat, (d : Int) = e.dst := ⟨e.dst.toNat, by have := hek.d0; omega⟩
   have hdS : d < S := by have := hek.d1; rw [← HSS.out] at this; omega
   have HNX := Lib.hid (any_next (t := t) (c := c) (q := q) hlt (hd.trans (by rw [hee])) HPP.out)
   rw [← hee] at HNX
   rw [← hd] at e3
   obtain ⟨hll2, hla⟩ := labAt_idx hek
   have hl0 : ((e.lab.toNat : Nat) : Int) = e.lab := by have := hek.l0; omega
   have hl1 := hek.l1
   obtain ⟨m, hm⟩ : ∃ m, m = e.lab.toNat := ⟨_, rfl⟩
   have hmt : m < t.labels.length := by omega
   have HLA : Hid (labAt t e = t.labels[m]) := by unfold Hid; subst hm; exact hla
   rw [← hm] at hl0
   have HEE := Lib.hid hee
   rw [← hl0] at e2
   obtain ⟨b, hbb⟩ : ∃ b, anyTo t p c l q j = b := ⟨_, rfl⟩
   rw [hbb] at HI HNX
   have HA := Lib.hid (HI.out.later (box_below wr #[.int .i64 e.src, .int .i64 m, .int .i64 d] 67))
   have HL0 := Lib.hid hl0
   clear hek hee hbb hla hd hll2 hl1 hm hl0
   cases g1 : ((m : Int) == 0)
   ·have hts : Hid (toState t p e q = goTo p q (labAt t e)) := by
     unfold Hid toState
     rw [if_neg]
     rw [← HL0.out]
     simpa using g1
    obtain ⟨al, cl, rfl, hal1, hal2, hlr⟩ := HS1.out
    obtain ⟨bl, ol, rfl, -, hbl, c1⟩ := (hlr.below HI.out.below).one hmt
    simp only [encS, List.getElem?_cons_zero] at c1
    rw [← HLA.out] at c1
    have hmi : (m : Int) < (t.labels.length : Int) := by omega
    obtain ⟨WE, hWE⟩ : ∃ WE, WE = wr.alloc (.cells #[.int .i64 e.src, .int .i64 m, .int .i64 d] 67) := ⟨_, rfl⟩
    have k1 : WE.cell? ⟨wr.heap.size, 1, none⟩ = some (.int .i64 m) := by rw [hWE]; simp
    have k2 : WE.cell? ⟨wr.heap.size, 2, none⟩ = some (.int .i64 d) := by rw [hWE]; simp
    have c2 : WE.cell? ⟨bl, ol + m, none⟩ = some (.string (labAt t e)) := by rw [hWE]; exact keeps (box_below _ _ _) hbl c1
    rw [← hWE] at HA
    have x2 := HA.out.obs.cell 2 rfl
    have x4 := HA.out.obs.cell 4 rfl
    have x5 := HA.out.obs.cell 5 rfl
    have x6 := HA.out.obs.cell 6 rfl
    have x7 := HA.out.obs.cell 7 rfl
    have HWE := Lib.hid hWE
    clear hWE hlr hrow c1
    go_wp2_with fail
    rw [← HWE.out]
    clear HWE e1 e2 e3
    have HQ1E := Lib.hid (HQ1.out.below HA.out.below)
    have HQ2E := Lib.hid (HQ2.out.below HA.out.below)
    have hBE := HA.out.obs.lt
    replace k1 := later_cell (World.block_lt_of_cell? _ _ k1) k1
    replace k2 := later_cell (World.block_lt_of_cell? _ _ k2) k2
    replace c2 := later_cell (World.block_lt_of_cell? _ _ c2) c2
    replace x2 := later_cell hBE x2
    replace x4 := later_cell hBE x4
    replace x5 := later_cell hBE x5
    replace x6 := later_cell hBE x6
    replace x7 := later_cell hBE x7
    refine wp_region_later_tail 14 (by kernel_rfl) (by kernel_rfl) ?_
    simp only [List.take_succ_cons, List.take_zero, List.drop_succ_cons, List.drop_zero]
    repeat (go_big_quiet_step ((go_at_call 50; exact later_call (step_any lo p _ _ q _ _ VP.out SP.out (HQ1E.out.below (Later.h _)) (HQ2E.out.below (Later.h _))))))
    refine wpQuiet_nil ?_
    intro _ hw9
    obtain ⟨nl, hw8⟩ := hw9
    subst hw8
    clear k1 k2 c2 x2 x4 x5 x6 x7
    have HA2 := Lib.hid (HA.out.later nl.h)
    have hgr := goTo_range VP.out q (labAt t e)
    have hgp : goTo p q (labAt t e) < P := by rw [HPP.out]; exact hgr.2
    go_wp2_with fail
    refine (any1_any bm fb ib S P c g gs d _ b _ (HM.out.below HA2.out.below) hdS hgp HA2.out.found (HA2.out.is.cell 0 rfl)).mono ?_
    rintro e' w2 ⟨rfl, hw2⟩
    have HI2 := Lib.hid (HA2.out.found' hf hfz HNE.out hw2)
    rw [hts.out] at HNX
    rw [← HNX.out] at HI2
    clear hw2 hgr hgp
    go_wp2_with fail
    go_roundw
    case rel => exact ⟨j + 1, by omega, by go_num, HI2.out⟩
    case measure => simp [intOf]; omega
   ·have hts : Hid (toState t p e q = q) := by
     unfold Hid toState
     rw [if_pos]
     rw [← HL0.out]
     simpa using g1
    clear hrow
    go_wp2_with fail
    refine (any1_any bm fb ib S P c g gs d q b _ (HM.out.below HA.out.below) hdS h1 HA.out.found (HA.out.is.cell 0 rfl)).mono ?_
    rintro e' w2 ⟨rfl, hw2⟩
    have HI2 := Lib.hid (HA.out.found' hf hfz HNE.out hw2)
    rw [hts.out] at HNX
    rw [← HNX.out] at HI2
    clear hw2
    go_wp2_with fail
    go_roundw
    case rel => exact ⟨j + 1, by omega, by go_num, HI2.out⟩
    case measure => simp [intOf]; omega
  ·obtain rfl : j = l.length := by omega
   go_wp2_with fail
   go_end0
   exact ⟨rfl, HI.out.below, by have := HI.out.found; rw [HGO.out] at this; rw [← HLL.out]; exact this⟩

end Go.Proofs.YtmhpfmanagbggaaGreatDoor

namespace Go.Proofs.YtmhpfmanagbggaaGreatDoor
open Go Go.RowKit

/-- Does one of the first j edges leave, or lead to a pair that is marked? -/
def anyLv (t p : Lts) (c : List Bool) (l : List Edge) (q : Int) (j : Nat) : Bool := (l.take j).any fun e => lvB t p c e q
def goesLv (t p : Lts) (c : List Bool) (l : List Edge) (q : Int) : Bool := l.any fun e => lvB t p c e q
theorem anyLv_all (t p : Lts) (c : List Bool) (l : List Edge) (q : Int) : anyLv t p c l q l.length = goesLv t p c l q := by unfold anyLv goesLv; rw [List.take_length]
theorem anyLv_next {t p : Lts} {c : List Bool} {l : List Edge} {q : Int} {j : Nat} (hj : j < l.length) {d : Nat} (hd : (d : Int) = l[j].dst) {P : Nat} (hP : (P : Int) = p.states) :
  anyLv t p c l q (j + 1) = (anyLv t p c l q j || (decide (toState t p l[j] q < 0) || (decide (0 ≤ toState t p l[j] q) && c.getD (d * P + (toState t p l[j] q).toNat) false))) := by
 unfold anyLv
 rw [any_take _ _ _ hj]
 congr 1
 unfold lvB
 by_cases h : toState t p l[j] q < 0
 ·rw [decide_eq_true h, Bool.true_or, Bool.true_or]
 ·rw [decide_eq_false h, Bool.false_or, Bool.false_or, has_idx hP, hd, decide_eq_true (by omega), Bool.true_and]

/-- What holds at the head of the loop of moves. -/
structure MoveInvL (w0 : World) (B0 fb ib kb : Nat) (cells : List Value) (b : Bool) (v : Value) (l : List Edge) (wr : World) : Prop where
 below : Below w0.heap.size w0 wr
 obs : Blk wr B0 cells 51
 found : Blk wr fb [.bool b] 4
 is : Blk wr ib [.func (.func 98) #[] #[.pointer (some ⟨kb, 0, none⟩)]] 133
 own : wr.ownsRow (B0 + 1) 67 3 v l.length (l.flatMap encE)

theorem MoveInvL.later {w0 wr w' : World} {B0 fb ib kb : Nat} {cells : List Value} {b : Bool} {v : Value} {l : List Edge} (h : MoveInvL w0 B0 fb ib kb cells b v l wr) (hb : Below wr.heap.size wr w') : MoveInvL w0 B0 fb ib kb cells b v l w' :=
 ⟨h.below.trans (hb.mono h.below.size), h.obs.below hb, h.found.below hb, h.is.below hb, owns_below h.own hb⟩
theorem MoveInvL.found' {w0 wr w' : World} {B0 fb ib kb : Nat} {cells : List Value} {b b2 : Bool} {v : Value} {l : List Edge} (h : MoveInvL w0 B0 fb ib kb cells b v l wr) (hf : w0.heap.size ≤ fb) (h1 : fb < B0) (h2 : fb ≠ ib)
  (e : w' = wr.setCell ⟨fb, 0, none⟩ (.bool b2)) : MoveInvL w0 B0 fb ib kb cells b2 v l w' := by
 subst e
 refine ⟨h.below.setCell hf _, h.obs.setOther _ _ (by show B0 ≠ fb; omega), h.found.set 0 _, h.is.setOther _ _ (fun e => h2 e.symm), owns_setOther h.own _ _ ?_⟩
 intro e
 have := (h.own.lt _ e).1
 simp at this
 omega

set_option maxRecDepth 100000 in
set_option maxHeartbeats 4000000 in
theorem movesL_any (lo bm kb fb ib S P : Nat) (c : List Bool) (g : Nat) (gs : List Nat) (t p : Lts) (lv ev lv2 ev2 : Value) (x q : Int) (w0 w : World) (hvt : Valid t) (hvp : Valid p) (hsp : Single p) (hS : (S : Int) = t.states) (hP : (P : Int) = p.states)
  (hs1 : SliceK 1 encS lo w0 lv t.labels) (hs2 : SliceK 3 encE lo w0 ev t.edges) (hq1 : SliceK 1 encS lo w0 lv2 p.labels) (hq2 : SliceK 3 encE lo w0 ev2 p.edges) (hm : Mat w0 bm S P c g gs)
  (hb : Below w0.heap.size w0 w) (hfb : Blk w fb [.bool false] 4) (hib : Blk w ib [.func (.func 98) #[] #[.pointer (some ⟨kb, 0, none⟩)]] 133) (hf : w0.heap.size ≤ fb) (_hi : w0.heap.size ≤ ib) (hne : fb ≠ ib)
  (hk : Blk w0 kb [.func (.func 121) #[] #[.pointer (some ⟨bm, 0, none⟩)]] 133) (_h0 : 0 ≤ q) (h1 : q < P) :
  Calls Tryz.prog 122 #[.agg #[.int .i64 t.states, .int .i64 t.initial, lv, ev, .int .i64 p.states, .int .i64 p.initial, lv2, ev2], .int .i64 x, .int .i64 q, .func (.func 123) #[] #[.pointer (some ⟨fb, 0, none⟩), .pointer (some ⟨ib, 0, none⟩)]] w
   fun e w' => e = .returned (.tuple #[]) ∧ Below w0.heap.size w0 w' ∧ Blk w' fb [.bool (goesLv t p c (outOf t x) q)] 4 := by
 have HS1 := Lib.hid hs1
 have HS2 := Lib.hid hs2
 have HQ1 := Lib.hid hq1
 have HQ2 := Lib.hid hq2
 have HM := Lib.hid hm
 have HK := Lib.hid hk
 have HB := Lib.hid hb
 have VT := Lib.hid hvt
 have VP := Lib.hid hvp
 have SP := Lib.hid hsp
 have HNE := Lib.hid hne
 have HSS := Lib.hid hS
 have HPP := Lib.hid hP
 have hz := hb.size
 have hfz := hfb.lt
 have hiz := hib.lt
 have hB0 : Below w0.heap.size w0 (w.alloc (.cells #[.int .i64 t.states, .int .i64 t.initial, lv, ev, .int .i64 p.states, .int .i64 p.initial, lv2, ev2] 51)) := hb.alloc hz _
 have HBX := Lib.hid (Blk.new w [.int .i64 t.states, .int .i64 t.initial, lv, ev, .int .i64 p.states, .int .i64 p.initial, lv2, ev2] 51)
 have HFB := Lib.hid (hfb.alloc (.cells #[.int .i64 t.states, .int .i64 t.initial, lv, ev, .int .i64 p.states, .int .i64 p.initial, lv2, ev2] 51))
 have HIB := Lib.hid (hib.alloc (.cells #[.int .i64 t.states, .int .i64 t.initial, lv, ev, .int .i64 p.states, .int .i64 p.initial, lv2, ev2] 51))
 have HC := Lib.hid (out_any lo t lv ev x _ (by have := hvt.most; omega) (hs2.below hB0))
 have HB0 := Lib.hid hB0
 clear hk hs1 hs2 hq1 hq2 hm hb hvt hvp hsp hne hB0 hfb hib hS hP
 go_enter Tryz.func122, Tryz.ntmps122
 go_wp2_with fail
 refine Calls.mono HC.out ?_
 rintro e w1 ⟨v, rfl, hb1, ho1⟩
 have HBX1 := Lib.hid (HBX.out.below hb1)
 have HFB1 := Lib.hid (HFB.out.below hb1)
 have HIB1 := Lib.hid (HIB.out.below hb1)
 have HB1 := Lib.hid (HB0.out.trans (hb1.mono HB0.out.size))
 have hw1 : w.heap.size < w1.heap.size := by have := hb1.size; simp at this; omega
 have hll : (outOf t x).length ≤ 300 := by unfold outOf; exact Nat.le_trans (List.length_filter_le _ _) VT.out.most
 have HOK : Hid (∀ e ∈ outOf t x, EdgeOk t e) := outOf_ok VT.out x
 have HGO : Hid (anyLv t p c (outOf t x) q (outOf t x).length = goesLv t p c (outOf t x) q) := anyLv_all t p c _ q
 obtain ⟨l, hl⟩ : ∃ l, l = outOf t x := ⟨_, rfl⟩
 rw [← hl] at ho1 hll HOK HGO
 try rw [← hl]
 have HO1 : Hid (w1.ownsRow (w.heap.size + 1) 67 3 v l.length (l.flatMap encE)) := by unfold Hid; simpa using ho1
 have HLL := Lib.hid hl
 clear hb1 ho1 hl HBX HFB HIB HB0 HC
 obtain ⟨av, cv, rfl, hc1, hc2⟩ := owns_slice HO1.out
 go_wp2_with fail
 have HI1 : Hid (MoveInvL w0 w.heap.size fb ib kb [.int .i64 t.states, .int .i64 t.initial, lv, ev, .int .i64 p.states, .int .i64 p.initial, lv2, ev2] false (.slice av l.length cv) l w1) := ⟨HB1.out, HBX1.out, HFB1.out, HIB1.out, HO1.out⟩
 clear HB1 HBX1 HFB1 HIB1 HO1
 go_loopw [15] (fun i wr => ∃ j : Nat, j ≤ l.length ∧ i = .int .i64 j ∧ MoveInvL w0 w.heap.size fb ib kb [.int .i64 t.states, .int .i64 t.initial, lv, ev, .int .i64 p.states, .int .i64 p.initial, lv2, ev2] (anyLv t p c l q j) (.slice av l.length cv) l wr) (fun i _ => l.length - (intOf i).toNat)
 case atStart => exact ⟨0, Nat.zero_le _, rfl, HI1.out⟩
 case round =>
  obtain ⟨j, hj, rfl, hinv⟩ := hrel
  clear HI1
  have HI := Lib.hid hinv
  have hsz := hinv.below.size
  have hxl := hinv.obs.lt
  have hfl := hinv.found.lt
  have hil := hinv.is.lt
  clear hinv
  by_cases hlt : j < l.length
  ·obtain ⟨a', c', e9, -, -, hrow⟩ := SliceK.of_owns encE_len rfl HI.out.own
   simp only [Value.slice.injEq, true_and] at e9
   obtain ⟨rfl, rfl⟩ := e9
   obtain ⟨be, oe, rfl, -, hbe, e1, e2, e3⟩ := hrow.edge hlt
   obtain ⟨e, hee⟩ : ∃ e, e = l[j] := ⟨_, rfl⟩
   have hek : EdgeOk t e := by rw [hee]; exact HOK.out _ (List.getElem_mem _)
   rw [← hee] at e1 e2 e3
   obtain ⟨d, hd⟩ : ∃ d : Nat, (d : Int) = e.dst := ⟨e.dst.toNat, by have := hek.d0; omega⟩
   have hdS : d < S := by have := hek.d1; rw [← HSS.out] at this; omega
   have HNX := Lib.hid (anyLv_next (t := t) (c := c) (q := q) hlt (hd.trans (by rw [hee])) HPP.out)
   rw [← hee] at HNX
   rw [← hd] at e3
   obtain ⟨hll2, hla⟩ := labAt_idx hek
   have hl0 : ((e.lab.toNat : Nat) : Int) = e.lab := by have := hek.l0; omega
   have hl1 := hek.l1
   obtain ⟨m, hm⟩ : ∃ m, m = e.lab.toNat := ⟨_, rfl⟩
   have hmt : m < t.labels.length := by omega
   have HLA : Hid (labAt t e = t.labels[m]) := by unfold Hid; subst hm; exact hla
   rw [← hm] at hl0
   have HEE := Lib.hid hee
   rw [← hl0] at e2
   obtain ⟨b, hbb⟩ : ∃ b, anyLv t p c l q j = b := ⟨_, rfl⟩
   rw [hbb] at HI HNX
   have HA := Lib.hid (HI.out.later (box_below wr #[.int .i64 e.src, .int .i64 m, .int .i64 d] 67))
   have HL0 := Lib.hid hl0
   clear hek hee hbb hla hd hll2 hl1 hm hl0
   cases g1 : ((m : Int) == 0)
   ·have hts : Hid (toState t p e q = goTo p q (labAt t e)) := by
     unfold Hid toState
     rw [if_neg]
     rw [← HL0.out]
     simpa using g1
    obtain ⟨al, cl, rfl, hal1, hal2, hlr⟩ := HS1.out
    obtain ⟨bl, ol, rfl, -, hbl, c1⟩ := (hlr.below HI.out.below).one hmt
    simp only [encS, List.getElem?_cons_zero] at c1
    rw [← HLA.out] at c1
    have hmi : (m : Int) < (t.labels.length : Int) := by omega
    obtain ⟨WE, hWE⟩ : ∃ WE, WE = wr.alloc (.cells #[.int .i64 e.src, .int .i64 m, .int .i64 d] 67) := ⟨_, rfl⟩
    have k1 : WE.cell? ⟨wr.heap.size, 1, none⟩ = some (.int .i64 m) := by rw [hWE]; simp
    have k2 : WE.cell? ⟨wr.heap.size, 2, none⟩ = some (.int .i64 d) := by rw [hWE]; simp
    have c2 : WE.cell? ⟨bl, ol + m, none⟩ = some (.string (labAt t e)) := by rw [hWE]; exact keeps (box_below _ _ _) hbl c1
    rw [← hWE] at HA
    have x2 := HA.out.obs.cell 2 rfl
    have x4 := HA.out.obs.cell 4 rfl
    have x5 := HA.out.obs.cell 5 rfl
    have x6 := HA.out.obs.cell 6 rfl
    have x7 := HA.out.obs.cell 7 rfl
    have HWE := Lib.hid hWE
    clear hWE hlr hrow c1
    go_wp2_with fail
    rw [← HWE.out]
    clear HWE e1 e2 e3
    have HQ1E := Lib.hid (HQ1.out.below HA.out.below)
    have HQ2E := Lib.hid (HQ2.out.below HA.out.below)
    have hBE := HA.out.obs.lt
    replace k1 := later_cell (World.block_lt_of_cell? _ _ k1) k1
    replace k2 := later_cell (World.block_lt_of_cell? _ _ k2) k2
    replace c2 := later_cell (World.block_lt_of_cell? _ _ c2) c2
    replace x2 := later_cell hBE x2
    replace x4 := later_cell hBE x4
    replace x5 := later_cell hBE x5
    replace x6 := later_cell hBE x6
    replace x7 := later_cell hBE x7
    refine wp_region_later_tail 14 (by kernel_rfl) (by kernel_rfl) ?_
    simp only [List.take_succ_cons, List.take_zero, List.drop_succ_cons, List.drop_zero]
    repeat (go_big_quiet_step ((go_at_call 50; exact later_call (step_any lo p _ _ q _ _ VP.out SP.out (HQ1E.out.below (Later.h _)) (HQ2E.out.below (Later.h _))))))
    refine wpQuiet_nil ?_
    intro _ hw9
    obtain ⟨nl, hw8⟩ := hw9
    subst hw8
    clear k1 k2 c2 x2 x4 x5 x6 x7
    have HA2 := Lib.hid (HA.out.later nl.h)
    have hgr := goTo_range VP.out q (labAt t e)
    have hgp : goTo p q (labAt t e) < P := by rw [HPP.out]; exact hgr.2
    go_wp2_with fail
    refine (any1L_any bm kb fb ib S P c g gs d _ b _ (HM.out.below HA2.out.below) hdS hgp (HK.out.below HA2.out.below) HA2.out.found (HA2.out.is.cell 0 rfl)).mono ?_
    rintro e' w2 ⟨rfl, hw2⟩
    have HI2 := Lib.hid (HA2.out.found' hf hfz HNE.out hw2)
    rw [hts.out] at HNX
    rw [← HNX.out] at HI2
    clear hw2 hgr hgp
    go_wp2_with fail
    go_roundw
    case rel => exact ⟨j + 1, by omega, by go_num, HI2.out⟩
    case measure => simp [intOf]; omega
   ·have hts : Hid (toState t p e q = q) := by
     unfold Hid toState
     rw [if_pos]
     rw [← HL0.out]
     simpa using g1
    clear hrow
    go_wp2_with fail
    refine (any1L_any bm kb fb ib S P c g gs d q b _ (HM.out.below HA.out.below) hdS h1 (HK.out.below HA.out.below) HA.out.found (HA.out.is.cell 0 rfl)).mono ?_
    rintro e' w2 ⟨rfl, hw2⟩
    have HI2 := Lib.hid (HA.out.found' hf hfz HNE.out hw2)
    rw [hts.out] at HNX
    rw [← HNX.out] at HI2
    clear hw2
    go_wp2_with fail
    go_roundw
    case rel => exact ⟨j + 1, by omega, by go_num, HI2.out⟩
    case measure => simp [intOf]; omega
  ·obtain rfl : j = l.length := by omega
   go_wp2_with fail
   go_end0
   exact ⟨rfl, HI.out.below, by have := HI.out.found; rw [HGO.out] at this; rw [← HLL.out]; exact this⟩

end Go.Proofs.YtmhpfmanagbggaaGreatDoor
