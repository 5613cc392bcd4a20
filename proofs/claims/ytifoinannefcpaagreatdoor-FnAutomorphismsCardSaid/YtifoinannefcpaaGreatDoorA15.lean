/-
  The program's automorphism: whether an order of the states keeps the system.
  The formula that tells two states apart, plainly.
  What the reference's CanStay returns.
  The reference's l14Levels: the classes at the depths up to the one behind which nothing changes.
  The program's orders: all orders of n things.
  The library's slices.ContainsFunc at a slice of slices of numbers, with a function that may lay blocks of its own.
  Lists of lists of lists of texts of the call's own: how they lie in memory; parts of piles.
  The library's slices.DeleteFunc at a slice of rows of numbers of the call's own, with a function that may lay blocks of its own.
  The program's sortedSet and isOrder.
-/
import Derived.Test.YtifoinannefcpaaGreatDoorA14
import Derived.Test.YtifoinannefcpaaGreatDoorA7
import Derived.Test.YtifoinannefcpaaGreatDoorA3
import Derived.Deep.RegionHeld3
import Derived.Deep.AppendLies
import Derived.Maps.AppendAt
import Derived.Test.YtifoinannefcpaaGreatDoorA13
import Derived.Test.YtifoinannefcpaaGreatDoorA5
import Derived.StillTailTactics
import Derived.Test.YtifoinannefcpaaGreatDoorA6
import Derived.Test.YtifoinannefcpaaGreatDoorRows
import Derived.Test.YtifoinannefcpaaGreatDoorA1
import Derived.BigQuiet
import Derived.Deep.QuietTactic
import Derived.Deep.LoopGhost
import Derived.Test.YtifoinannefcpaaGreatDoorA9
namespace Go.Proofs.YtifoinannefcpaaGreatDoor
open Go Go.RowKit


def autB (t : Lts) (o : List Int) : Bool := decide (o.getD t.initial.toNat 0 = t.initial) && decide (sortEs (t.edges.map (mvE o)) = t.edges)
theorem autsL_eq (t : Lts) : autsL t = (ordsL t.states.toNat t.states.toNat).filter (autB t) := rfl
theorem autB_iff {t : Lts} (hr : RiseE t.edges) {o : List Int} (ho : OrdO t.states.toNat o) : autB t o = true ↔ AutO t o := by
 have h := auts_iff (t := t) hr (o := o)
 rw [autsL_eq, List.mem_filter, ords_iff] at h
 exact ⟨fun k => h.1 ⟨ho, k⟩, fun k => (h.2 k).2⟩
theorem info_edgeM : (Tryz.prog.info? 62).map (fun i => (i.zero, i.size, i.bytes)) = some (some (.agg #[.int .i64 0, .int .i64 0, .int .i64 0]), 3, 24) := by kernel_rfl

theorem rowI_in {lo : Nat} {w : World} {v : Value} {xs : List Int} (h : SliceK 1 encI lo w v xs) (hx : xs ≠ []) : ∃ b o c, v = .slice (some ⟨b, o, none⟩) xs.length c ∧ xs.length ≤ c ∧ b < w.heap.size ∧ ∀ j, j < xs.length → w.cell? ⟨b, o + j, none⟩ = some (.int .i64 (xs.getD j 0)) := by
 obtain ⟨a, c, rfl, hn, hc, hrow⟩ := h
 rcases hrow with h0 | ⟨b, o, rfl, -, hb, hcell⟩
 ·exact absurd (List.length_eq_zero_iff.1 h0) hx
 ·refine ⟨b, o, c, rfl, hn, hb, fun j hj => ?_⟩
  have h1 := hcell j hj 0 (by decide)
  simp only [encI, List.getElem?_cons_zero] at h1
  rw [List.getD_eq_getElem?_getD, List.getElem?_eq_getElem hj]
  simpa using h1

set_option maxRecDepth 100000 in
set_option maxHeartbeats 8000000 in
theorem automorphism_any (lo lo2 : Nat) (t : Lts) (lv ev ov : Value) (o : List Int) (w : World) (hv : Valid t) (hord : OrdO t.states.toNat o) (hl : SliceK 1 encS lo w lv t.labels) (he : SliceK 3 encE lo w ev t.edges) (hov : SliceK 1 encI lo2 w ov o) :
  Calls Tryz.prog 21 #[.agg #[.int .i64 t.states, .int .i64 t.initial, lv, ev], ov] w fun e w' => e = .returned (.bool (autB t o)) ∧ Below w.heap.size w w' := by
 have hn : t.edges.length ≤ 1000000 := by have := hv.most; omega
 have HOK : Hid (∀ i (h : i < t.edges.length), EdgeOk t t.edges[i]) := hv.edge
 have HORD := Lib.hid hord
 have hst0 := hv.st0
 have hin0 := hv.in0
 have hin1 := hv.in1
 have HEV := Lib.hid he
 have hone : o ≠ [] := fun e => by
  have := hord.len
  rw [e] at this
  simp at this
  omega
 obtain ⟨bo, oo, co, rfl, hoc1, hbo, hocell⟩ := rowI_in hov hone
 have HOC := Lib.hid hocell
 obtain ⟨al, cl, rfl, -, -, -⟩ := hl
 obtain ⟨ae, ce, rfl, hen, hec, herow⟩ := he
 have HER := Lib.hid herow
 obtain ⟨i0, hi, hz0, hz1, hz2⟩ := info_parts info_edgeM
 obtain ⟨wB, hwB⟩ : ∃ wB, wB = w.alloc (.cells #[.int .i64 t.states, .int .i64 t.initial, .slice al t.labels.length cl, .slice ae t.edges.length ce] 27) := ⟨_, rfl⟩
 have HB0 : Hid (Below w.heap.size w wB) := by unfold Hid; rw [hwB]; exact (Below.refl _ _).alloc (Nat.le_refl _) _
 have HX0 : Hid (Blk wB w.heap.size [.int .i64 t.states, .int .i64 t.initial, .slice al t.labels.length cl, .slice ae t.edges.length ce] 27) := by unfold Hid; rw [hwB]; exact Blk.new w _ _
 have HWB := Lib.hid hwB
 obtain ⟨bx, hbx⟩ : ∃ bx, bx = w.heap.size := ⟨_, rfl⟩
 rw [← hbx] at HX0
 have HBX := Lib.hid hbx
 obtain ⟨B, hB⟩ : ∃ B, B = wB.heap.size := ⟨_, rfl⟩
 have hbxB : bx < B := by rw [hB]; exact HX0.out.lt
 have HBB := Lib.hid hB
 obtain ⟨N, hN⟩ : ∃ N, N = t.edges.length := ⟨_, rfl⟩
 obtain ⟨ON, hON⟩ : ∃ ON, ON = o.length := ⟨_, rfl⟩
 have HONS : Hid (ON = t.states.toNat) := hON.trans hord.len
 rw [← hN] at hen hn HX0 HWB HEV ⊢
 rw [← hON] at hoc1 ⊢
 have HN := Lib.hid hN
 have HON := Lib.hid hON
 have x3 := HX0.out.cell 3 rfl
 clear hord hov herow hwB hbx hB hN hON hv hone hocell
 go_enter Tryz.func21, Tryz.ntmps21
 go_wp2_with fail
 rw [← HWB.out, ← HBX.out]
 clear x3
 go_loopw [5, 11] (fun v5 v11 wr => ∃ (k : Nat) (p5 : Option Addr) (c5 : Nat), k ≤ N ∧ v11 = .int .i64 k ∧ v5 = .slice p5 k c5 ∧ Below B wB wr ∧ wr.ownsRow B 62 3 (.slice p5 k c5) k (((t.edges.take k).map (mvE o)).flatMap encE)) (fun _ v11 _ => N - (intOf v11).toNat)
 case atStart => exact ⟨0, none, 0, Nat.zero_le _, rfl, rfl, Below.refl _ _, World.ownsRow_nil _ _ _ _⟩
 case round =>
  obtain ⟨k, p5, c5, hk, rfl, rfl, hbl, ho⟩ := hrel
  have HBL := Lib.hid hbl
  have HO := Lib.hid ho
  have hsz : B ≤ wr.heap.size := by have := hbl.size; rw [HBB.out]; exact this
  have hbw : Below w.heap.size w wr := HB0.out.trans (hbl.mono (by rw [HBB.out]; exact HB0.out.size))
  have hbow : bo < wr.heap.size := Nat.lt_of_lt_of_le hbo hbw.size
  by_cases hlt : k < N
  ·have hke : k < t.edges.length := by rw [← HN.out]; exact hlt
   obtain ⟨be, oe, rfl, -, hbe, e1, e2, e3⟩ := (HER.out.below hbw).edge hke
   have hek := HOK.out k hke
   have hs0 := hek.s0
   have hs1' := hek.s1
   have hd0 := hek.d0
   have hd1 := hek.d1
   have hONS := HONS.out
   obtain ⟨ms, hms⟩ : ∃ ms : Nat, (ms : Int) = t.edges[k].src := ⟨t.edges[k].src.toNat, by omega⟩
   obtain ⟨md, hmd⟩ : ∃ md : Nat, (md : Int) = t.edges[k].dst := ⟨t.edges[k].dst.toNat, by omega⟩
   have hmsO : ms < ON := by omega
   have hmdO : md < ON := by omega
   have f1 := keeps hbw hbo (HOC.out ms (by rw [← HON.out]; exact hmsO))
   have f2 := keeps hbw hbo (HOC.out md (by rw [← HON.out]; exact hmdO))
   obtain ⟨x, hx⟩ : ∃ x, x = o.getD ms 0 := ⟨_, rfl⟩
   obtain ⟨y, hy⟩ : ∃ y, y = o.getD md 0 := ⟨_, rfl⟩
   rw [← hx] at f1
   rw [← hy] at f2
   obtain ⟨l, hl⟩ : ∃ l, l = t.edges[k].lab := ⟨_, rfl⟩
   have HTK : Hid (((t.edges.take (k + 1)).map (mvE o)).flatMap encE = ((t.edges.take k).map (mvE o)).flatMap encE ++ [.int .i64 x, .int .i64 l, .int .i64 y]) := by
    unfold Hid
    rw [List.take_succ_eq_append_getElem hke, List.map_append, List.flatMap_append, List.map_singleton, List.flatMap_singleton]
    congr 1
    unfold mvE encE
    rw [← hms, ← hmd, Int.toNat_natCast, Int.toNat_natCast, ← hx, ← hy, ← hl]
   rw [← hms] at e1
   rw [← hl] at e2
   rw [← hmd] at e3
   have hmsI : (ms : Int) < (ON : Int) := by omega
   have hmdI : (md : Int) < (ON : Int) := by omega
   obtain ⟨fl, hfl⟩ : ∃ fl, fl = ((t.edges.take k).map (mvE o)).flatMap encE := ⟨_, rfl⟩
   rw [← hfl] at HO HTK
   obtain ⟨W1, hW1⟩ : ∃ W1, W1 = wr.alloc (.cells #[.int .i64 ms, .int .i64 l, .int .i64 md] 62) := ⟨_, rfl⟩
   have hbW : Below wr.heap.size wr W1.drew := by rw [hW1]; exact ((Below.refl _ _).alloc (Nat.le_refl _) _).drew
   have hs1 : W1.heap.size = wr.heap.size + 1 := by rw [hW1]; simp
   have hv1 : Blk W1.drew wr.heap.size [.int .i64 ms, .int .i64 l, .int .i64 md] 62 := by rw [hW1]; exact Blk.new wr _ _
   have P0 := hv1.cell 0 rfl
   have P1 := hv1.cell 1 rfl
   have P2 := hv1.cell 2 rfl
   have P3 := keeps hbW hbow f1
   have P4 := keeps hbW hbow f2
   have HO1 : Hid (W1.drew.ownsRow B 62 3 (.slice p5 k c5) k fl) := owns_below HO.out hbW
   have hnew : ((W1.alloc (.cells #[.int .i64 x, .int .i64 l, .int .i64 y] 62)).drew).heap[wr.heap.size + 1]? = some (.cells #[.int .i64 x, .int .i64 l, .int .i64 y] 62 (0, 0)) := by
    have h1 := heap_alloc_new W1 (.cells #[.int .i64 x, .int .i64 l, .int .i64 y] 62)
    rw [hs1] at h1
    exact h1
   have hA5 : Below W1.drew.heap.size W1.drew ((W1.alloc (.cells #[.int .i64 x, .int .i64 l, .int .i64 y] 62)).drew) := ⟨rfl, rfl, rfl, by simp, fun k hk => Go.RowKit.Below.heap_alloc W1 _ k (by simpa using hk)⟩
   have hsd : W1.drew.heap.size = wr.heap.size + 1 := by simpa using hs1
   have R0 := keeps hA5 (by omega) P0
   have R1 := keeps hA5 (by omega) P1
   have R2 := keeps hA5 (by omega) P2
   have R3 := keeps hA5 (by omega) P3
   have R4 := keeps hA5 (by omega) P4
   have HO2 := Lib.hid (owns_below HO1.out hA5)
   have HA5 := Lib.hid hA5
   have n0 : some wr.heap.size ≠ (Value.slice p5 k c5).ownBlock := fun e => by have := (ho.lt _ e.symm).2; omega
   have n3 : some bo ≠ (Value.slice p5 k c5).ownBlock := fun e => by have h1 := (ho.lt _ e.symm).1; have h2 := HB0.out.size; have h3 := HBB.out; omega
   have HW1 := Lib.hid hW1
   have HBW := Lib.hid hbW
   obtain ⟨sz, hsz1⟩ : ∃ sz, sz = wr.heap.size := ⟨_, rfl⟩
   rw [← hsz1] at P0 P1 P2 R0 R1 R2 hnew n0 hs1 hbow hsz
   have HSZ := Lib.hid hsz1
   clear hbl ho hbw hke hek hl hfl hW1 hbW hv1 hsz1 hA5 hsd hms hmd hx hy f1 f2 hs0 hs1' hd0 hd1 hONS hmsO hmdO
   go_wp2
   rw [← HW1.out, ← HSZ.out]
   go_region_held3 (fun w' => w'.cell? ⟨sz, 0, none⟩ = some (.int .i64 ms) ∧ w'.cell? ⟨sz, 1, none⟩ = some (.int .i64 l) ∧ w'.cell? ⟨sz, 2, none⟩ = some (.int .i64 md) ∧ w'.cell? ⟨bo, oo + ms, none⟩ = some (.int .i64 x) ∧ w'.cell? ⟨bo, oo + md, none⟩ = some (.int .i64 y))
    (first
     | (refine ⟨?_, ?_, ?_, ?_, ?_⟩ <;> assumption)
     | go_keep)
    (first
     | (refine step_append_lies _ (by rfl) _ _ _ (by rfl) B 62 i0 _ 3 24 Tryz.underlying25 hi hz0 hz1 hz2 rfl (by omega) (.slice p5 k c5) k fl (by rfl) HO2.out ⟨sz + 1, 0, none⟩ 1 1 [.int .i64 x, .int .i64 l, .int .i64 y] (by rfl) (by rfl) (World.news_of_block (cs := #[.int .i64 x, .int .i64 l, .int .i64 y]) (t := 62) (fr := (0, 0)) hnew) (by simp [Value.oneCell']) (by omega) (by first | omega | (simp [maxLen]; omega)) (by first | omega | (simp; omega)) (by first | omega | (simp; omega)) (sz + 2) (by first | omega | (simp; omega)) ?_; intro gg cap w5 hown5 hgrow5 hat5 hlt5; have z0 := (hgrow5.cell_far ⟨sz, 0, none⟩ (by simp; omega) n0).trans R0; have z1 := (hgrow5.cell_far ⟨sz, 1, none⟩ (by simp; omega) n0).trans R1; have z2 := (hgrow5.cell_far ⟨sz, 2, none⟩ (by simp; omega) n0).trans R2; have z3 := (hgrow5.cell_far ⟨bo, oo + ms, none⟩ (by simp; omega) n3).trans R3; have z4 := (hgrow5.cell_far ⟨bo, oo + md, none⟩ (by simp; omega) n3).trans R4))
   all_goals (
    have hsw : B ≤ W1.drew.heap.size := by simp; omega
    have HB5 : Hid (Below B wB w5) := ((HBL.out.trans (HBW.out.mono (by rw [← HSZ.out]; exact hsz))).trans (HA5.out.mono hsw)).grown hgrow5 (by simp; omega) (fun b e => (HO2.out.lt b e).1)
    have HO5 : Hid (w5.ownsRow B 62 3 (.slice (some ⟨gg, 0, none⟩) (k + 1) cap) (k + 1) (((t.edges.take (k + 1)).map (mvE o)).flatMap encE)) := by
     unfold Hid
     rw [HTK.out]
     exact hown5
    clear hown5 hgrow5 hat5 hlt5 z0 z1 z2 z3 z4 P0 P1 P2 P3 P4 R0 R1 R2 R3 R4 hnew
    go_wp2
    go_roundw
    case rel => exact ⟨k + 1, _, _, by omega, by go_num, rfl, HB5.out, HO5.out⟩
    case measure => simp [intOf]; omega)
  ·have hkN : k = N := by omega
   obtain ⟨ms, hms⟩ : ∃ ms, ms = t.edges.map (mvE o) := ⟨_, rfl⟩
   have hml : ms.length = N := by rw [hms, List.length_map, HN.out]
   have HO2 : Hid (wr.ownsRow B 62 3 (.slice p5 N c5) ms.length (ms.flatMap encE)) := by
    have := HO.out
    rw [hkN, HN.out, List.take_length] at this
    rw [hms, List.length_map, HN.out]
    exact this
   have HS := Lib.hid (SortEs_own B _ ms wr HO2.out (by omega))
   have HMS := Lib.hid hms
   have HML := Lib.hid hml
   clear hbl ho hms hml HO
   subst hkN
   go_wp2_with fail
   refine Calls.mono HS.out ?_
   rintro e w2 ⟨rfl, ho2, hg2⟩
   have hb2 : Below B wB w2 := HBL.out.grown hg2 hsz (fun b e => (HO2.out.lt b e).1)
   have hbw2 : Below w.heap.size w w2 := HB0.out.trans (hb2.mono (by rw [HBB.out]; exact HB0.out.size))
   have hONS := HONS.out
   obtain ⟨mi, hmi⟩ : ∃ mi : Nat, (mi : Int) = t.initial := ⟨t.initial.toNat, by omega⟩
   have hmiO : mi < ON := by omega
   have hmiI : (mi : Int) < (ON : Int) := by omega
   have hX2 := HX0.out.belowB hb2 hbxB
   have x1 := hX2.cell 1 rfl
   have x3 := hX2.cell 3 rfl
   rw [← hmi] at x1
   have hbx2 : bx < w2.heap.size := hX2.lt
   have f1 := keeps hbw2 hbo (HOC.out mi (by rw [← HON.out]; exact hmiO))
   have hbo2 : bo < w2.heap.size := Nat.lt_of_lt_of_le hbo hbw2.size
   obtain ⟨x, hx⟩ : ∃ x, x = o.getD mi 0 := ⟨_, rfl⟩
   rw [← hx] at f1
   have s1 := later_cell hbx2 x1
   have s3 := later_cell hbx2 x3
   have s2 := later_cell hbo2 f1
   have hsm : SliceK 3 encE B w2 (.slice p5 k c5) (sortEs ms) := SliceK.of_owns (enc := encE) (e := 62) encE_len (by rw [sortEs_len]) ho2
   have HEQ : Hid (∀ w' : Later w2, Calls Tryz.prog 48 #[.slice p5 k c5, .slice ae k ce] w'.w fun e w'' => e = .returned (.bool (decide (sortEs ms = t.edges))) ∧ Below w'.w.heap.size w'.w w'') := fun w' => EqualEd_any B lo _ _ _ _ w'.w (by rw [sortEs_len, HML.out]; exact hn) (hsm.below w'.h) (HEV.out.below (hbw2.trans (w'.h.mono hbw2.size)))
   have HBW2 := Lib.hid hbw2
   obtain ⟨q, hq⟩ : ∃ q, q = decide (sortEs ms = t.edges) := ⟨_, rfl⟩
   rw [← hq] at HEQ
   have HR : Hid (autB t o = (((x : Int) == (mi : Int)) && q)) := by
    unfold Hid autB
    rw [hq, hx, HMS.out, hmi, ← hmi, Int.toNat_natCast]
    congr 1
   clear hb2 hbw2 hX2 x1 x3 f1 ho2 hg2 HS hq hx hmi hONS hmiO hsm
   cases hxm : ((x : Int) == (mi : Int))
   ·go_wp2
    refine wp_region_later (by kernel_rfl) (by kernel_rfl) ?_
    repeat (go_big_quiet_step ((fail)))
    refine wpQuiet_nil ?_
    intro _ hw9
    obtain ⟨nl, hw8⟩ := hw9
    subst hw8
    go_wp2
    go_ret
    exact ⟨by rw [HR.out, hxm]; rfl, HBW2.out.trans (nl.h.mono HBW2.out.size)⟩
   ·go_wp2
    refine wp_region_later (by kernel_rfl) (by kernel_rfl) ?_
    repeat (go_big_quiet_step (((go_at_call 48; refine later_call (HEQ.out _)))))
    refine wpQuiet_nil ?_
    intro _ hw9
    obtain ⟨nl, hw8⟩ := hw9
    subst hw8
    go_wp2
    go_ret
    exact ⟨by rw [HR.out, hxm]; rfl, HBW2.out.trans (nl.h.mono HBW2.out.size)⟩

end Go.Proofs.YtifoinannefcpaaGreatDoor

namespace Go.Proofs.YtifoinannefcpaaGreatDoor
open Go Go.RowKit


theorem levs_len (t : Lts) : (levs t).length = lastR t + 1 := by simp [levs]
theorem levs_get {t : Lts} {k : Nat} (h : k < lastR t + 1) : (levs t)[k]? = some (lev t k) := by
 unfold levs
 rw [List.getElem?_map, List.getElem?_range h]
 rfl
end Go.Proofs.YtifoinannefcpaaGreatDoor

namespace Go.Proofs.YtifoinannefcpaaGreatDoor
open Go Go.RowKit


/-- A slice of slices of numbers in memory of the call's own. -/
def MadeIntss (xss : List (List Int)) (w : World) (e : Ending) (w' : World) : Prop :=
 ∃ v vs, e = .returned v ∧ Below w.heap.size w w' ∧ OwnIntss 32 2 w.heap.size w' v vs xss

end Go.Proofs.YtifoinannefcpaaGreatDoor

namespace Go.Proofs.YtifoinannefcpaaGreatDoor
open Go Go.RowKit


theorem info_sliceL : (Tryz.prog.info? 32).map (fun i => (i.zero, i.size, i.bytes)) = some (some (.slice none 0 0), 1, 24) := by kernel_rfl
theorem levs_take (t : Lts) (k : Nat) : (List.range (k + 1 + 1)).map (lev t) = (List.range (k + 1)).map (lev t) ++ [lev t (k + 1)] := by
 rw [List.range_succ, List.map_append]
 rfl
/-- Rows that are one row. -/
theorem owns_one {lo : Nat} {w : World} {v pv : Value} {xs : List Int} (h : w.ownsRow lo 32 1 v 1 [pv]) (hp : w.ownsRow lo 2 1 pv xs.length (xs.map (Value.int .i64))) : OwnIntss 32 2 lo w v [pv] [xs] := by
 have h0 : ∀ (i : Nat) (h : i < [pv].length), [pv][i] = pv := fun i hi => by
  have : i = 0 := by simpa using hi
  subst this
  rfl
 refine ⟨rfl, h, fun i hi hi' => ?_, fun i j hi hj hij => ?_, fun i hi => ?_⟩
 ·have : i = 0 := by simpa using hi
  subst this
  exact hp
 ·have e1 : i = 0 := by simpa using hi
  have e2 : j = 0 := by simpa using hj
  omega
 ·rw [h0 i hi]
  exact own_types hp h (by decide)

end Go.Proofs.YtifoinannefcpaaGreatDoor

namespace Go.Proofs.YtifoinannefcpaaGreatDoor
open Go Go.RowKit


theorem any_contains (o : List Int) (i : Int) : (o.any fun y => y == i) = o.contains i := by
 rw [Bool.eq_iff_iff, List.any_eq_true, List.contains_iff_mem]
 constructor
 ·rintro ⟨y, hy, e⟩
  rw [beq_iff_eq] at e
  exact e ▸ hy
 ·intro h
  exact ⟨i, h, beq_self_eq_true i⟩
theorem intss_nil (eo ei B : Nat) (w : World) : OwnIntss eo ei B w (.slice none 0 0) [] [] :=
 ⟨rfl, World.ownsRow_nil _ _ _ _, fun _ h => absurd h (Nat.not_lt_zero _), fun _ _ h => absurd h (Nat.not_lt_zero _), fun _ h => absurd h (Nat.not_lt_zero _)⟩

set_option maxRecDepth 100000 in
set_option maxHeartbeats 8000000 in
theorem orders_any (n : Nat) (w : World) (hn : n ≤ 6) : Calls Tryz.prog 19 #[.int .i64 n] w (MadeIntss (ordsL n n) w) := by
 obtain ⟨i1, hi1, hy0, hy1, hy2⟩ := info_parts info_int64N
 obtain ⟨i2, hi2, hz20, hz21, hz22⟩ := info_parts info_sliceL
 obtain ⟨W, hW⟩ : ∃ W, W = w.alloc (.cells #[.slice none 0 0] 32) := ⟨_, rfl⟩
 have hal : Below w.heap.size w W := by rw [hW]; exact (Below.refl _ _).alloc (Nat.le_refl _) _
 have HO : Hid (OwnIntss 32 2 w.heap.size W (.slice (some ⟨w.heap.size, 0, none⟩) 1 1) [.slice none 0 0] (ordsL n 0)) := by
  have h2 := World.ownsRow_lit (base := w.heap.size) (size := 1) w #[.slice none 0 0] (e := 32) 1 (Nat.le_refl _) (by simp [maxLen]) rfl
  rw [← hW] at h2
  exact owns_one h2 (World.ownsRow_nil _ _ _ _)
 have HB := Lib.hid hal
 have HW := Lib.hid hW
 clear hW hal
 go_enter Tryz.func19, Tryz.ntmps19
 go_wp2_with fail
 rw [← HW.out]
 go_loopw [3, 10] (fun v3 v10 wr => ∃ (k : Nat) (p : Option Addr) (c : Nat) (vs : List Value), k ≤ n ∧ v3 = .slice p vs.length c ∧ v10 = .int .i64 k ∧ Below w.heap.size w wr ∧ OwnIntss 32 2 w.heap.size wr (.slice p vs.length c) vs (ordsL n k)) (fun _ v10 _ => n - (intOf v10).toNat)
 case atStart => exact ⟨0, _, _, _, Nat.zero_le _, rfl, rfl, HB.out, HO.out⟩
 case round =>
  clear HO HB HW
  obtain ⟨k, p, c, vs, hk, rfl, rfl, hbl, ho⟩ := hrel
  obtain ⟨wC, rfl⟩ : ∃ wC : World, wC = wr := ⟨_, rfl⟩
  have HBL := Lib.hid hbl
  have HO := Lib.hid ho
  have hszC := hbl.size
  by_cases hlt : k < n
  ·obtain ⟨L, hL⟩ : ∃ L, L = ordsL n k := ⟨_, rfl⟩
   have hfew : L.length ≤ 46656 := by rw [hL]; exact ordsL_few hn (by omega)
   have HNX : Hid (nextO L n L.length 0 = ordsL n (k + 1)) := by unfold Hid; rw [hL]; exact nextO_all n k
   rw [← hL] at HO ho
   have hvl : vs.length = L.length := ho.1
   obtain ⟨M, hM⟩ : ∃ M, M = vs.length := ⟨_, rfl⟩
   rw [← hM] at HO
   have HM := Lib.hid hM
   have HL := Lib.hid hL
   have HML : Hid (M = L.length) := hM.trans hvl
   have hM4 : M ≤ 46656 := by omega
   rw [← hM]
   clear hbl ho hL hM hvl hfew
   go_wp2_with fail
   go_loopw [4, 14] (fun v4 v14 wr => ∃ (m : Nat) (p4 : Option Addr) (c4 : Nat) (us : List Value), m ≤ M ∧ v4 = .slice p4 us.length c4 ∧ v14 = .int .i64 m ∧ Below wC.heap.size wC wr ∧ OwnIntss 32 2 wC.heap.size wr (.slice p4 us.length c4) us (nextO L n m 0)) (fun _ v14 _ => M - (intOf v14).toNat)
   case atStart => exact ⟨0, none, 0, [], Nat.zero_le _, rfl, rfl, Below.refl _ _, by rw [nextO_zero]; exact intss_nil _ _ _ _⟩
   case round =>
    obtain ⟨m, p4, c4, us, hm, rfl, rfl, hbl, ho⟩ := hrel
    obtain ⟨wD, rfl⟩ : ∃ wD : World, wD = wr := ⟨_, rfl⟩
    have HBD := Lib.hid hbl
    have HU := Lib.hid ho
    have hszD := hbl.size
    by_cases hlm : m < M
    ·have hOD := HO.out.below hbl
     have hmv : m < vs.length := by have := HM.out; omega
     have hmL : m < L.length := by have := HML.out; omega
     have hrow := HO.out.2.2.1 m hmv hmL
     have hh : wD.ownsRow w.heap.size 32 1 (.slice p M c) vs.length vs := hOD.2.1
     obtain ⟨g3, cap3, e3, -, -⟩ := hh.form (by omega)
     simp only [Value.slice.injEq] at e3
     obtain ⟨rfl, -, rfl⟩ := e3
     rw [HM.out] at hh
     have z0 := hh.cellAt m (by omega)
     rw [List.getElem?_eq_getElem hmv] at z0
     obtain ⟨o, hoo⟩ : ∃ o, o = L[m] := ⟨_, rfl⟩
     obtain ⟨rv, hrv⟩ : ∃ rv, rv = vs[m] := ⟨_, rfl⟩
     rw [← hrv] at z0 hrow
     rw [← hoo] at hrow
     obtain ⟨oa, oc, rfl, -, -⟩ := owns_slice hrow
     have HROW := Lib.hid hrow
     have HOM : Hid (L.getD m [] = o) := by unfold Hid; rw [getD_eq2 hmL, hoo]
     have HEND : Hid (nextO L n m n = nextO L n (m + 1) 0) := nextO_end L n m hmL
     have hol : o.length ≤ 6 := by
      have h := ((ordsL_iff n k o).1 (by rw [← HL.out, hoo]; exact List.getElem_mem _)).1
      omega
     have HNLEN : Hid (∀ i, i ≤ n → (nextO L n m i).length ≤ 300000) := fun i hi => by
      have h := nextO_len L n m i (by omega)
      have h2 := HML.out
      have h3 := Nat.mul_le_mul (show L.length ≤ 46656 by omega) hn
      omega
     obtain ⟨ON, hON⟩ : ∃ ON, ON = o.length := ⟨_, rfl⟩
     rw [← hON] at z0 hol
     have HON := Lib.hid hON
     clear hbl ho hOD hmv hmL hrow hh hoo hrv hON
     go_wp2_with fail
     go_loopw [4, 19] (fun v4 v19 wr => ∃ (i : Nat) (p4 : Option Addr) (c4 : Nat) (us : List Value), i ≤ n ∧ v4 = .slice p4 us.length c4 ∧ v19 = .int .i64 i ∧ Below wC.heap.size wC wr ∧ OwnIntss 32 2 wC.heap.size wr (.slice p4 us.length c4) us (nextO L n m i)) (fun _ v19 _ => n - (intOf v19).toNat)
     case atStart => exact ⟨0, _, _, _, Nat.zero_le _, rfl, rfl, HBD.out, HU.out⟩
     case round =>
      clear HBD HU z0
      obtain ⟨i, p5, c5, us5, hi, rfl, rfl, hbl, ho⟩ := hrel
      obtain ⟨wE, rfl⟩ : ∃ wE : World, wE = wr := ⟨_, rfl⟩
      have HBE := Lib.hid hbl
      have HUE := Lib.hid ho
      have hszE := hbl.size
      by_cases hli : i < n
      ·have hro := owns_below HROW.out hbl
       have hsl : SliceK 1 encI w.heap.size wE (.slice oa o.length oc) o := SliceK.of_owns (enc := encI) (e := 2) encI_len rfl (by rw [flat_encI]; exact hro)
       have HC := Lib.hid (Contains_ints _ _ (i : Int) o wE hsl)
       have HCL := Lib.hid (Clone_own _ _ o wE hsl (by have := HON.out; omega))
       have hst := nextO_step L n m i
       rw [any_contains, ← HON.out] at HC
       rw [← HON.out] at HCL
       rw [HOM.out] at hst
       have hul : us5.length ≤ 300000 := by rw [ho.1]; exact HNLEN.out i (by omega)
       obtain ⟨b, hb⟩ : ∃ b, b = o.contains (i : Int) := ⟨_, rfl⟩
       rw [← hb] at HC hst
       clear hbl ho hro hsl hb
       cases b
       ·have HST : Hid (nextO L n m (i + 1) = nextO L n m i ++ [o ++ [(i : Int)]]) := hst
        clear hst
        go_wp2_with fail
        refine Calls.mono HC.out ?_
        rintro e w0 ⟨rfl, rfl⟩
        go_wp2_with fail
        refine Calls.mono HCL.out ?_
        rintro e w1 ⟨v1, rfl, ho1, hb1⟩
        obtain ⟨a1, c1, rfl, -, -⟩ := owns_slice ho1
        have HO1 := Lib.hid ho1
        have HB1 := Lib.hid hb1
        have hs1 := hb1.size
        clear ho1 hb1 HC HCL
        go_wp2_with (at_builtin; refine wpList_append_own _ rfl _ _ 32 rfl wE.heap.size 2 i1 (.int .i64 0) 1 8 Tryz.underlying32 hi1 hy0 hy1 hy2 rfl (by decide) _ ON _ rfl (HO1.out.alloc _) ⟨w1.heap.size, 0, none⟩ 1 1 [.int .i64 i] rfl rfl ?c1 ?c2 ?c3 ?c4 ?c5 ?_)
        case c1 => exact World.news_of_block (cs := #[.int .i64 i]) (t := 2) (fr := (0, 0)) (heap_alloc_new _ _)
        case c2 => intro u hu; simp at hu; subst hu; rfl
        case c3 => simp [maxLen]; omega
        case c4 => omega
        case c5 => first | omega | (simp; omega)
        intro v6 w6 ho6 hg6 _
        obtain ⟨a6, c6, rfl, -, -⟩ := owns_slice ho6
        have hb6 : Below wE.heap.size wE w6 := (HB1.out.alloc hs1 _).grown hg6 (by simp; omega) (fun b e => (HO1.out.lt b e).1)
        have hs6 := hb6.size
        have HO6 := Lib.hid ho6
        have HB6 := Lib.hid hb6
        have hor := (HUE.out.below hb6).2.1
        have HOR := Lib.hid hor
        clear ho6 hg6 hb6 hor HO1 HB1
        go_wp2_with (at_builtin; refine wpList_append_own _ rfl _ _ 29 rfl wC.heap.size 32 i2 (.slice none 0 0) 1 24 Tryz.underlying29 hi2 hz20 hz21 hz22 rfl (by decide) _ us5.length _ rfl (HOR.out.alloc _) ⟨w6.heap.size, 0, none⟩ 1 1 [.slice a6 (ON + 1) c6] rfl rfl ?c1 ?c2 ?c3 ?c4 ?c5 ?_)
        case c1 => exact World.news_of_block (cs := #[.slice a6 (ON + 1) c6]) (t := 32) (fr := (0, 0)) (heap_alloc_new _ _)
        case c2 => intro u hu; simp at hu; subst hu; rfl
        case c3 => simp [maxLen]; omega
        case c4 => omega
        case c5 => first | omega | (simp; omega)
        intro v7 w7 ho7 hg7 _
        obtain ⟨a7, c7, rfl, -, -⟩ := owns_slice ho7
        have hal : Below w6.heap.size w6 (w6.alloc (.cells #[.slice a6 (ON + 1) c6] 32)) := (Below.refl _ _).alloc (Nat.le_refl _) _
        have hbE : Below wE.heap.size wE (w6.alloc (.cells #[.slice a6 (ON + 1) c6] 32)) := HB6.out.trans (hal.mono hs6)
        have HU7 : Hid (OwnIntss 32 2 wC.heap.size w7 (.slice a7 (us5 ++ [Value.slice a6 (ON + 1) c6]).length c7) (us5 ++ [Value.slice a6 (ON + 1) c6]) (nextO L n m (i + 1))) := by
         unfold Hid
         rw [HST.out]
         have h := OwnIntss.push (B := wE.heap.size) (xs := o ++ [(i : Int)]) (by decide) HUE.out (Nat.le_refl _) hbE (by have h := owns_below HO6.out hal; rw [List.length_append, List.map_append, ← HON.out]; exact h) hszE hg7 ho7
         rw [List.length_append]
         exact h
        have HB7 : Hid (Below wC.heap.size wC w7) := (HBE.out.trans (hbE.mono hszE)).grown hg7 (by simp; omega) (fun b e => (HOR.out.lt b e).1)
        have HL7 : Hid ((us5 ++ [Value.slice a6 (ON + 1) c6]).length = us5.length + 1) := by unfold Hid; simp
        clear ho7 hg7 hal hbE
        go_wp2
        go_roundw
        case rel => exact ⟨i + 1, a7, c7, us5 ++ [Value.slice a6 (ON + 1) c6], by omega, by rw [HL7.out], by go_num, HB7.out, HU7.out⟩
        case measure => simp [intOf]; omega
       ·have HST : Hid (nextO L n m (i + 1) = nextO L n m i) := by unfold Hid; rw [hst]; simp
        clear hst HCL
        go_wp2_with fail
        refine Calls.mono HC.out ?_
        rintro e w0 ⟨rfl, rfl⟩
        go_wp2_with fail
        go_roundw
        case rel => exact ⟨i + 1, p5, c5, us5, by omega, rfl, by go_num, HBE.out, by rw [HST.out]; exact HUE.out⟩
        case measure => simp [intOf]; omega
      ·obtain rfl : i = n := by omega
       clear hbl ho
       go_wp2
       go_roundw
       case rel => exact ⟨m + 1, p5, c5, us5, by omega, rfl, by go_num, HBE.out, by rw [← HEND.out]; exact HUE.out⟩
       case measure => simp [intOf]; omega
    ·have hmM : m = M := by omega
     have HU2 : Hid (OwnIntss 32 2 wC.heap.size wD (.slice p4 us.length c4) us (ordsL n (k + 1))) := by
      have h := HU.out
      rw [hmM, HML.out, HNX.out] at h
      exact h
     have HB2 : Hid (Below w.heap.size w wD) := HBL.out.trans (hbl.mono hszC)
     clear hbl ho hmM
     go_wp2
     go_roundw
     case rel => exact ⟨k + 1, p4, c4, us, by omega, rfl, by go_num, HB2.out, HU2.out.lower hszC⟩
     case measure => simp [intOf]; omega
  ·obtain rfl : k = n := by omega
   clear hbl ho
   go_wp2
   go_ret
   exact ⟨_, vs, rfl, HBL.out, HO.out⟩

end Go.Proofs.YtifoinannefcpaaGreatDoor

namespace Go.Proofs.YtifoinannefcpaaGreatDoor
open Go Go.RowKit


theorem fstP_neg {P : Nat → Bool} {n : Nat} (h : fstP P n = -1) : ∀ j, j < n → P j = false := by
 intro j hj
 unfold fstP at h
 by_cases hf : (List.range n).findIdx P < n
 ·rw [if_pos hf] at h
  omega
 ·cases hp : P j
  ·rfl
  ·exact absurd (List.findIdx_lt_length.2 ⟨j, List.mem_range.2 hj, hp⟩) (by rw [List.length_range]; exact hf)
theorem fstP_pos {P : Nat → Bool} {n : Nat} (h : fstP P n ≠ -1) : ∃ k : Nat, fstP P n = (k : Int) ∧ k < n ∧ P k = true ∧ ∀ j, j < k → P j = false := by
 unfold fstP at h ⊢
 by_cases hf : (List.range n).findIdx P < n
 ·rw [if_pos hf]
  refine ⟨_, rfl, hf, ?_, fun j hj => ?_⟩
  ·have h2 := List.findIdx_getElem (w := show (List.range n).findIdx P < (List.range n).length by simpa using hf)
   rwa [List.getElem_range] at h2
  ·have h2 := List.not_of_lt_findIdx hj
   simpa using h2
 ·rw [if_neg hf] at h
  exact absurd rfl h
theorem ContainsFuncL (lo : Nat) (v : Value) (vs : List Value) (fid : Nat) (caps : Array Value) (P : Nat → Bool) (w : World) (hv : SliceK 1 encV lo w v vs) (eg : ∀ args w, (callFunc fid args).run Tryz.prog w = .ok (.enter fid args) w) (hP : AskK fid caps P vs w.heap.size w) (hN : ∀ i, i < vs.length → P i = false) :
  Calls Tryz.prog 23 #[v, .func (.func fid) #[] caps] w fun e w' => e = .returned (.bool false) ∧ Below w.heap.size w w' := by
 have HC := Lib.hid (IndexFuncK lo v vs fid caps P w hv eg hP)
 rw [fstP_none hN] at HC
 clear hP hN
 go_enter Tryz.func23, Tryz.ntmps23
 go_wp2_with fail
 refine Calls.mono HC.out ?_
 rintro e w' ⟨rfl, hb⟩
 have HB := Lib.hid hb
 clear hb
 go_wp2_with fail
 go_ret
 exact ⟨rfl, HB.out⟩

end Go.Proofs.YtifoinannefcpaaGreatDoor

namespace Go.Proofs.YtifoinannefcpaaGreatDoor
open Go Go.RowKit


/-- Some rows of a pile, each once. -/
theorem Pile.pick {ei lo : Nat} {w : World} {vs : List Value} {css : List (List Value)} (h : Pile ei lo w vs css) (ls : List Nat) (hn : ls.Nodup) (hl : ∀ i ∈ ls, i < vs.length) (z : Value) : Pile ei lo w (ls.map fun i => vs.getD i z) (ls.map fun i => css.getD i []) := by
 have hg : ∀ i (h : i < vs.length), vs.getD i z = vs[i] := fun i h => by rw [List.getD_eq_getElem?_getD, List.getElem?_eq_getElem h]; rfl
 have hc : ∀ i (h : i < css.length), css.getD i [] = css[i] := fun i h => by rw [List.getD_eq_getElem?_getD, List.getElem?_eq_getElem h]; rfl
 have hlen := h.len
 refine ⟨by simp, fun i hi hi' => ?_, fun i j hi hj hij => ?_⟩
 ·rw [List.length_map] at hi
  have hb := hl ls[i] (List.getElem_mem _)
  simp only [List.getElem_map]
  rw [hg _ hb, hc _ (by omega)]
  exact h.row _ hb (by omega)
 ·rw [List.length_map] at hi hj
  simp only [List.getElem_map]
  have hb := hl ls[i] (List.getElem_mem _)
  have hb2 := hl ls[j] (List.getElem_mem _)
  rw [hg _ hb, hg _ hb2]
  refine h.far _ _ hb hb2 fun e => hij ?_
  have hp := List.pairwise_iff_getElem.1 (List.nodup_iff_pairwise_ne.1 hn)
  rcases Nat.lt_trichotomy i j with h1 | h1 | h1
  ·exact absurd e (hp i j hi hj h1)
  ·exact h1
  ·exact absurd e.symm (hp j i hj hi h1)
end Go.Proofs.YtifoinannefcpaaGreatDoor

namespace Go.Proofs.YtifoinannefcpaaGreatDoor
open Go Go.RowKit


def hdL (vs : List Value) (i : Nat) : Value := vs.getD i (.slice none 0 0)
theorem hdL_lt {vs : List Value} {i : Nat} (h : i < vs.length) : hdL vs i = vs[i] := by unfold hdL; rw [List.getD_eq_getElem?_getD, List.getElem?_eq_getElem h]; rfl
theorem range_hdL (vs : List Value) : (List.range vs.length).map (hdL vs) = vs := by
 apply List.ext_getElem
 ·simp
 ·intro i h1 h2
  rw [List.getElem_map, List.getElem_range, hdL_lt h2]
/-- The places that are kept. -/
def keepP (P : Nat → Bool) (n : Nat) : List Nat := (List.range n).filter fun i => !P i
theorem Pile.cellsL {lo g n c i : Nat} {w : World} {vs : List Value} {css : List (List Value)} {cs : List Value} (h : Pile 2 lo w vs css) (hc : CellsAt w g 32 n c cs) (u : Value) : Pile 2 lo (w.setCell ⟨g, i, none⟩ u) vs css := by
 obtain ⟨r, hr, -⟩ := hc.blk
 exact h.set hr (by decide) i u
theorem Pile.cellsLN {lo g n c : Nat} {vs : List Value} {css : List (List Value)} (z : Value) : ∀ (m i : Nat) {w : World} {cs : List Value}, Pile 2 lo w vs css → CellsAt w g 32 n c cs → i + m ≤ n → Pile 2 lo (w.setCells g i (List.replicate m z)) vs css
 | 0, i, w, cs, h, _, _ => h
 | m + 1, i, w, cs, h, hc, hi => by
  rw [List.replicate_succ, World.setCells]
  exact Pile.cellsLN z m (i + 1) (h.cellsL hc z) (hc.set i (by omega) z) (by omega)
theorem Pile.sliceL {lo : Nat} {w : World} {vs : List Value} {css : List (List Value)} (h : Pile 2 lo w vs css) {i : Nat} (hi : i < vs.length) : ∃ a n c, vs[i] = .slice a n c := by
 obtain ⟨a, c, e, -, -⟩ := owns_slice (h.row i hi (by rw [← h.len]; exact hi))
 exact ⟨a, _, c, e⟩

set_option maxRecDepth 100000 in
set_option maxHeartbeats 2000000 in
theorem DeleteFuncL (B : Nat) (v : Value) (vs : List Value) (css : List (List Value)) (fid : Nat) (caps : Array Value) (P : Nat → Bool) (w0 w : World) (hp : Pile 2 B w vs css) (ho : w.ownsRow B 32 1 v vs.length vs) (hb : Below B w0 w) (hB : B ≤ w.heap.size)
  (eg : ∀ args w, (callFunc fid args).run Tryz.prog w = .ok (.enter fid args) w)
  (hP : ∀ w', Below B w0 w' → Pile 2 B w' vs css → ∀ i (h : i < vs.length), Calls Tryz.prog fid (#[vs[i]] ++ caps) w' fun e w'' => e = .returned (.bool (P i)) ∧ Below w'.heap.size w' w'') :
  Calls Tryz.prog 18 #[v, .func (.func fid) #[] caps] w fun e w' => ∃ v', e = .returned v' ∧ Below B w0 w' ∧ w'.ownsRow B 32 1 v' (keepP P vs.length).length ((keepP P vs.length).map (hdL vs)) ∧ Pile 2 B w' vs css := by
 have HP := Lib.hid hP
 have HB := Lib.hid hb
 have HO := Lib.hid ho
 have HPI := Lib.hid hp
 have HIX := Lib.hid (IndexFuncK B v vs fid caps P w (SliceK.of_owns (e := 32) encV_len rfl (by rw [flat_encV]; exact ho)) eg fun w' hb' i hi => hP w' (hb.trans (hb'.mono hB)) (hp.below hb') i hi)
 have HHB := Lib.hid hB
 obtain ⟨a, c, rfl, hnc, hcc⟩ := owns_slice ho
 obtain ⟨nx, hnx⟩ : ∃ nx, nx = vs.length := ⟨_, rfl⟩
 have HNX := Lib.hid hnx
 rw [← hnx] at HIX hnc ⊢
 obtain ⟨r, hr⟩ : ∃ r, r = fstP P nx := ⟨_, rfl⟩
 rw [← hr] at HIX
 have HRI := Lib.hid hr
 clear hP hb ho hB hr hnx hp
 by_cases hneg : r = -1
 ·subst hneg
  have HF : Hid ((keepP P nx).map (hdL vs) = vs ∧ (keepP P nx).length = nx) := by
   have h1 : keepP P nx = List.range nx := by
    unfold keepP
    rw [List.filter_eq_self]
    intro i hi
    rw [fstP_neg HRI.out.symm i (List.mem_range.1 hi)]
    rfl
   unfold Hid
   rw [h1]
   exact ⟨by rw [HNX.out]; exact range_hdL vs, List.length_range⟩
  go_enter Tryz.func18, Tryz.ntmps18
  go_wp2_with fail
  refine Calls.mono HIX.out ?_
  rintro e w1 ⟨rfl, hb1⟩
  have HB1 := Lib.hid (HB.out.trans (hb1.mono HHB.out))
  have HO1 := Lib.hid (owns_below HO.out hb1)
  have HP1 := Lib.hid (HPI.out.below hb1)
  clear hb1 HIX
  go_wp2_with fail
  go_ret
  refine ⟨_, rfl, HB1.out, ?_, HP1.out⟩
  rw [HF.out.1, HF.out.2]
  have h := HO1.out
  rw [← HNX.out] at h
  exact h
 ·obtain ⟨k0, hk0, hlt0, hp0, hpl⟩ := fstP_pos (P := P) (n := nx) (by rw [← HRI.out]; exact hneg)
  have hk0' : r = (k0 : Int) := HRI.out.trans hk0
  clear hk0
  subst hk0'
  obtain ⟨g, ha2, hgB⟩ : ∃ g, a = some ⟨g, 0, none⟩ ∧ B ≤ g := by
   rcases HO.out.2 with ⟨e, e2⟩ | ⟨g, cap, cur, e, h1, -⟩
   ·have := HNX.out; omega
   ·simp only [Value.slice.injEq] at e
    exact ⟨g, e.1, h1⟩
  subst ha2
  have HGB := Lib.hid hgB
  have HIN : Hid (KeptIn P (List.range nx) k0 (k0 + 1) (hdL vs) vs) := by
   have h := KeptIn.start (P := P) (xs := List.range nx) (con := hdL vs) (k := k0) (by simpa using hlt0) (fun j hj hjk => by rw [List.getElem_range]; exact hpl j hjk) (by rw [List.getElem_range]; exact hp0)
   have e : (List.range nx).map (hdL vs) = vs := by rw [HNX.out]; exact range_hdL vs
   rw [e] at h
   exact h
  have hne1 : ((k0 : Int) == -1) = false := beq_eq_false_iff_ne.2 (by omega)
  clear hneg hp0 hpl HRI
  go_enter Tryz.func18, Tryz.ntmps18
  go_wp2_with fail
  refine Calls.mono HIX.out ?_
  rintro e w1 ⟨rfl, hb1⟩
  have HB1 := Lib.hid (HB.out.trans (hb1.mono HHB.out))
  have HO1 : Hid (CellsAt w1 g 32 nx c vs) := CellsAt.of_owns (by have h := owns_below HO.out hb1; rw [← HNX.out] at h; exact h)
  have HP1 := Lib.hid (HPI.out.below hb1)
  clear hb1 HIX
  go_wp2_with fail
  go_loopw [5, 6, 7] (fun s5 s6 _ wr => ∃ (i j : Nat) (cs : List Value), s5 = .int .i64 i ∧ s6 = .int .i64 j ∧ j ≤ nx ∧ Below B w0 wr ∧ CellsAt wr g 32 nx c cs ∧ KeptIn P (List.range nx) i j (hdL vs) cs ∧ Pile 2 B wr vs css) (fun _ s6 _ _ => nx - (intOf s6).toNat)
  case atStart => exact ⟨k0, k0 + 1, _, rfl, by go_num, by omega, HB1.out, HO1.out, HIN.out, HP1.out⟩
  case round =>
   obtain ⟨i, j, cs, rfl, rfl, hj, hbl, hca, hki, hpi⟩ := hrel
   have HBL := Lib.hid hbl
   have HCA := Lib.hid hca
   have HKI := Lib.hid hki
   have HPR := Lib.hid hpi
   have hij := hki.lt
   by_cases hlt : j < nx
   ·have hltx : j < vs.length := by have := HNX.out; omega
    have hltr : j < (List.range nx).length := by simpa using hlt
    obtain ⟨xa, xn, xc, hx⟩ := hpi.sliceL hltx
    have HX : Hid (hdL vs j = .slice xa xn xc) := by unfold Hid; rw [hdL_lt hltx, hx]
    have cj : wr.cell? ⟨g, j, none⟩ = some (.slice xa xn xc) := by
     have h1 := hca.cell j (by omega)
     have h2 := hki.high j hltr (Nat.le_refl _)
     rw [h1, h2, List.getElem_range, HX.out]
    have ci := hca.cell_some i (by omega)
    obtain ⟨old, ci⟩ := ci
    have fi := hca.frozen i
    have hgl := hca.lt
    have hC := HP.out wr hbl hpi j hltx
    rw [hx] at hC
    have HC := Lib.hid hC
    obtain ⟨b, hb⟩ : ∃ b, b = P j := ⟨_, rfl⟩
    rw [← hb] at HC
    have HBP := Lib.hid hb
    clear hb hx hbl hca hki ci fi hC hpi
    go_wp2_with fail
    refine Calls.mono HC.out ?_
    rintro e w2 ⟨rfl, hb2⟩
    have HBL2 := Lib.hid (HBL.out.trans (hb2.mono (show B ≤ wr.heap.size from by have := HGB.out; omega)))
    have HPR2 := Lib.hid (HPR.out.below hb2)
    have hca2 := HCA.out.below hb2
    have HCA2 := Lib.hid hca2
    obtain ⟨old, ci⟩ := hca2.cell_some i (by omega)
    have fi := hca2.frozen i
    clear hb2 hca2 cj
    cases b
    ·go_wp2_with fail
     go_roundw
     case rel => exact ⟨i + 1, j + 1, cs.set i (.slice xa xn xc), by go_num, by go_num, by omega, HBL2.out.setCell HGB.out _, HCA2.out.set i (by omega) _, by have h := HKI.out.keep hltr (by rw [List.getElem_range]; exact HBP.out.symm); rw [List.getElem_range, HX.out] at h; exact h, HPR2.out.cellsL HCA2.out _⟩
     case measure => simp [intOf]; omega
    ·go_wp2_with fail
     go_roundw
     case rel => exact ⟨i, j + 1, cs, rfl, by go_num, by omega, HBL2.out, HCA2.out, HKI.out.drop hltr (by rw [List.getElem_range]; exact HBP.out.symm), HPR2.out⟩
     case measure => simp [intOf]; omega
   ·obtain rfl : j = nx := by omega
    have HLEN : Hid ((keepP P j).length = i ∧ i ≤ j ∧ (keepP P j).map (hdL vs) = cs.take i) := by
     have h := hki.all (by rw [List.length_range]; exact Nat.le_refl _)
     exact ⟨h.1, by omega, h.2⟩
    have hij2 : i < j := hij
    have hcl : ∀ ty, (Builtin.clear_ #[29] ty #[.slice (some ⟨g, i, none⟩) (j - i) (c - i)]).run Tryz.prog wr = .ok (.tuple #[]) (wr.setCells g i (List.replicate (j - i) (.slice none 0 0))) :=
     fun ty => Lib.run_clear_slice wr _ _ ty _ Tryz.underlying29 (fun w => by kernel_rfl) rfl rfl g i _ _ (by omega) (fun t ht => by obtain ⟨o, ho⟩ := hca.cell_some (i + t) (by omega); rw [ho]; rfl) (fun t ht => hca.frozen (i + t))
    have HCAF : Hid (CellsAt (wr.setCells g i (List.replicate (j - i) (.slice none 0 0))) g 32 j c (cs.take i ++ List.replicate (j - i) (.slice none 0 0))) := hca.clear hij2
    have HBF : Hid (Below B w0 (wr.setCells g i (List.replicate (j - i) (.slice none 0 0)))) := below_setCells HGB.out _ _ _ hbl
    have HPF : Hid (Pile 2 B (wr.setCells g i (List.replicate (j - i) (.slice none 0 0))) vs css) := Pile.cellsLN _ _ _ hpi hca (by omega)
    clear hbl hca hki hij hpi
    go_wp2_with fail
    go_ret
    refine ⟨_, rfl, HBF.out, ?_, HPF.out⟩
    rw [HLEN.out.1, HLEN.out.2.2]
    exact HCAF.out.owns (by rw [List.take_append_of_le_length (by have := HCAF.out.len; simp at this ⊢; omega), List.take_take]; simp) HLEN.out.2.1 HGB.out hnc hcc

end Go.Proofs.YtifoinannefcpaaGreatDoor

namespace Go.Proofs.YtifoinannefcpaaGreatDoor
open Go Go.RowKit


theorem info_intUO : (Tryz.prog.info? 2).map (fun i => (i.zero, i.size, i.bytes)) = some (some (.int .i64 0), 1, 8) := by kernel_rfl
set_option maxRecDepth 100000 in
set_option maxHeartbeats 1000000 in
theorem upToO_any (N : Nat) (w : World) (hN : N ≤ 1000) : Calls Tryz.prog 51 #[.int .i64 N] w (MadeNums (upI N) w) := by
 obtain ⟨i1, hi1, hz10, hz11, hz12⟩ := info_parts info_intUO
 go_enter Tryz.func51, Tryz.ntmps51
 go_wp2
 go_loopw [3, 6] (fun v3 v6 wr => ∃ k : Nat, k ≤ N ∧ v6 = .int .i64 k ∧ Below w.heap.size w wr ∧ wr.ownsRow w.heap.size 2 1 v3 k ((upI k).map (Value.int .i64))) (fun _ v6 _ => N - (intOf v6).toNat)
 case atStart => exact ⟨0, Nat.zero_le _, rfl, Below.refl _ _, World.ownsRow_nil _ _ _ _⟩
 case round =>
  obtain ⟨k, hk, rfl, hbl, ho⟩ := hrel
  have HBL := Lib.hid hbl
  have HO := Lib.hid ho
  have hsz := hbl.size
  obtain ⟨va, vc, rfl, -, -⟩ := owns_slice ho
  by_cases hlt : k < N
  ·have HNX : Hid ((upI (k + 1)).map (Value.int .i64) = (upI k).map (Value.int .i64) ++ [.int .i64 k]) := by unfold Hid; rw [upI_succ, List.map_append]; rfl
   clear hbl ho
   go_wp2_with (at_builtin; refine wpList_append_own _ rfl _ _ 32 rfl w.heap.size 2 i1 (.int .i64 0) 1 8 Tryz.underlying32 hi1 hz10 hz11 hz12 rfl (by decide) _ k _ rfl (HO.out.alloc _) ⟨wr.heap.size, 0, none⟩ 1 1 [.int .i64 k] rfl rfl ?c1 ?c2 ?c3 ?c4 ?c5 ?_)
   case c1 => exact World.news_of_block (cs := #[.int .i64 k]) (t := 2) (fr := (0, 0)) (heap_alloc_new _ _)
   case c2 => intro u hu; simp at hu; subst hu; rfl
   case c3 => simp [maxLen]; omega
   case c4 => omega
   case c5 => first | omega | (simp; omega)
   intro v7 w7 ho7 hg7 _
   have HB7 : Hid (Below w.heap.size w w7) := (HBL.out.alloc hsz _).grown hg7 (by simp; omega) (fun b e => (HO.out.lt b e).1)
   have HO7 : Hid (w7.ownsRow w.heap.size 2 1 v7 (k + 1) ((upI (k + 1)).map (Value.int .i64))) := by unfold Hid; rw [HNX.out]; exact ho7
   clear ho7 hg7
   go_wp2
   go_roundw
   case rel => exact ⟨k + 1, by omega, by go_num, HB7.out, HO7.out⟩
   case measure => simp [intOf]; omega
  ·obtain rfl : k = N := by omega
   clear hbl ho
   go_wp2
   go_ret
   exact ⟨_, rfl, HBL.out, by rw [upI_len]; exact HO.out⟩

set_option maxRecDepth 100000 in
set_option maxHeartbeats 1000000 in
theorem sortedSet_any (lo : Nat) (v : Value) (xs : List Int) (w : World) (hv : SliceK 1 encI lo w v xs) (hz : xs.length ≤ 1000) :
  Calls Tryz.prog 50 #[v] w (MadeNums (Lib.compact (xs.mergeSort fun x y => decide (x ≤ y))) w) := by
 have HC := Lib.hid (Clone_own lo v xs w hv (by omega))
 obtain ⟨S, hS⟩ : ∃ S, S = xs.mergeSort fun x y => decide (x ≤ y) := ⟨_, rfl⟩
 have hSl : S.length = xs.length := by rw [hS]; exact List.length_mergeSort _
 rw [← hS]
 have HSS := Lib.hid hS
 have HSL := Lib.hid hSl
 clear hS hSl
 obtain ⟨p, c, rfl, -, -, -⟩ := hv
 go_enter Tryz.func50, Tryz.ntmps50
 go_wp2_with fail
 refine Calls.mono HC.out ?_
 rintro e w1 ⟨v1, rfl, ho1, hb1⟩
 obtain ⟨a1, c1, rfl, -, -⟩ := owns_slice ho1
 have HS := Lib.hid (Sort_own w.heap.size _ xs w1 ho1 (by omega))
 have HB1 := Lib.hid hb1
 have HO1 := Lib.hid ho1
 clear ho1 hb1 HC
 go_wp2_with fail
 refine Calls.mono HS.out ?_
 rintro e w2 ⟨rfl, ho2, hg2⟩
 have HB2 : Hid (Below w.heap.size w w2) := HB1.out.grown hg2 HB1.out.size (fun b e => (HO1.out.lt b e).1)
 rw [← HSS.out] at ho2
 have HCO := Lib.hid (Compact_own w.heap.size (.slice a1 xs.length c1) S w2 (by rw [HSL.out]; exact ho2))
 have HO2 := Lib.hid ho2
 clear ho2 hg2 HS HO1
 go_wp2_with fail
 refine Calls.mono HCO.out ?_
 rintro e w3 ⟨v3, rfl, ho3, hg3⟩
 obtain ⟨a3, c3, rfl, -, -⟩ := owns_slice ho3
 have HB3 : Hid (Below w.heap.size w w3) := HB2.out.grown hg3 HB2.out.size (fun b e => (HO2.out.lt b e).1)
 have HO3 := Lib.hid ho3
 clear ho3 hg3 HCO
 go_wp2
 go_ret
 exact ⟨_, rfl, HB3.out, HO3.out⟩

set_option maxRecDepth 100000 in
set_option maxHeartbeats 1000000 in
theorem isOrder_any (lo : Nat) (v : Value) (o : List Int) (n : Nat) (w : World) (hv : SliceK 1 encI lo w v o) (ho : OrdO n o) (hn : 1 ≤ n) (hn6 : n ≤ 6) :
  Calls Tryz.prog 22 #[v, .int .i64 n] w fun e w' => e = .returned (.bool true) ∧ Below w.heap.size w w' := by
 have HS := Lib.hid (sortedSet_any lo v o w hv (by rw [ho.len]; omega))
 rw [ord_sorted ho] at HS
 have hlen := ho.len
 obtain ⟨p, c, rfl, -, -, -⟩ := hv
 rw [hlen] at HS ⊢
 have hne : upI n ≠ [] := fun e => by
  have := upI_len n
  rw [e] at this
  simp at this
  omega
 have HNE := Lib.hid hne
 clear hlen ho hne
 go_enter Tryz.func22, Tryz.ntmps22
 go_wp2_with fail
 refine Calls.mono HS.out ?_
 rintro e w1 ⟨v1, rfl, hb1, ho1⟩
 obtain ⟨a1, c1, rfl, -, -⟩ := owns_slice ho1
 have HB1 := Lib.hid hb1
 have HO1 := Lib.hid ho1
 have HU := Lib.hid (upToO_any n w1 (by omega))
 clear hb1 ho1 HS
 go_wp2_with fail
 refine Calls.mono HU.out ?_
 rintro e w2 ⟨v2, rfl, hb2, ho2⟩
 obtain ⟨a2, c2, rfl, -, -⟩ := owns_slice ho2
 have HB2 := Lib.hid (HB1.out.trans (hb2.mono HB1.out.size))
 have HEQ := Lib.hid (EqualI_any w.heap.size w1.heap.size _ _ _ _ w2 (SliceK.of_owns (enc := encI) (e := 2) encI_len rfl (by rw [flat_encI]; exact owns_below HO1.out hb2)) (SliceK.of_owns (enc := encI) (e := 2) encI_len rfl (by rw [flat_encI]; exact ho2)) HNE.out HNE.out)
 rw [show (upI n == upI n) = true from beq_self_eq_true _] at HEQ
 clear hb2 ho2 HU HO1
 go_wp2_with fail
 refine Calls.mono HEQ.out ?_
 rintro e w3 ⟨rfl, hb3⟩
 have HB3 := Lib.hid (HB2.out.trans (hb3.mono HB2.out.size))
 clear hb3 HEQ
 go_wp2
 go_ret
 exact ⟨rfl, HB3.out⟩

end Go.Proofs.YtifoinannefcpaaGreatDoor
