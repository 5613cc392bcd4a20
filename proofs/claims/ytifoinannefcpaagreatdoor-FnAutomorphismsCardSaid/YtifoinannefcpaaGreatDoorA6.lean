/-
  The reference's l11Put: an edge is put to its place among rising ones, once.
  The reference's place of a text among texts.
  A slice of slices of one-celled elements, all in memory of the call's own: a row more, a row that grows.
  What the library's functions on slices compute where the implementation's follow calls them.
  What the implementation's internal and visible compute.
  What the implementation's lts computes: labels sorted and each once, edges by the labels' places, where these stand in order.
  Plain laws for lts within determinize: the labels in use, the edges by them, that they lead back.
  The labels of two systems together: the reference's list of them, kept in order by insertion, is the set of all labels.
-/
import Derived.Test.YtifoinannefcpaaGreatDoorA5
import Derived.Test.YtifoinannefcpaaGreatDoorA3
import Derived.Maps.AppendAt
import Derived.Deep.AppendLies
import Derived.Deep.RegionHeld3
import Derived.Test.YtifoinannefcpaaGreatDoorA1
import Derived.Laws.AppendOwnNone
namespace Go.Proofs.YtifoinannefcpaaGreatDoor
open Go Go.RowKit


theorem info_edgeP : (Tryz.prog.info? 62).map (fun i => (i.zero, i.size, i.bytes)) = some (some (.agg #[.int .i64 0, .int .i64 0, .int .i64 0]), 3, 24) := by kernel_rfl
theorem own_someP {w : World} {base e size n : Nat} {v : Value} {xs : List Value} (h : w.ownsRow base e size v n xs) (hn : 0 < n) : ∃ g c, v = .slice (some ⟨g, 0, none⟩) n c ∧ base ≤ g ∧ g < w.heap.size := by
 rcases h.2 with ⟨h1, h0⟩ | ⟨g, cap, cur, h1, h2, hg, -⟩
 ·omega
 ·exact ⟨g, cap, h1, h2, (Array.getElem?_eq_some_iff.1 hg).1⟩
/-- A rising list with one edge more. -/
def PutIs (E : List Edge) (e : Edge) (R : List Edge) : Prop := RiseE R ∧ R.length ≤ E.length + 1 ∧ ∀ x, x ∈ R ↔ x ∈ E ∨ x = e

set_option maxRecDepth 100000 in
set_option maxHeartbeats 4000000 in
theorem l11Put_any (base : Nat) (v : Value) (E : List Edge) (e : Edge) (w : World) (ho : w.ownsRow base 62 3 v E.length (E.flatMap encE)) (hr : RiseE E) (hb : base ≤ w.heap.size) (hz : E.length ≤ 1000) :
  Calls Tryz.prog 61 #[v, .agg #[.int .i64 e.src, .int .i64 e.lab, .int .i64 e.dst]] w fun en w' => ∃ v' R, en = .returned v' ∧ w.grownBy w' v.ownBlock ∧ w'.ownsRow base 62 3 v' R.length (R.flatMap encE) ∧ PutIs E e R := by
 obtain ⟨va, vc, rfl, hvc, hvm⟩ := owns_slice ho
 obtain ⟨N, hN⟩ : ∃ N, N = E.length := ⟨_, rfl⟩
 obtain ⟨xb, hxb⟩ : ∃ xb, xb = w.heap.size := ⟨_, rfl⟩
 obtain ⟨wA, hwA⟩ : ∃ wA, wA = w.alloc (.cells #[.int .i64 e.src, .int .i64 e.lab, .int .i64 e.dst] 62) := ⟨_, rfl⟩
 have hbA : Below w.heap.size w wA := by rw [hwA]; exact (Below.refl _ _).alloc (Nat.le_refl _) _
 have hX : Blk wA xb [.int .i64 e.src, .int .i64 e.lab, .int .i64 e.dst] 62 := by rw [hwA, hxb]; exact Blk.new w _ _
 obtain ⟨row, hrow9⟩ : ∃ row, row = (Value.slice va E.length vc).ownBlock := ⟨_, rfl⟩
 have HROW9 := Lib.hid hrow9
 have HRB : Hid (∀ b, row = some b → b < xb) := fun b e9 => by rw [hxb]; exact (ho.lt b (by rw [← hrow9]; exact e9)).2
 clear hrow9
 have HO := Lib.hid (owns_below ho hbA)
 have hsk : SliceK 3 encE base wA (.slice va E.length vc) E := SliceK.of_owns encE_len rfl HO.out
 obtain ⟨a9, c9, h9, -, -, hrow⟩ := hsk
 simp only [Value.slice.injEq, true_and] at h9
 obtain ⟨rfl, rfl⟩ := h9
 have HROW := Lib.hid hrow
 rw [← hN] at hz hvc HO HROW9 ⊢
 have HN := Lib.hid hN
 have HR := Lib.hid hr
 have HX := Lib.hid hX
 have HBA := Lib.hid hbA
 have HWA := Lib.hid hwA
 have HXB := Lib.hid hxb
 have hsA : base ≤ wA.heap.size := Nat.le_trans hb hbA.size
 obtain ⟨i3, hi3, hz30, hz31, hz32⟩ := info_parts info_edgeP
 clear ho hr hwA hbA hX hrow hN hxb hb
 go_enter Tryz.func61, Tryz.ntmps61
 go_wp2
 rw [← HWA.out]
 try rw [← HXB.out]
 go_loopw [5] (fun v5 wr => ∃ k : Nat, k ≤ N ∧ v5 = .int .i64 k ∧ Below wA.heap.size wA wr ∧ ∀ j (h : j < E.length), k ≤ j → edgeLess e E[j] = true) (fun v5 _ => (intOf v5).toNat)
 case atStart => exact ⟨N, Nat.le_refl _, rfl, Below.refl _ _, fun j h hj => by have := HN.out; omega⟩
 case round =>
  obtain ⟨k, hk, rfl, hbl, hhi⟩ := hrel
  obtain ⟨wC, rfl⟩ : ∃ wC : World, wC = wr := ⟨_, rfl⟩
  have HBL := Lib.hid hbl
  have HHI := Lib.hid hhi
  have hszC := hbl.size
  clear hhi
  by_cases h0 : 0 < k
  ·obtain ⟨m, rfl⟩ : ∃ m, k = m + 1 := ⟨k - 1, by omega⟩
   have hm2 : m < E.length := by have := HN.out; omega
   obtain ⟨g, o, rfl, hgB, hgw, e1, e2, e3⟩ := (HROW.out.below hbl).edge hm2
   obtain ⟨x, hx⟩ : ∃ x, x = E[m] := ⟨_, rfl⟩
   rw [← hx] at e1 e2 e3
   have hXC := HX.out.below hbl
   have HLS := Lib.hid (l11Less_any xb 0 g (o + m * 3) e x wC ⟨hXC.cell 0 rfl, hXC.cell 1 rfl, hXC.cell 2 rfl⟩ ⟨e1, e2, e3⟩)
   obtain ⟨lb, hlb⟩ : ∃ lb, lb = edgeLess e x := ⟨_, rfl⟩
   rw [← hlb] at HLS
   have HLB := Lib.hid hlb
   have HXX := Lib.hid hx
   have E1 := Lib.hid e1
   have E2 := Lib.hid e2
   have E3 := Lib.hid e3
   have hm1 : (((m + 1 : Nat) : Int) - 1) = (m : Int) := by omega
   clear hbl hx hlb hXC e1 e2 e3
   go_wp2_with fail
   refine Calls.mono HLS.out ?_
   rintro en w2 ⟨rfl, hb2⟩
   have HB2 := Lib.hid (HBL.out.trans (hb2.mono hszC))
   have HB02 := Lib.hid hb2
   have hsz2 := HB2.out.size
   clear HLS
   cases lb with
   | true =>
    clear hb2
    go_wp2
    go_roundw
    case rel => exact ⟨m, by omega, by go_num, HB2.out, fun j h hj => by
     by_cases e9 : j = m
     ·subst e9; rw [← HXX.out]; exact HLB.out.symm
     ·exact HHI.out j h (by omega)⟩
    case measure => simp [intOf]
   | false =>
    -- the place is found: m + 1
    have f1 := keeps hb2 hgw E1.out
    have f2 := keeps hb2 hgw E2.out
    have f3 := keeps hb2 hgw E3.out
    have x1 := (HX.out.below HB2.out).cell 0 rfl
    have x2 := (HX.out.below HB2.out).cell 1 rfl
    have x3 := (HX.out.below HB2.out).cell 2 rfl
    have hgw2 : g < w2.heap.size := Nat.lt_of_lt_of_le hgw hb2.size
    have hxw2 : xb < w2.heap.size := (HX.out.below HB2.out).lt
    have lf1 := later_cell hgw2 f1
    have lf2 := later_cell hgw2 f2
    have lf3 := later_cell hgw2 f3
    have lx1 := later_cell hxw2 x1
    have lx2 := later_cell hxw2 x2
    have lx3 := later_cell hxw2 x3
    have hE := fun w' => eqEdge x e w'
    have hGd := fun (op : BinOp) (a b : Operand) (w : World) => guardEdge op a b #[.int .i64 x.src, .int .i64 x.lab, .int .i64 x.dst] #[.int .i64 e.src, .int .i64 e.lab, .int .i64 e.dst] w
    have hpos : decide ((0 : Int) < ((m + 1 : Nat) : Int)) = true := decide_eq_true (by omega)
    have hpos2 : (0 : Int) < ((m + 1 : Nat) : Int) := by omega
    clear hb2 f1 f2 f3 x1 x2 x3
    cases hq : (x.src == e.src && x.lab == e.lab && x.dst == e.dst) with
    | true =>
     rw [hq] at hE
     have HF : Hid (PutIs E e E) := by
      refine ⟨HR.out, Nat.le_succ _, fun y => ⟨.inl, fun h => h.elim id fun h => ?_⟩⟩
      rw [h]
      have : e = x := by
       simp only [Bool.and_eq_true, beq_iff_eq] at hq
       obtain ⟨⟨h1, h2⟩, h3⟩ := hq
       cases x; cases e
       simp only at h1 h2 h3
       subst h1 h2 h3
       rfl
      rw [this, HXX.out]
      exact List.getElem_mem _
     clear hq
     go_wp2
     refine wp_region_later (by kernel_rfl) (by kernel_rfl) ?_
     repeat (go_big_quiet_step ((fail)))
     refine wpQuiet_nil ?_
     intro _ hw9
     obtain ⟨nl, hw8⟩ := hw9
     subst hw8
     have HBN := Lib.hid (HBA.out.trans ((HB2.out.trans (nl.h.mono hsz2)).mono HBA.out.size))
     have HON := Lib.hid (owns_below (owns_below HO.out HB2.out) nl.h)
     clear lf1 lf2 lf3 lx1 lx2 lx3 hE hGd
     go_wp2
     go_ret
     exact ⟨_, E, rfl, grown_below HBN.out _, by rw [← HN.out]; exact HON.out, HF.out⟩
    | false =>
     rw [hq] at hE
     have hlt : edgeLess x e = true := by
      cases h : edgeLess x e with
      | true => rfl
      | false =>
       have h2 := edgeLess_tri x e h HLB.out.symm
       rw [h2] at hq
       simp at hq
     have HPR : Hid (PutIs E e (E.take (m + 1) ++ e :: E.drop (m + 1))) := ⟨put_rise HR.out (by have := HN.out; omega) HHI.out (fun _ => by simp only [Nat.add_sub_cancel]; rw [← HXX.out]; exact hlt), by rw [put_len]; exact Nat.le_refl _, put_mem⟩
     clear hq hlt
     go_wp2
     refine wp_region_later (by kernel_rfl) (by kernel_rfl) ?_
     repeat (go_big_quiet_step ((fail)))
     refine wpQuiet_nil ?_
     intro _ hw9
     obtain ⟨nl, hw8⟩ := hw9
     subst hw8
     obtain ⟨wE, hwE⟩ : ∃ wE, wE = nl.w := ⟨_, rfl⟩
     have hbE : Below w2.heap.size w2 wE := by rw [hwE]; exact nl.h
     have HBE : Hid (Below wA.heap.size wA wE) := HB2.out.trans (hbE.mono hsz2)
     rw [← hwE]
     clear lf1 lf2 lf3 lx1 lx2 lx3 hE hGd hwE hbE hm1 hpos hpos2
     clear nl
     have HOE := Lib.hid (owns_below HO.out HBE.out)
     have hszE := HBE.out.size
     have HWE : Hid (Below w.heap.size w (wE.alloc (.cells #[.int .i64 0, .int .i64 0, .int .i64 0] 62))) := (HBA.out.trans (HBE.out.mono HBA.out.size)).alloc (Nat.le_trans HBA.out.size hszE) _
     go_wp2_with (at_builtin; refine wpList_append_own_at _ rfl _ _ 25 rfl base 62 i3 (.agg #[.int .i64 0, .int .i64 0, .int .i64 0]) 3 24 Tryz.underlying25 hi3 hz30 hz31 hz32 rfl (by decide) _ N _ rfl (HOE.out.alloc _) ⟨wE.heap.size, 0, none⟩ 1 1 [.int .i64 0, .int .i64 0, .int .i64 0] rfl rfl (World.news_of_block (cs := #[.int .i64 0, .int .i64 0, .int .i64 0]) (t := 62) (fr := (0, 0)) (heap_alloc_new _ _)) ?k2 ?k3 ?k4 ?k5 ?_)
     case k2 => first | (intro u hu; simp at hu; subst hu; rfl) | rfl
     case k3 => first | (simp [maxLen]; omega) | omega
     case k4 => omega
     case k5 => first | omega | (simp; omega)
     intro v7 w7 ho7 hg7 _ ha7
     obtain ⟨g7, c7, rfl, hgB, hgw⟩ := own_someP ho7 (by omega)
     have hfl : E.flatMap encE ++ [.int .i64 0, .int .i64 0, .int .i64 0] = (shiftG E (⟨0, 0, 0⟩ : Edge) N).flatMap encE := by
      rw [HN.out, ← shiftG_end, List.flatMap_append]
      rfl
     have hc7 : N + 1 ≤ c7 ∧ c7 ≤ maxLen := by
      obtain ⟨a, c, e9, h1, h2⟩ := owns_slice ho7
      simp only [Value.slice.injEq] at e9
      obtain ⟨-, -, rfl⟩ := e9
      exact ⟨h1, h2⟩
     rw [hfl] at ho7
     have HE7 : Hid (EdgesAt w7 g7 (N + 1) c7 (shiftG E (⟨0, 0, 0⟩ : Edge) N)) := CellsAt.of_owns3 ho7
     have HG7 : Hid (w.grownBy w7 row) := by unfold Hid; rw [HROW9.out]; exact grown_trans (grown_below HWE.out _) hg7
     have HGR : Hid (row = some g7 ∨ w.heap.size ≤ g7) := by
      unfold Hid
      rcases ha7 with h | h
      ·left; rw [HROW9.out]; exact h.symm
      ·right
       simp only [Value.ownBlock, Option.some.injEq] at h
       have := HBA.out.size
       omega
     have HXG : Hid (xb ≠ g7) := by
      unfold Hid
      rcases ha7 with h | h
      ·have := HRB.out g7 (by rw [HROW9.out]; exact h.symm)
       omega
      ·simp only [Value.ownBlock, Option.some.injEq] at h
       have := HX.out.lt
       omega
     have HX7 : Hid (Blk w7 xb [.int .i64 e.src, .int .i64 e.lab, .int .i64 e.dst] 62) := by
      have h := (HX.out.below HBE.out).alloc (.cells #[.int .i64 0, .int .i64 0, .int .i64 0] 62)
      refine (hg7.block xb h.lt fun e9 => ?_).trans h
      have := HRB.out xb (by rw [HROW9.out]; exact e9.symm)
      omega
     have HGB : Hid (base ≤ g7) := hgB
     have HC7 := Lib.hid hc7
     clear ho7 hg7 ha7 hgB hfl hc7
     go_wp2
     go_loopw [6] (fun v6 wr => ∃ (mm : Nat) (j : Edge), (m + 1) ≤ mm ∧ mm ≤ N ∧ v6 = .int .i64 mm ∧ EdgesAt wr g7 (N + 1) c7 (shiftG E j mm) ∧ w.grownBy wr row ∧ Blk wr xb [.int .i64 e.src, .int .i64 e.lab, .int .i64 e.dst] 62) (fun v6 _ => (intOf v6).toNat)
     case atStart => exact ⟨N, ⟨0, 0, 0⟩, by omega, Nat.le_refl _, by first | rfl | go_num, HE7.out, HG7.out, HX7.out⟩
     case round =>
      obtain ⟨mm, j, hK1, hmN, rfl, hed, hgr9, hxb9⟩ := hrel
      have HXB9 := Lib.hid hxb9
      obtain ⟨w9, rfl⟩ : ∃ w9 : World, w9 = wr := ⟨_, rfl⟩
      have HED := Lib.hid hed
      have HGR9 := Lib.hid hgr9
      have hlen : (shiftG E j mm).length = N + 1 := by rw [shiftG_len, ← HN.out]
      have hj : (shiftG E j mm)[mm]? = some j := by
       unfold shiftG
       have hl : (E.take mm).length = mm := by rw [List.length_take, ← HN.out]; omega
       rw [List.getElem?_append_right (by omega), hl, Nat.sub_self]
       rfl
      obtain ⟨t1, t2, t3⟩ := EdgesAt.get hed hlen (k := mm) (by omega) hj
      have z1 := CellsAt.frozen hed (mm * 3)
      have z2 := CellsAt.frozen hed (mm * 3 + 1)
      have z3 := CellsAt.frozen hed (mm * 3 + 2)
      have hglt := CellsAt.lt hed
      by_cases hgt : (m + 1) < mm
      ·obtain ⟨q, rfl⟩ : ∃ q, mm = q + 1 := ⟨mm - 1, by omega⟩
       have hq2 : q < E.length := by rw [← HN.out]; omega
       have hget := shiftG_get (L := E) (j := j) (k := q + 1) (by omega) (by omega)
       simp only [Nat.add_sub_cancel] at hget
       obtain ⟨s1, s2, s3⟩ := EdgesAt.get hed hlen (k := q) (by omega) hget
       have hput := EdgesAt.put hed hlen (k := q + 1) (by omega) E[q]
       have hss := shiftG_set (L := E) (j := j) (k := q + 1) (by omega) (by omega)
       simp only [Nat.add_sub_cancel] at hss
       rw [hss] at hput
       obtain ⟨y, hy⟩ : ∃ y, y = E[q] := ⟨_, rfl⟩
       rw [← hy] at s1 s2 s3 hput
       have HPUT := Lib.hid hput
       have HGS := Lib.hid (grown_sets (a := (q + 1) * 3) (b := (q + 1) * 3 + 1) (c := (q + 1) * 3 + 2) (x := .int .i64 y.src) (y := .int .i64 y.lab) (z := .int .i64 y.dst) hgr9 HGR.out)
       have hgt2 : (m : Int) + 1 < ((q + 1 : Nat) : Int) := by omega
       have hgt3 : (m : Int) < (q : Int) := by omega
       have hq1 : (((q + 1 : Nat) : Int) - 1) = (q : Int) := by omega
       have HXP := Lib.hid (((hxb9.setOther ⟨g7, (q + 1) * 3, none⟩ (.int .i64 y.src) HXG.out).setOther ⟨g7, (q + 1) * 3 + 1, none⟩ (.int .i64 y.lab) HXG.out).setOther ⟨g7, (q + 1) * 3 + 2, none⟩ (.int .i64 y.dst) HXG.out)
       clear hed hgr9 hlen hj hget hput hss hy hq2 hxb9
       go_wp2
       go_roundw
       case rel => exact ⟨q, y, by omega, by omega, by go_num, HPUT.out, HGS.out, HXP.out⟩
       case measure => simp [intOf]
      ·have hmK : mm = (m + 1) := by omega
       subst hmK
       have hput := EdgesAt.put hed hlen (k := (m + 1)) (by omega) e
       rw [shiftG_put (by rw [← HN.out]; omega)] at hput
       have HPUT := Lib.hid hput
       have HGS := Lib.hid (grown_sets (a := (m + 1) * 3) (b := (m + 1) * 3 + 1) (c := (m + 1) * 3 + 2) (x := .int .i64 e.src) (y := .int .i64 e.lab) (z := .int .i64 e.dst) hgr9 HGR.out)
       have x1 := hxb9.cell 0 rfl
       have x2 := hxb9.cell 1 rfl
       have x3 := hxb9.cell 2 rfl
       have hxl9 := hxb9.lt
       have hge2 : ¬ (m : Int) + 1 < ((m + 1 : Nat) : Int) := by omega
       clear hed hgr9 hlen hj hput hxb9
       go_wp2
       go_ret
       have hA9 := HGS.out
       rw [HROW9.out] at hA9
       refine ⟨_, rfl, hA9, _, ?_, HPR.out⟩
       rw [put_len, ← HN.out]
       exact CellsAt.owns3 HPUT.out HGB.out HC7.out.1 HC7.out.2
  ·obtain rfl : k = 0 := by omega
   have HPR : Hid (PutIs E e (E.take 0 ++ e :: E.drop 0)) := ⟨put_rise HR.out (Nat.zero_le _) HHI.out (fun h => absurd h (Nat.lt_irrefl 0)), by rw [put_len]; exact Nat.le_refl _, put_mem⟩
   have hpos : decide ((0 : Int) < ((0 : Nat) : Int)) = false := by decide
   clear hbl
   go_wp2
   refine wp_region_later (by kernel_rfl) (by kernel_rfl) ?_
   repeat (go_big_quiet_step ((fail)))
   refine wpQuiet_nil ?_
   intro _ hw9
   obtain ⟨nl, hw8⟩ := hw9
   subst hw8
   obtain ⟨wE, hwE⟩ : ∃ wE, wE = nl.w := ⟨_, rfl⟩
   have hbE : Below wC.heap.size wC wE := by rw [hwE]; exact nl.h
   have HBE : Hid (Below wA.heap.size wA wE) := HBL.out.trans (hbE.mono hszC)
   rw [← hwE]
   clear hwE hbE hpos
   clear nl
   have HOE := Lib.hid (owns_below HO.out HBE.out)
   have hszE := HBE.out.size
   have HWE : Hid (Below w.heap.size w (wE.alloc (.cells #[.int .i64 0, .int .i64 0, .int .i64 0] 62))) := (HBA.out.trans (HBE.out.mono HBA.out.size)).alloc (Nat.le_trans HBA.out.size hszE) _
   go_wp2_with (at_builtin; refine wpList_append_own_at _ rfl _ _ 25 rfl base 62 i3 (.agg #[.int .i64 0, .int .i64 0, .int .i64 0]) 3 24 Tryz.underlying25 hi3 hz30 hz31 hz32 rfl (by decide) _ N _ rfl (HOE.out.alloc _) ⟨wE.heap.size, 0, none⟩ 1 1 [.int .i64 0, .int .i64 0, .int .i64 0] rfl rfl (World.news_of_block (cs := #[.int .i64 0, .int .i64 0, .int .i64 0]) (t := 62) (fr := (0, 0)) (heap_alloc_new _ _)) ?k2 ?k3 ?k4 ?k5 ?_)
   case k2 => first | (intro u hu; simp at hu; subst hu; rfl) | rfl
   case k3 => first | (simp [maxLen]; omega) | omega
   case k4 => omega
   case k5 => first | omega | (simp; omega)
   intro v7 w7 ho7 hg7 _ ha7
   obtain ⟨g7, c7, rfl, hgB, hgw⟩ := own_someP ho7 (by omega)
   have hfl : E.flatMap encE ++ [.int .i64 0, .int .i64 0, .int .i64 0] = (shiftG E (⟨0, 0, 0⟩ : Edge) N).flatMap encE := by
    rw [HN.out, ← shiftG_end, List.flatMap_append]
    rfl
   have hc7 : N + 1 ≤ c7 ∧ c7 ≤ maxLen := by
    obtain ⟨a, c, e9, h1, h2⟩ := owns_slice ho7
    simp only [Value.slice.injEq] at e9
    obtain ⟨-, -, rfl⟩ := e9
    exact ⟨h1, h2⟩
   rw [hfl] at ho7
   have HE7 : Hid (EdgesAt w7 g7 (N + 1) c7 (shiftG E (⟨0, 0, 0⟩ : Edge) N)) := CellsAt.of_owns3 ho7
   have HG7 : Hid (w.grownBy w7 row) := by unfold Hid; rw [HROW9.out]; exact grown_trans (grown_below HWE.out _) hg7
   have HGR : Hid (row = some g7 ∨ w.heap.size ≤ g7) := by
    unfold Hid
    rcases ha7 with h | h
    ·left; rw [HROW9.out]; exact h.symm
    ·right
     simp only [Value.ownBlock, Option.some.injEq] at h
     have := HBA.out.size
     omega
   have HXG : Hid (xb ≠ g7) := by
    unfold Hid
    rcases ha7 with h | h
    ·have := HRB.out g7 (by rw [HROW9.out]; exact h.symm)
     omega
    ·simp only [Value.ownBlock, Option.some.injEq] at h
     have := HX.out.lt
     omega
   have HX7 : Hid (Blk w7 xb [.int .i64 e.src, .int .i64 e.lab, .int .i64 e.dst] 62) := by
    have h := (HX.out.below HBE.out).alloc (.cells #[.int .i64 0, .int .i64 0, .int .i64 0] 62)
    refine (hg7.block xb h.lt fun e9 => ?_).trans h
    have := HRB.out xb (by rw [HROW9.out]; exact e9.symm)
    omega
   have HGB : Hid (base ≤ g7) := hgB
   have HC7 := Lib.hid hc7
   clear ho7 hg7 ha7 hgB hfl hc7
   go_wp2
   go_loopw [6] (fun v6 wr => ∃ (mm : Nat) (j : Edge), 0 ≤ mm ∧ mm ≤ N ∧ v6 = .int .i64 mm ∧ EdgesAt wr g7 (N + 1) c7 (shiftG E j mm) ∧ w.grownBy wr row ∧ Blk wr xb [.int .i64 e.src, .int .i64 e.lab, .int .i64 e.dst] 62) (fun v6 _ => (intOf v6).toNat)
   case atStart => exact ⟨N, ⟨0, 0, 0⟩, by omega, Nat.le_refl _, by first | rfl | go_num, HE7.out, HG7.out, HX7.out⟩
   case round =>
    obtain ⟨mm, j, hK1, hmN, rfl, hed, hgr9, hxb9⟩ := hrel
    have HXB9 := Lib.hid hxb9
    obtain ⟨w9, rfl⟩ : ∃ w9 : World, w9 = wr := ⟨_, rfl⟩
    have HED := Lib.hid hed
    have HGR9 := Lib.hid hgr9
    have hlen : (shiftG E j mm).length = N + 1 := by rw [shiftG_len, ← HN.out]
    have hj : (shiftG E j mm)[mm]? = some j := by
     unfold shiftG
     have hl : (E.take mm).length = mm := by rw [List.length_take, ← HN.out]; omega
     rw [List.getElem?_append_right (by omega), hl, Nat.sub_self]
     rfl
    obtain ⟨t1, t2, t3⟩ := EdgesAt.get hed hlen (k := mm) (by omega) hj
    have z1 := CellsAt.frozen hed (mm * 3)
    have z2 := CellsAt.frozen hed (mm * 3 + 1)
    have z3 := CellsAt.frozen hed (mm * 3 + 2)
    have hglt := CellsAt.lt hed
    by_cases hgt : 0 < mm
    ·obtain ⟨q, rfl⟩ : ∃ q, mm = q + 1 := ⟨mm - 1, by omega⟩
     have hq2 : q < E.length := by rw [← HN.out]; omega
     have hget := shiftG_get (L := E) (j := j) (k := q + 1) (by omega) (by omega)
     simp only [Nat.add_sub_cancel] at hget
     obtain ⟨s1, s2, s3⟩ := EdgesAt.get hed hlen (k := q) (by omega) hget
     have hput := EdgesAt.put hed hlen (k := q + 1) (by omega) E[q]
     have hss := shiftG_set (L := E) (j := j) (k := q + 1) (by omega) (by omega)
     simp only [Nat.add_sub_cancel] at hss
     rw [hss] at hput
     obtain ⟨y, hy⟩ : ∃ y, y = E[q] := ⟨_, rfl⟩
     rw [← hy] at s1 s2 s3 hput
     have HPUT := Lib.hid hput
     have HGS := Lib.hid (grown_sets (a := (q + 1) * 3) (b := (q + 1) * 3 + 1) (c := (q + 1) * 3 + 2) (x := .int .i64 y.src) (y := .int .i64 y.lab) (z := .int .i64 y.dst) hgr9 HGR.out)
     have hgt2 : (0 : Int) < ((q + 1 : Nat) : Int) := by omega
     have hq1 : (((q + 1 : Nat) : Int) - 1) = (q : Int) := by omega
     have HXP := Lib.hid (((hxb9.setOther ⟨g7, (q + 1) * 3, none⟩ (.int .i64 y.src) HXG.out).setOther ⟨g7, (q + 1) * 3 + 1, none⟩ (.int .i64 y.lab) HXG.out).setOther ⟨g7, (q + 1) * 3 + 2, none⟩ (.int .i64 y.dst) HXG.out)
     clear hed hgr9 hlen hj hget hput hss hy hq2 hxb9
     go_wp2
     go_roundw
     case rel => exact ⟨q, y, by omega, by omega, by go_num, HPUT.out, HGS.out, HXP.out⟩
     case measure => simp [intOf]
    ·have hmK : mm = 0 := by omega
     subst hmK
     have hput := EdgesAt.put hed hlen (k := 0) (by omega) e
     rw [shiftG_put (by rw [← HN.out]; omega)] at hput
     have HPUT := Lib.hid hput
     have HGS := Lib.hid (grown_sets (a := 0 * 3) (b := 0 * 3 + 1) (c := 0 * 3 + 2) (x := .int .i64 e.src) (y := .int .i64 e.lab) (z := .int .i64 e.dst) hgr9 HGR.out)
     have x1 := hxb9.cell 0 rfl
     have x2 := hxb9.cell 1 rfl
     have x3 := hxb9.cell 2 rfl
     have hxl9 := hxb9.lt
     have hge2 : ¬ (0 : Int) < ((0 : Nat) : Int) := by omega
     clear hed hgr9 hlen hj hput hxb9
     go_wp2
     go_ret
     have hA9 := HGS.out
     rw [HROW9.out] at hA9
     refine ⟨_, rfl, hA9, _, ?_, HPR.out⟩
     rw [put_len, ← HN.out]
     exact CellsAt.owns3 HPUT.out HGB.out HC7.out.1 HC7.out.2

end Go.Proofs.YtifoinannefcpaaGreatDoor

namespace Go.Proofs.YtifoinannefcpaaGreatDoor
open Go Go.RowKit

theorem findIdx_hit {α : Type} {p : α → Bool} {l : List α} {k : Nat} (hk : k < l.length) (h1 : ∀ j (h : j < l.length), j < k → p l[j] = false) (h2 : p l[k] = true) : l.findIdx p = k := by
 rw [List.findIdx_eq hk]
 exact ⟨h2, fun j hj => h1 j (by omega) hj⟩
theorem findIdx_none {α : Type} {p : α → Bool} {l : List α} (h1 : ∀ j (h : j < l.length), p l[j] = false) : l.findIdx p = l.length := by
 rw [List.findIdx_eq_length]
 intro x hx
 obtain ⟨j, hj, rfl⟩ := List.mem_iff_getElem.1 hx
 exact h1 j hj

/-- The first place of a text among texts, or -1. -/
def textAt (ss : List ByteArray) (s : ByteArray) : Int := if ss.findIdx (fun t => t.toList == s.toList) < ss.length then (ss.findIdx (fun t => t.toList == s.toList) : Nat) else -1

set_option maxRecDepth 100000 in
set_option maxHeartbeats 1000000 in
theorem l11Find_any (lo : Nat) (v : Value) (ss : List ByteArray) (s : ByteArray) (w : World) (hv : SliceK 1 encS lo w v ss) : Calls Tryz.prog 60 #[v, .string s] w fun e w' => e = .returned (.int .i64 (textAt ss s)) ∧ Below w.heap.size w w' := by
 obtain ⟨a, cap, rfl, hn, hcap, hrow⟩ := hv
 go_enter Tryz.func60, Tryz.ntmps60
 go_wp2
 go_loopw [5] (fun i wr => ∃ k : Nat, k ≤ ss.length ∧ i = .int .i64 k ∧ Below w.heap.size w wr ∧ ∀ j (h : j < ss.length), j < k → (ss[j].toList == s.toList) = false) (fun i _ => ss.length - (intOf i).toNat)
 case atStart => exact ⟨0, Nat.zero_le _, rfl, Below.refl _ _, fun _ _ h => by omega⟩
 case round =>
  obtain ⟨k, hk, rfl, hbl, hx⟩ := hrel
  have HX := Lib.hid hx
  have HBL := Lib.hid hbl
  have hsz := hbl.size
  clear hx
  by_cases hlt : k < ss.length
  ·obtain ⟨b, o, rfl, -, hb, c⟩ := (hrow.below hbl).one hlt
   simp only [encS, List.getElem?_cons_zero] at c
   clear hrow hbl
   cases g : (ss[k].toList == s.toList)
   ·have HG := Lib.hid g
    go_wp2
    go_roundw
    case rel => exact ⟨k + 1, by omega, by go_num, HBL.out, fun j h h' => by
      by_cases e : j = k
      ·subst e; exact HG.out
      ·exact HX.out j h (by omega)⟩
    case measure => simp [intOf]; omega
   ·have HG : Hid (textAt ss s = (k : Int)) := by
     unfold Hid textAt
     rw [findIdx_hit hlt HX.out g, if_pos hlt]
    go_wp2
    go_ret
    exact ⟨ret_int HG.out.symm, HBL.out⟩
  ·clear hrow hbl
   go_wp2
   go_ret
   refine ⟨ret_int ?_, HBL.out⟩
   unfold textAt
   rw [findIdx_none (fun j h => HX.out j h (by omega)), if_neg (by omega)]

theorem textAt_some {ss : List ByteArray} {s : ByteArray} (h : ¬ textAt ss s < 0) : ∃ n : Nat, textAt ss s = n ∧ ∃ hn : n < ss.length, ss[n].toList = s.toList := by
 unfold textAt at h ⊢
 by_cases hlt : ss.findIdx (fun t => t.toList == s.toList) < ss.length
 ·rw [if_pos hlt]
  refine ⟨_, rfl, hlt, ?_⟩
  have := List.findIdx_getElem (p := fun t : ByteArray => t.toList == s.toList) (xs := ss) (w := hlt)
  exact eq_of_beq this
 ·rw [if_neg hlt] at h
  omega
theorem textAt_neg {ss : List ByteArray} {s : ByteArray} : textAt ss s < 0 ↔ (ss.any fun t => t.toList == s.toList) = false := by
 unfold textAt
 by_cases hlt : ss.findIdx (fun t => t.toList == s.toList) < ss.length
 ·rw [if_pos hlt]
  have h1 := List.findIdx_lt_length.1 hlt
  constructor
  ·intro h; omega
  ·intro h
   rw [List.any_eq_false] at h
   obtain ⟨x, hx, hp⟩ := h1
   exact absurd hp (h x hx)
 ·rw [if_neg hlt]
  refine ⟨fun _ => ?_, fun _ => by omega⟩
  rw [List.any_eq_false]
  intro x hx hp
  exact hlt (List.findIdx_lt_length.2 ⟨x, hx, hp⟩)


end Go.Proofs.YtifoinannefcpaaGreatDoor

namespace Go.Proofs.YtifoinannefcpaaGreatDoor
open Go Go.RowKit

def OwnRows (eo ei lo : Nat) (w : World) (v : Value) (vs : List Value) (xss : List (List Value)) : Prop :=
 vs.length = xss.length ∧ w.ownsRow lo eo 1 v vs.length vs ∧ (∀ (i : Nat) (h : i < vs.length) (h' : i < xss.length), w.ownsRow lo ei 1 vs[i] xss[i].length xss[i])
  ∧ (∀ (i j : Nat) (h : i < vs.length) (h' : j < vs.length), i ≠ j → vs[i].ownBlock = none ∨ vs[i].ownBlock ≠ vs[j].ownBlock)

theorem OwnRows.nil (eo ei lo : Nat) (w : World) : OwnRows eo ei lo w (.slice none 0 0) [] [] := ⟨rfl, World.ownsRow_nil w lo eo 1, fun i h => by simp at h, fun i j h => by simp at h⟩

theorem OwnRows.below {eo ei lo : Nat} {w w' : World} {v : Value} {vs : List Value} {xss : List (List Value)} (h : OwnRows eo ei lo w v vs xss) (hb : Below w.heap.size w w') : OwnRows eo ei lo w' v vs xss := by
 obtain ⟨h1, h2, h3, h4⟩ := h
 exact ⟨h1, owns_below h2 hb, fun i hi hi' => owns_below (h3 i hi hi') hb, h4⟩

/-- A block elsewhere is written. -/
theorem OwnRows.kept {eo ei lo : Nat} {w w' : World} {v : Value} {vs : List Value} {xss : List (List Value)} {row : Option Nat} (h : OwnRows eo ei lo w v vs xss) (hg : w.grownBy w' row) (h0 : v.ownBlock = none ∨ v.ownBlock ≠ row)
  (hr : ∀ (i : Nat) (h : i < vs.length), vs[i].ownBlock = none ∨ vs[i].ownBlock ≠ row) : OwnRows eo ei lo w' v vs xss := by
 obtain ⟨h1, h2, h3, h4⟩ := h
 exact ⟨h1, h2.kept hg h0, fun i hi hi' => (h3 i hi hi').kept hg (hr i hi), h4⟩

/-- The rows lie in blocks of another type than t. -/
theorem own_type_ne {w : World} {base e size n : Nat} {v : Value} {xs : List Value} (h : w.ownsRow base e size v n xs) {b : Nat} {cs : Array Value} {t : TypeId} {f : Nat × Nat} (hb : w.heap[b]? = some (.cells cs t f)) (he : e ≠ t) : v.ownBlock = none ∨ v.ownBlock ≠ some b := by
 rcases h.2 with ⟨rfl, -⟩ | ⟨g, c, u, rfl, -, hg, -⟩
 ·exact .inl rfl
 ·refine .inr fun e1 => ?_
  simp only [Value.ownBlock, Option.some.injEq] at e1
  subst e1
  rw [hb] at hg
  simp only [Option.some.injEq, Obj.cells.injEq] at hg
  exact he hg.2.1.symm
theorem own_map_ne {w : World} {base e size n : Nat} {v : Value} {xs : List Value} (h : w.ownsRow base e size v n xs) {b : Nat} {es : Array MapEntry} {c : Nat} (hb : w.heap[b]? = some (.map es c)) : v.ownBlock = none ∨ v.ownBlock ≠ some b := by
 rcases h.2 with ⟨rfl, -⟩ | ⟨g, c, u, rfl, -, hg, -⟩
 ·exact .inl rfl
 ·refine .inr fun e1 => ?_
  simp only [Value.ownBlock, Option.some.injEq] at e1
  subst e1
  rw [hb] at hg
  cases hg

/-- An empty row more. -/
theorem OwnRows.push {eo ei lo : Nat} {w w' : World} {v v' : Value} {vs : List Value} {xss : List (List Value)} (he : eo ≠ ei) (h : OwnRows eo ei lo w v vs xss)
  (hg : w.grownBy w' v.ownBlock) (hv : w'.ownsRow lo eo 1 v' (vs.length + 1) (vs ++ [.slice none 0 0])) : OwnRows eo ei lo w' v' (vs ++ [.slice none 0 0]) (xss ++ [[]]) := by
 obtain ⟨h1, h2, h3, h4⟩ := h
 refine ⟨by simp [h1], by simpa using hv, fun i hi hi' => ?_, fun i j hi hj hij => ?_⟩
 ·by_cases hlt : i < vs.length
  ·rw [List.getElem_append_left hlt]
   simp only [List.getElem_append_left (show i < xss.length by omega)]
   exact (h3 i hlt (by omega)).kept hg (own_types (h3 i hlt (by omega)) h2 (fun e => he e.symm))
  ·have e : i = vs.length := by simp at hi; omega
   subst e
   simp only [List.getElem_concat_length]
   have : (xss ++ [[]])[vs.length] = [] := by simp [h1]
   rw [this]
   exact World.ownsRow_nil w' lo ei 1
 ·by_cases h1' : i < vs.length
  ·by_cases h2' : j < vs.length
   ·rw [List.getElem_append_left h1', List.getElem_append_left h2']
    exact h4 i j h1' h2' hij
   ·have e : j = vs.length := by simp at hj; omega
    subst e
    rw [List.getElem_append_left h1', List.getElem_concat_length rfl]
    cases hb1 : vs[i].ownBlock with
    | none => exact .inl rfl
    | some b => exact .inr (by simp [Value.ownBlock])
  ·have e : i = vs.length := by simp at hi; omega
   subst e
   rw [List.getElem_concat_length rfl]
   exact .inl rfl

/-- A row grows: its new value is written to its place. -/
theorem OwnRows.grow {eo ei lo : Nat} {w w1 w2 : World} {v v' : Value} {vs : List Value} {xss : List (List Value)} {ys : List Value} (he : eo ≠ ei) (h : OwnRows eo ei lo w v vs xss) (j : Nat) (hj : j < vs.length)
  (hg : w.grownBy w1 vs[j].ownBlock) (ho : w1.ownsRow lo ei 1 v' ys.length ys) (hb : ∀ b, v'.ownBlock = some b → vs[j].ownBlock = some b ∨ w.heap.size ≤ b)
  (hg2 : w1.grownBy w2 v.ownBlock) (hv : w2.ownsRow lo eo 1 v vs.length (vs.set j v')) : OwnRows eo ei lo w2 v (vs.set j v') (xss.set j ys) := by
 obtain ⟨h1, h2, h3, h4⟩ := h
 have h2' : w1.ownsRow lo eo 1 v vs.length vs := h2.kept hg (own_types h2 (h3 j hj (by omega)) he)
 have hnew : w2.ownsRow lo ei 1 v' ys.length ys := ho.kept hg2 (own_types ho h2' (fun e => he e.symm))
 have hne : ∀ (i : Nat) (hi : i < vs.length), i ≠ j → vs[i].ownBlock = none ∨ vs[i].ownBlock ≠ v'.ownBlock := by
  intro i hi hij
  cases hb1 : vs[i].ownBlock with
  | none => exact .inl rfl
  | some b =>
   refine .inr fun e => ?_
   rcases hb b e.symm with h | h
   ·rcases h4 i j hi hj hij with k | k
    ·rw [hb1] at k; cases k
    ·exact k (hb1.trans h.symm)
   ·have := ((h3 i hi (by omega)).lt b hb1).2
    omega
 refine ⟨by simpa using h1, by simpa using hv, fun i hi hi' => ?_, fun i k hi hk hik => ?_⟩
 ·by_cases hij : j = i
  ·subst hij
   simpa using hnew
  ·rw [List.getElem_set_ne hij, List.getElem_set_ne hij]
   simp only [List.length_set] at hi hi'
   have k1 := (h3 i hi hi').kept hg (h4 i j hi hj (fun e => hij e.symm))
   exact k1.kept hg2 (own_types k1 h2' (fun e => he e.symm))
 ·simp only [List.length_set] at hi hk
  by_cases e1 : j = i
  ·subst e1
   rw [List.getElem_set_self, List.getElem_set_ne hik]
   rcases hne k hk (fun e => hik e.symm) with h | h
   ·cases hb2 : v'.ownBlock with
    | none => exact .inl rfl
    | some b => exact .inr (by rw [h]; simp)
   ·exact .inr (fun e => h e.symm)
  ·by_cases e2 : j = k
   ·subst e2
    rw [List.getElem_set_self, List.getElem_set_ne e1]
    exact hne i hi hik
   ·rw [List.getElem_set_ne e1, List.getElem_set_ne e2]
    exact h4 i k hi hk hik

end Go.Proofs.YtifoinannefcpaaGreatDoor

namespace Go.Proofs.YtifoinannefcpaaGreatDoor
open Go Go.RowKit

theorem Index_ints (lo : Nat) (v : Value) (x : Int) (xs : List Int) (w : World) (hv : SliceK 1 encI lo w v xs) :
  Calls Tryz.prog 66 #[v, .int .i64 x] w fun e w' => ∃ r : Int, e = .returned (.int .i64 r) ∧ decide (0 ≤ r) = xs.any (fun y => y == x) ∧ w = w' := by
 obtain ⟨a, c, rfl, hcn, hcc, hrow⟩ := hv
 go_enter Tryz.func66, Tryz.ntmps66
 go_wp2_with fail
 go_loop [8] (fun i => ∃ k : Nat, k ≤ xs.length ∧ i = .int .i64 k ∧ ∀ j (h : j < xs.length), j < k → (x == xs[j]) = false) (fun i => xs.length - (intOf i).toNat)
 case atStart => exact ⟨0, Nat.zero_le _, rfl, fun _ _ h => by omega⟩
 case round =>
  obtain ⟨k, hk, rfl, ha⟩ := hrel
  have HA := Lib.hid ha
  clear ha
  by_cases hlt : k < xs.length
  ·obtain ⟨b1, o1, rfl, -, hbs, c1⟩ := hrow.one hlt
   simp only [encI, List.getElem?_cons_zero] at c1
   clear hrow
   cases h0 : (x == xs[k])
   ·have H0 := Lib.hid h0
    go_wp2_with fail
    go_round
    case rel => exact ⟨k + 1, by omega, by go_num, fun j h hj => by
     by_cases e : j = k
     ·subst e; exact H0.out
     ·exact HA.out j h (by omega)⟩
    case measure => simp [intOf]; omega
   ·have HF : Hid (xs.any (fun y => y == x) = true) := by
     unfold Hid
     rw [List.any_eq_true]
     exact ⟨xs[k], List.getElem_mem _, by rw [beq_iff_eq] at h0 ⊢; exact h0.symm⟩
    go_wp2_with fail
    go_ret
    exact ⟨_, rfl, by rw [HF.out]; simp, rfl⟩
  ·clear hrow
   go_wp2_with fail
   go_ret
   refine ⟨_, rfl, ?_, rfl⟩
   have : xs.any (fun y => y == x) = false := by
    rw [List.any_eq_false]
    intro y hy
    obtain ⟨j, hj, rfl⟩ := List.mem_iff_getElem.1 hy
    have := HA.out j hj (by omega)
    simp at this ⊢
    exact fun e => this e.symm
   rw [this]; simp

theorem Contains_ints (lo : Nat) (v : Value) (x : Int) (xs : List Int) (w : World) (hv : SliceK 1 encI lo w v xs) :
  Calls Tryz.prog 45 #[v, .int .i64 x] w fun e w' => e = .returned (.bool (xs.any fun y => y == x)) ∧ w = w' := by
 have HV := Lib.hid hv
 clear hv
 go_enter Tryz.func45, Tryz.ntmps45
 go_wp2_with fail
 refine (Index_ints lo v x xs _ HV.out).mono ?_
 rintro e w' ⟨r, rfl, hr, rfl⟩
 have HR := Lib.hid hr
 clear hr
 go_wp2_with fail
 go_ret
 exact ⟨ret_bool HR.out, rfl⟩

end Go.Proofs.YtifoinannefcpaaGreatDoor

namespace Go.Proofs.YtifoinannefcpaaGreatDoor
open Go Go.RowKit


def tauT : ByteArray := ⟨#[116, 97, 117]⟩
end Go.Proofs.YtifoinannefcpaaGreatDoor

namespace Go.Proofs.YtifoinannefcpaaGreatDoor
open Go Go.RowKit


theorem blk_own_neL {w : World} {b : Nat} {cs : List Value} {t : TypeId} (h : Blk w b cs t) {base e size n : Nat} {v : Value} {xs : List Value} (ho : w.ownsRow base e size v n xs) (he : e ≠ t) : some b ≠ v.ownBlock := by
 rcases own_type_ne ho (show w.heap[b]? = some (.cells cs.toArray t (0, 0)) from h) he with h | h
 ·rw [h]; simp
 ·exact fun e => h e.symm
/-- Where a text stands in a list. -/
def idxL (L : List ByteArray) (l : ByteArray) : Nat := L.findIdx fun x => x.toList == l.toList
theorem toList_inj {a b : ByteArray} (h : a.toList = b.toList) : a = b := data_inj (by rw [← Lib.toList_data, ← Lib.toList_data, h])
theorem idxL_get {L : List ByteArray} {l : ByteArray} (h : l ∈ L) : ∃ hk : idxL L l < L.length, L[idxL L l] = l ∧ ∀ j (h : j < L.length), j < idxL L l → (l.toList == L[j].toList) = false := by
 have h1 : idxL L l < L.length := by
  unfold idxL
  rw [List.findIdx_lt_length]
  exact ⟨l, h, by rw [beq_iff_eq]⟩
 refine ⟨h1, ?_, fun j hj hlt => ?_⟩
 ·have := List.findIdx_getElem (p := fun x : ByteArray => x.toList == l.toList) (xs := L) (w := h1)
  rw [beq_iff_eq] at this
  exact toList_inj this
 ·have := List.not_of_lt_findIdx (p := fun x : ByteArray => x.toList == l.toList) (xs := L) hlt
  have h2 : (L[j].toList == l.toList) = false := by simpa using this
  rw [beq_eq_false_iff_ne] at h2 ⊢
  exact fun e => h2 e.symm
theorem own_sets {w : World} {base e size n : Nat} {v : Value} {xs : List Value} (h : w.ownsRow base e size v n xs) {b : Nat} {cs : List Value} {t : TypeId} (hb : Blk w b cs t) (he : e ≠ t) (i : Nat) (u : Value) : (w.setCell ⟨b, i, none⟩ u).ownsRow base e size v n xs :=
 h.kept (grown_setCell w ⟨b, i, none⟩ u) (own_type_ne h hb he)
end Go.Proofs.YtifoinannefcpaaGreatDoor

namespace Go.Proofs.YtifoinannefcpaaGreatDoor
open Go Go.RowKit


theorem tauT_list : tauT.toList = tauB := by rw [Lib.toList_data]; rfl
/-- Labels in strict order, tau among them. -/
theorem labelsOk_of {L : List ByteArray} (hp : (L.map (·.data.toList)).Pairwise fun a b => lessL a b = true) (ht : tauT ∈ L) (hn : L.length ≤ 12) (hok : ∀ l ∈ L, l ≠ tauT → labelOk l.data.toList = true) : LabelsOk L := by
 rw [List.pairwise_map, List.pairwise_iff_getElem] at hp
 obtain ⟨k, hk, hkt⟩ := List.mem_iff_getElem.1 ht
 have h0 : k = 0 := by
  rcases Nat.eq_zero_or_pos k with h | h
  ·exact h
  ·have := hp 0 k (by omega) hk h
   rw [hkt, ← Lib.toList_data, ← Lib.toList_data, tauT_list, lessL_iff] at this
   rcases this.2 with h1 | h1
   ·exact absurd h1 this.1
   ·exact absurd rfl h1.1
 subst h0
 have hoth : ∀ i (h : i < L.length), 1 ≤ i → L[i].toList ≠ tauB := fun i hi h1 e => by
  have := hp 0 i hk hi (by omega)
  rw [hkt, ← Lib.toList_data, ← Lib.toList_data, tauT_list, e, lessL_irrefl] at this
  cases this
 refine ⟨by omega, hn, fun h => by rw [hkt, tauT_list], fun i hi h1 => hok _ (List.getElem_mem hi) (fun e => hoth i hi h1 (by rw [e, tauT_list])), hoth, fun i hi h1 => ?_⟩
 have := hp i (i + 1) (by omega) hi (by omega)
 rw [← Lib.toList_data, ← Lib.toList_data, lessL_iff] at this
 unfold strLess
 rw [less_lt, decide_eq_true_eq]
 rcases this.2 with h2 | h2
 ·exact absurd h2 (hoth i (by omega) h1)
 ·exact h2.2

end Go.Proofs.YtifoinannefcpaaGreatDoor

namespace Go.Proofs.YtifoinannefcpaaGreatDoor
open Go Go.RowKit


theorem labSet_is (ls : List ByteArray) : ((labSet ls).map (·.data.toList)).Pairwise (fun a b => lessL a b = true) ∧ ∀ x, x ∈ labSet ls ↔ x ∈ ls := by
 have hs : ((ls.map (·.data.toList)).mergeSort fun x y => !lessL y x).Pairwise fun a b => a = b ∨ lessL a b = true := by
  have h1 := List.pairwise_mergeSort (le := fun x y : List UInt8 => !lessL y x) (fun a b c h1 h2 => by
   simp only [Bool.not_eq_true'] at *
   have := (swo_of_total lessL_irrefl lessL_trans lessL_tri).ntrans c b a h2 h1
   exact this) (fun a b => by
   cases h : lessL b a with
   | false => simp
   | true =>
    cases h2 : lessL a b with
    | false => simp
    | true => have := lessL_trans a b a h2 h; rw [lessL_irrefl] at this; cases this) (ls.map (·.data.toList))
  refine h1.imp fun {a b} h => ?_
  simp only [Bool.not_eq_true'] at h
  cases h2 : lessL a b with
  | true => exact .inr rfl
  | false => exact .inl (lessL_tri a b h2 h)
 obtain ⟨h1, h2⟩ := compact_is (fun a b : List UInt8 => lessL a b = true) lessL_trans _ hs
 have hm : (labSet ls).map (·.data.toList) = Lib.compact ((ls.map (·.data.toList)).mergeSort fun x y => !lessL y x) := by
  unfold labSet
  rw [List.map_map]
  conv => rhs; rw [← List.map_id (Lib.compact ((ls.map (·.data.toList)).mergeSort fun x y => !lessL y x))]
  apply List.map_congr_left
  intro x _
  simp [mkB]
 refine ⟨by rw [hm]; exact h1, fun x => ?_⟩
 have h3 : x ∈ labSet ls ↔ x.data.toList ∈ (labSet ls).map (·.data.toList) := by
  rw [List.mem_map]
  exact ⟨fun h => ⟨x, h, rfl⟩, fun ⟨y, hy, e⟩ => (data_inj e) ▸ hy⟩
 rw [h3, hm, h2, List.mem_mergeSort, List.mem_map]
 exact ⟨fun ⟨y, hy, e⟩ => (data_inj e) ▸ hy, fun h => ⟨x, h, rfl⟩⟩

/-- A list of labels in order, tau first. -/
structure InOrd (L : List ByteArray) : Prop where
 first : L[0]? = some tauT
 asc : (L.map (·.data.toList)).Pairwise fun a b => lessL a b = true
theorem InOrd.set (us : List ByteArray) : InOrd (labSet (tauT :: us)) := by
 obtain ⟨h1, h2⟩ := labSet_is (tauT :: us)
 refine ⟨?_, h1⟩
 have hm := (h2 tauT).2 (by simp)
 obtain ⟨i, hi, he⟩ := List.mem_iff_getElem.1 hm
 rcases Nat.eq_zero_or_pos i with h | h
 ·subst h; rw [List.getElem?_eq_getElem hi, he]
 ·have h3 := h1
  rw [List.pairwise_map, List.pairwise_iff_getElem] at h3
  have h4 := h3 0 i (by omega) hi h
  rw [he, lessL_iff] at h4
  rcases h4.2 with h5 | h5
  ·exact absurd (h5.trans (by rw [← Lib.toList_data, tauT_list])) h4.1
  ·exact absurd (by rw [← Lib.toList_data, tauT_list]) h5.1
theorem InOrd.less {L : List ByteArray} (h : InOrd L) {i j : Nat} (hij : i < j) (hj : j < L.length) : lessL (L[i]'(by omega)).data.toList L[j].data.toList = true := by
 have := h.asc
 rw [List.pairwise_map, List.pairwise_iff_getElem] at this
 exact this i j (by omega) hj hij
theorem InOrd.pos {L : List ByteArray} (h : InOrd L) : 0 < L.length := (List.getElem?_eq_some_iff.1 h.first).1
theorem InOrd.notau {L : List ByteArray} (h : InOrd L) {j : Nat} (h1 : 1 ≤ j) (hj : j < L.length) : L[j].data.toList ≠ tauB := by
 have h2 := h.less (show 0 < j by omega) hj
 obtain ⟨h0, e⟩ := List.getElem?_eq_some_iff.1 h.first
 rw [e, lessL_iff] at h2
 intro e2
 exact h2.1 (by rw [e2, ← Lib.toList_data, tauT_list])
/-- A text that is not there is put to its place. -/
theorem InOrd.put {us L : List ByteArray} {x : ByteArray} {k : Nat} (hL : L = labSet (tauT :: us)) (hx : ∀ y ∈ L, y.toList ≠ x.toList) (h1 : 1 ≤ k) (hk : k ≤ L.length) (hlo : ∀ j (h : j < L.length), 1 ≤ j → j < k → strLess L[j] x = true) (hhi : ∀ h : k < L.length, strLess L[k] x = false) :
  L.take k ++ x :: L.drop k = labSet (tauT :: (us ++ [x])) := by
 have hO : InOrd L := by rw [hL]; exact InOrd.set us
 obtain ⟨-, hm⟩ := labSet_is (tauT :: us)
 rw [← hL] at hm
 have hxt : x.data.toList ≠ tauB := by
  intro e
  have h0 := hO.pos
  obtain ⟨h3, e3⟩ := List.getElem?_eq_some_iff.1 hO.first
  refine hx L[0] (List.getElem_mem _) ?_
  rw [e3, tauT_list, Lib.toList_data, e]
 have hlt : ∀ j (h : j < L.length), j < k → lessL L[j].data.toList x.data.toList = true := by
  intro j hj hjk
  rw [lessL_iff]
  have hne : L[j].data.toList ≠ x.data.toList := fun e => hx L[j] (List.getElem_mem _) (by rw [Lib.toList_data, Lib.toList_data, e])
  refine ⟨hne, ?_⟩
  rcases Nat.eq_zero_or_pos j with h | h
  ·subst h
   obtain ⟨h3, e3⟩ := List.getElem?_eq_some_iff.1 hO.first
   exact .inl (by rw [e3, ← Lib.toList_data, tauT_list])
  ·have h2 := hlo j hj h hjk
   unfold strLess at h2
   rw [less_lt, decide_eq_true_eq, Lib.toList_data, Lib.toList_data] at h2
   exact .inr ⟨hxt, h2⟩
 have hgt : ∀ j (h : j < L.length), k ≤ j → lessL x.data.toList L[j].data.toList = true := by
  have hk0 : ∀ h : k < L.length, lessL x.data.toList L[k].data.toList = true := by
   intro h
   have h2 := hhi h
   have hne : x.data.toList ≠ L[k].data.toList := fun e => hx L[k] (List.getElem_mem _) (by rw [Lib.toList_data, Lib.toList_data, e])
   cases h3 : lessL x.data.toList L[k].data.toList with
   | true => rfl
   | false =>
    exfalso
    have h4 : lessL L[k].data.toList x.data.toList = true := by
     cases h5 : lessL L[k].data.toList x.data.toList with
     | true => rfl
     | false => exact absurd (lessL_tri _ _ h3 h5) hne
    rw [lessL_iff] at h4
    rcases h4.2 with h5 | h5
    ·exact hO.notau h1 h h5
    ·unfold strLess at h2
     rw [less_lt, decide_eq_false_iff_not, Lib.toList_data, Lib.toList_data] at h2
     exact h2 h5.2
  intro j hj hkj
  rcases Nat.eq_or_lt_of_le hkj with e | h
  ·subst e; exact hk0 hj
  ·exact lessL_trans _ _ _ (hk0 (by omega)) (hO.less h hj)
 refine (labSet_eq ?_ fun y => ?_).symm
 ·rw [List.map_append, List.map_cons, List.pairwise_append]
  have ha := hO.asc
  refine ⟨?_, ?_, ?_⟩
  ·rw [List.map_take]; exact ha.sublist (List.take_sublist _ _)
  ·rw [List.pairwise_cons]
   refine ⟨fun y hy => ?_, by rw [List.map_drop]; exact ha.sublist (List.drop_sublist _ _)⟩
   obtain ⟨z, hz, rfl⟩ := List.mem_map.1 hy
   obtain ⟨i, hi, rfl⟩ := List.mem_iff_getElem.1 hz
   rw [List.getElem_drop]
   exact hgt _ _ (by omega)
  ·intro y hy z hz
   obtain ⟨y2, hy2, rfl⟩ := List.mem_map.1 hy
   obtain ⟨i, hi, rfl⟩ := List.mem_iff_getElem.1 hy2
   rw [List.length_take] at hi
   rw [List.getElem_take]
   rcases List.mem_cons.1 hz with rfl | hz
   ·exact hlt _ _ (by omega)
   ·obtain ⟨z2, hz2, rfl⟩ := List.mem_map.1 hz
    obtain ⟨j, hj, rfl⟩ := List.mem_iff_getElem.1 hz2
    rw [List.getElem_drop]
    exact hO.less (by omega) _
 ·have h5 : y ∈ L.take k ++ x :: L.drop k ↔ y ∈ L ∨ y = x := by
   rw [List.mem_append, List.mem_cons]
   conv => rhs; rw [← List.take_append_drop k L, List.mem_append]
   constructor
   ·rintro (h | h | h)
    ·exact .inl (.inl h)
    ·exact .inr h
    ·exact .inl (.inr h)
   ·rintro ((h | h) | h)
    ·exact .inl h
    ·exact .inr (.inr h)
    ·exact .inr (.inl h)
  rw [h5, hm]
  simp only [List.mem_cons, List.mem_append, List.not_mem_nil, or_false]
  constructor
  ·rintro (h | h | h)
   ·exact .inl (.inl h)
   ·exact .inl (.inr h)
   ·exact .inr h
  ·rintro ((h | h) | h)
   ·exact .inl h
   ·exact .inr (.inl h)
   ·exact .inr (.inr h)
theorem InOrd.same {us L : List ByteArray} {x : ByteArray} (hL : L = labSet (tauT :: us)) (hx : x ∈ L) : L = labSet (tauT :: (us ++ [x])) := by
 have hO : InOrd L := by rw [hL]; exact InOrd.set us
 obtain ⟨-, hm⟩ := labSet_is (tauT :: us)
 rw [← hL] at hm
 refine (labSet_eq hO.asc fun y => ?_).symm
 rw [hm]
 have := (hm x).1 hx
 simp only [List.mem_cons, List.mem_append, List.not_mem_nil, or_false] at this ⊢
 constructor
 ·rintro (h | h | h)
  ·exact .inl h
  ·exact .inr h
  ·subst h; exact this
 ·rintro (h | h)
  ·exact .inl h
  ·exact .inr (.inl h)
/-- While the tail is moved up: a junk text at the place k. -/
def shiftAt (L : List ByteArray) (j : ByteArray) (k : Nat) : List ByteArray := L.take k ++ j :: L.drop k
theorem shiftAt_end (L : List ByteArray) (j : ByteArray) : L ++ [j] = shiftAt L j L.length := by simp [shiftAt]
theorem shiftAt_get {L : List ByteArray} {j : ByteArray} {k : Nat} (h1 : 1 ≤ k) (hk : k ≤ L.length) : (shiftAt L j k)[k - 1]? = some (L[k - 1]'(by omega)) := by
 unfold shiftAt
 rw [List.getElem?_append_left (by rw [List.length_take]; omega), List.getElem?_take, if_pos (by omega), List.getElem?_eq_getElem (by omega)]
theorem shiftAt_set {L : List ByteArray} {j : ByteArray} {k : Nat} (h1 : 1 ≤ k) (hk : k ≤ L.length) : (shiftAt L j k).set k (L[k - 1]'(by omega)) = shiftAt L (L[k - 1]'(by omega)) (k - 1) := by
 unfold shiftAt
 have hl : (L.take k).length = k := by rw [List.length_take]; omega
 rw [List.set_append_right _ _ (by omega), hl, Nat.sub_self, List.set_cons_zero]
 have h2 : L.take k = L.take (k - 1) ++ [L[k - 1]'(by omega)] := by
  have := List.take_succ_eq_append_getElem (l := L) (i := k - 1) (by omega)
  rw [show k - 1 + 1 = k from by omega] at this
  exact this
 have h3 : L.drop (k - 1) = L[k - 1]'(by omega) :: L.drop k := by
  have := List.drop_eq_getElem_cons (l := L) (i := k - 1) (by omega)
  rw [show k - 1 + 1 = k from by omega] at this
  exact this
 rw [h2, h3, List.append_assoc]
 rfl
theorem shiftAt_put {L : List ByteArray} {j x : ByteArray} {k : Nat} (hk : k ≤ L.length) : (shiftAt L j k).set k x = L.take k ++ x :: L.drop k := by
 unfold shiftAt
 have hl : (L.take k).length = k := by rw [List.length_take]; omega
 rw [List.set_append_right _ _ (by omega), hl, Nat.sub_self, List.set_cons_zero]

theorem info_strJ : (Tryz.prog.info? 9).map (fun i => (i.zero, i.size, i.bytes)) = some (some (.string ⟨#[]⟩), 1, 16) := by kernel_rfl
theorem tau_one : labSet [tauT] = [tauT] := by
 refine labSet_eq (by simp) fun x => Iff.rfl

end Go.Proofs.YtifoinannefcpaaGreatDoor
