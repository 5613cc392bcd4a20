/-
  Plain laws for lts within determinize: the labels in use, the edges by them, that they lead back.
  The reference's l11Put: an edge is put to its place among rising ones, once.
  The labels of two systems together: the reference's list of them, kept in order by insertion, is the set of all labels.
  The reference's l11Join: the set of all labels.
  Lists of texts and lists of such lists of the call's own: how they lie in memory.
-/
import Derived.Test.YtdkbbknhighebaaGreatDoorL5
import Derived.Test.YtdkbbknhighebaaGreatDoorL2
import Derived.Test.YtdkbbknhighebaaGreatDoorL1
import Derived.Test.YtdkbbknhighebaaGreatDoorL4
import Derived.Maps.AppendAt
import Derived.Deep.AppendLies
namespace Go.Proofs.YtdkbbknhighebaaGreatDoor
open Go Go.RowKit


theorem tauT_list : tauT.toList = tauB := by rw [Lib.toList_data]; rfl
/-- Labels in strict order, tau among them. -/
theorem labelsOk_of {L : List ByteArray} (hp : (L.map (·.data.toList)).Pairwise fun a b => lessL a b = true) (ht : tauT ∈ L) (hn : L.length ≤ 12) (hok : ∀ l ∈ L, l ≠ tauT → labelOk l.data.toList = true) : LabelsOk L := by
 rw [List.pairwise_map, List.pairwise_iff_getElem] at hp
 obtain ⟨k, hk, hkt⟩ := List.mem_iff_getElem.1 ht
 have h0 : k = 0 := by
  rcases Nat.eq_zero_or_pos k with h | h
  ·exact h
  ·have := hp 0 k (by omega) hk h
   rw [hkt, ← Lib.toList_data, ← Lib.toList_data, tauT_list, lessL_iff] at this
   rcases this.2 with h1 | h1
   ·exact absurd h1 this.1
   ·exact absurd rfl h1.1
 subst h0
 have hoth : ∀ i (h : i < L.length), 1 ≤ i → L[i].toList ≠ tauB := fun i hi h1 e => by
  have := hp 0 i hk hi (by omega)
  rw [hkt, ← Lib.toList_data, ← Lib.toList_data, tauT_list, e, lessL_irrefl] at this
  cases this
 refine ⟨by omega, hn, fun h => by rw [hkt, tauT_list], fun i hi h1 => hok _ (List.getElem_mem hi) (fun e => hoth i hi h1 (by rw [e, tauT_list])), hoth, fun i hi h1 => ?_⟩
 have := hp i (i + 1) (by omega) hi (by omega)
 rw [← Lib.toList_data, ← Lib.toList_data, lessL_iff] at this
 unfold strLess
 rw [less_lt, decide_eq_true_eq]
 rcases this.2 with h2 | h2
 ·exact absurd h2 (hoth i (by omega) h1)
 ·exact h2.2

end Go.Proofs.YtdkbbknhighebaaGreatDoor

namespace Go.Proofs.YtdkbbknhighebaaGreatDoor
open Go Go.RowKit


theorem info_edgeP : (Tryz.prog.info? 47).map (fun i => (i.zero, i.size, i.bytes)) = some (some (.agg #[.int .i64 0, .int .i64 0, .int .i64 0]), 3, 24) := by kernel_rfl
theorem own_someP {w : World} {base e size n : Nat} {v : Value} {xs : List Value} (h : w.ownsRow base e size v n xs) (hn : 0 < n) : ∃ g c, v = .slice (some ⟨g, 0, none⟩) n c ∧ base ≤ g ∧ g < w.heap.size := by
 rcases h.2 with ⟨h1, h0⟩ | ⟨g, cap, cur, h1, h2, hg, -⟩
 ·omega
 ·exact ⟨g, cap, h1, h2, (Array.getElem?_eq_some_iff.1 hg).1⟩
/-- A rising list with one edge more. -/
def PutIs (E : List Edge) (e : Edge) (R : List Edge) : Prop := RiseE R ∧ R.length ≤ E.length + 1 ∧ ∀ x, x ∈ R ↔ x ∈ E ∨ x = e

set_option maxRecDepth 100000 in
set_option maxHeartbeats 4000000 in
theorem l11Put_any (base : Nat) (v : Value) (E : List Edge) (e : Edge) (w : World) (ho : w.ownsRow base 47 3 v E.length (E.flatMap encE)) (hr : RiseE E) (hb : base ≤ w.heap.size) (hz : E.length ≤ 1000) :
  Calls Tryz.prog 58 #[v, .agg #[.int .i64 e.src, .int .i64 e.lab, .int .i64 e.dst]] w fun en w' => ∃ v' R, en = .returned v' ∧ w.grownBy w' v.ownBlock ∧ w'.ownsRow base 47 3 v' R.length (R.flatMap encE) ∧ PutIs E e R := by
 obtain ⟨va, vc, rfl, hvc, hvm⟩ := owns_slice ho
 obtain ⟨N, hN⟩ : ∃ N, N = E.length := ⟨_, rfl⟩
 obtain ⟨xb, hxb⟩ : ∃ xb, xb = w.heap.size := ⟨_, rfl⟩
 obtain ⟨wA, hwA⟩ : ∃ wA, wA = w.alloc (.cells #[.int .i64 e.src, .int .i64 e.lab, .int .i64 e.dst] 47) := ⟨_, rfl⟩
 have hbA : Below w.heap.size w wA := by rw [hwA]; exact (Below.refl _ _).alloc (Nat.le_refl _) _
 have hX : Blk wA xb [.int .i64 e.src, .int .i64 e.lab, .int .i64 e.dst] 47 := by rw [hwA, hxb]; exact Blk.new w _ _
 obtain ⟨row, hrow9⟩ : ∃ row, row = (Value.slice va E.length vc).ownBlock := ⟨_, rfl⟩
 have HROW9 := Lib.hid hrow9
 have HRB : Hid (∀ b, row = some b → b < xb) := fun b e9 => by rw [hxb]; exact (ho.lt b (by rw [← hrow9]; exact e9)).2
 clear hrow9
 have HO := Lib.hid (owns_below ho hbA)
 have hsk : SliceK 3 encE base wA (.slice va E.length vc) E := SliceK.of_owns encE_len rfl HO.out
 obtain ⟨a9, c9, h9, -, -, hrow⟩ := hsk
 simp only [Value.slice.injEq, true_and] at h9
 obtain ⟨rfl, rfl⟩ := h9
 have HROW := Lib.hid hrow
 rw [← hN] at hz hvc HO HROW9 ⊢
 have HN := Lib.hid hN
 have HR := Lib.hid hr
 have HX := Lib.hid hX
 have HBA := Lib.hid hbA
 have HWA := Lib.hid hwA
 have HXB := Lib.hid hxb
 have hsA : base ≤ wA.heap.size := Nat.le_trans hb hbA.size
 obtain ⟨i3, hi3, hz30, hz31, hz32⟩ := info_parts info_edgeP
 clear ho hr hwA hbA hX hrow hN hxb hb
 go_enter Tryz.func58, Tryz.ntmps58
 go_wp2
 rw [← HWA.out]
 try rw [← HXB.out]
 go_loopw [5] (fun v5 wr => ∃ k : Nat, k ≤ N ∧ v5 = .int .i64 k ∧ Below wA.heap.size wA wr ∧ ∀ j (h : j < E.length), k ≤ j → edgeLess e E[j] = true) (fun v5 _ => (intOf v5).toNat)
 case atStart => exact ⟨N, Nat.le_refl _, rfl, Below.refl _ _, fun j h hj => by have := HN.out; omega⟩
 case round =>
  obtain ⟨k, hk, rfl, hbl, hhi⟩ := hrel
  obtain ⟨wC, rfl⟩ : ∃ wC : World, wC = wr := ⟨_, rfl⟩
  have HBL := Lib.hid hbl
  have HHI := Lib.hid hhi
  have hszC := hbl.size
  clear hhi
  by_cases h0 : 0 < k
  ·obtain ⟨m, rfl⟩ : ∃ m, k = m + 1 := ⟨k - 1, by omega⟩
   have hm2 : m < E.length := by have := HN.out; omega
   obtain ⟨g, o, rfl, hgB, hgw, e1, e2, e3⟩ := (HROW.out.below hbl).edge hm2
   obtain ⟨x, hx⟩ : ∃ x, x = E[m] := ⟨_, rfl⟩
   rw [← hx] at e1 e2 e3
   have hXC := HX.out.below hbl
   have HLS := Lib.hid (l11Less_any xb 0 g (o + m * 3) e x wC ⟨hXC.cell 0 rfl, hXC.cell 1 rfl, hXC.cell 2 rfl⟩ ⟨e1, e2, e3⟩)
   obtain ⟨lb, hlb⟩ : ∃ lb, lb = edgeLess e x := ⟨_, rfl⟩
   rw [← hlb] at HLS
   have HLB := Lib.hid hlb
   have HXX := Lib.hid hx
   have E1 := Lib.hid e1
   have E2 := Lib.hid e2
   have E3 := Lib.hid e3
   have hm1 : (((m + 1 : Nat) : Int) - 1) = (m : Int) := by omega
   clear hbl hx hlb hXC e1 e2 e3
   go_wp2_with fail
   refine Calls.mono HLS.out ?_
   rintro en w2 ⟨rfl, hb2⟩
   have HB2 := Lib.hid (HBL.out.trans (hb2.mono hszC))
   have HB02 := Lib.hid hb2
   have hsz2 := HB2.out.size
   clear HLS
   cases lb with
   | true =>
    clear hb2
    go_wp2
    go_roundw
    case rel => exact ⟨m, by omega, by go_num, HB2.out, fun j h hj => by
     by_cases e9 : j = m
     ·subst e9; rw [← HXX.out]; exact HLB.out.symm
     ·exact HHI.out j h (by omega)⟩
    case measure => simp [intOf]
   | false =>
    -- the place is found: m + 1
    have f1 := keeps hb2 hgw E1.out
    have f2 := keeps hb2 hgw E2.out
    have f3 := keeps hb2 hgw E3.out
    have x1 := (HX.out.below HB2.out).cell 0 rfl
    have x2 := (HX.out.below HB2.out).cell 1 rfl
    have x3 := (HX.out.below HB2.out).cell 2 rfl
    have hgw2 : g < w2.heap.size := Nat.lt_of_lt_of_le hgw hb2.size
    have hxw2 : xb < w2.heap.size := (HX.out.below HB2.out).lt
    have lf1 := later_cell hgw2 f1
    have lf2 := later_cell hgw2 f2
    have lf3 := later_cell hgw2 f3
    have lx1 := later_cell hxw2 x1
    have lx2 := later_cell hxw2 x2
    have lx3 := later_cell hxw2 x3
    have hE := fun w' => eqEdge x e w'
    have hGd := fun (op : BinOp) (a b : Operand) (w : World) => guardEdge op a b #[.int .i64 x.src, .int .i64 x.lab, .int .i64 x.dst] #[.int .i64 e.src, .int .i64 e.lab, .int .i64 e.dst] w
    have hpos : decide ((0 : Int) < ((m + 1 : Nat) : Int)) = true := decide_eq_true (by omega)
    have hpos2 : (0 : Int) < ((m + 1 : Nat) : Int) := by omega
    clear hb2 f1 f2 f3 x1 x2 x3
    cases hq : (x.src == e.src && x.lab == e.lab && x.dst == e.dst) with
    | true =>
     rw [hq] at hE
     have HF : Hid (PutIs E e E) := by
      refine ⟨HR.out, Nat.le_succ _, fun y => ⟨.inl, fun h => h.elim id fun h => ?_⟩⟩
      rw [h]
      have : e = x := by
       simp only [Bool.and_eq_true, beq_iff_eq] at hq
       obtain ⟨⟨h1, h2⟩, h3⟩ := hq
       cases x; cases e
       simp only at h1 h2 h3
       subst h1 h2 h3
       rfl
      rw [this, HXX.out]
      exact List.getElem_mem _
     clear hq
     go_wp2
     refine wp_region_later (by kernel_rfl) (by kernel_rfl) ?_
     repeat (go_big_quiet_step ((fail)))
     refine wpQuiet_nil ?_
     intro _ hw9
     obtain ⟨nl, hw8⟩ := hw9
     subst hw8
     have HBN := Lib.hid (HBA.out.trans ((HB2.out.trans (nl.h.mono hsz2)).mono HBA.out.size))
     have HON := Lib.hid (owns_below (owns_below HO.out HB2.out) nl.h)
     clear lf1 lf2 lf3 lx1 lx2 lx3 hE hGd
     go_wp2
     go_ret
     exact ⟨_, E, rfl, grown_below HBN.out _, by rw [← HN.out]; exact HON.out, HF.out⟩
    | false =>
     rw [hq] at hE
     have hlt : edgeLess x e = true := by
      cases h : edgeLess x e with
      | true => rfl
      | false =>
       have h2 := edgeLess_tri x e h HLB.out.symm
       rw [h2] at hq
       simp at hq
     have HPR : Hid (PutIs E e (E.take (m + 1) ++ e :: E.drop (m + 1))) := ⟨put_rise HR.out (by have := HN.out; omega) HHI.out (fun _ => by simp only [Nat.add_sub_cancel]; rw [← HXX.out]; exact hlt), by rw [put_len]; exact Nat.le_refl _, put_mem⟩
     clear hq hlt
     go_wp2
     refine wp_region_later (by kernel_rfl) (by kernel_rfl) ?_
     repeat (go_big_quiet_step ((fail)))
     refine wpQuiet_nil ?_
     intro _ hw9
     obtain ⟨nl, hw8⟩ := hw9
     subst hw8
     obtain ⟨wE, hwE⟩ : ∃ wE, wE = nl.w := ⟨_, rfl⟩
     have hbE : Below w2.heap.size w2 wE := by rw [hwE]; exact nl.h
     have HBE : Hid (Below wA.heap.size wA wE) := HB2.out.trans (hbE.mono hsz2)
     rw [← hwE]
     clear lf1 lf2 lf3 lx1 lx2 lx3 hE hGd hwE hbE hm1 hpos hpos2
     clear nl
     have HOE := Lib.hid (owns_below HO.out HBE.out)
     have hszE := HBE.out.size
     have HWE : Hid (Below w.heap.size w (wE.alloc (.cells #[.int .i64 0, .int .i64 0, .int .i64 0] 47))) := (HBA.out.trans (HBE.out.mono HBA.out.size)).alloc (Nat.le_trans HBA.out.size hszE) _
     go_wp2_with (at_builtin; refine wpList_append_own_at _ rfl _ _ 25 rfl base 47 i3 (.agg #[.int .i64 0, .int .i64 0, .int .i64 0]) 3 24 Tryz.underlying25 hi3 hz30 hz31 hz32 rfl (by decide) _ N _ rfl (HOE.out.alloc _) ⟨wE.heap.size, 0, none⟩ 1 1 [.int .i64 0, .int .i64 0, .int .i64 0] rfl rfl (World.news_of_block (cs := #[.int .i64 0, .int .i64 0, .int .i64 0]) (t := 47) (fr := (0, 0)) (heap_alloc_new _ _)) ?k2 ?k3 ?k4 ?k5 ?_)
     case k2 => first | (intro u hu; simp at hu; subst hu; rfl) | rfl
     case k3 => first | (simp [maxLen]; omega) | omega
     case k4 => omega
     case k5 => first | omega | (simp; omega)
     intro v7 w7 ho7 hg7 _ ha7
     obtain ⟨g7, c7, rfl, hgB, hgw⟩ := own_someP ho7 (by omega)
     have hfl : E.flatMap encE ++ [.int .i64 0, .int .i64 0, .int .i64 0] = (shiftG E (⟨0, 0, 0⟩ : Edge) N).flatMap encE := by
      rw [HN.out, ← shiftG_end, List.flatMap_append]
      rfl
     have hc7 : N + 1 ≤ c7 ∧ c7 ≤ maxLen := by
      obtain ⟨a, c, e9, h1, h2⟩ := owns_slice ho7
      simp only [Value.slice.injEq] at e9
      obtain ⟨-, -, rfl⟩ := e9
      exact ⟨h1, h2⟩
     rw [hfl] at ho7
     have HE7 : Hid (EdgesAt w7 g7 (N + 1) c7 (shiftG E (⟨0, 0, 0⟩ : Edge) N)) := CellsAt.of_owns3 ho7
     have HG7 : Hid (w.grownBy w7 row) := by unfold Hid; rw [HROW9.out]; exact grown_trans (grown_below HWE.out _) hg7
     have HGR : Hid (row = some g7 ∨ w.heap.size ≤ g7) := by
      unfold Hid
      rcases ha7 with h | h
      ·left; rw [HROW9.out]; exact h.symm
      ·right
       simp only [Value.ownBlock, Option.some.injEq] at h
       have := HBA.out.size
       omega
     have HXG : Hid (xb ≠ g7) := by
      unfold Hid
      rcases ha7 with h | h
      ·have := HRB.out g7 (by rw [HROW9.out]; exact h.symm)
       omega
      ·simp only [Value.ownBlock, Option.some.injEq] at h
       have := HX.out.lt
       omega
     have HX7 : Hid (Blk w7 xb [.int .i64 e.src, .int .i64 e.lab, .int .i64 e.dst] 47) := by
      have h := (HX.out.below HBE.out).alloc (.cells #[.int .i64 0, .int .i64 0, .int .i64 0] 47)
      refine (hg7.block xb h.lt fun e9 => ?_).trans h
      have := HRB.out xb (by rw [HROW9.out]; exact e9.symm)
      omega
     have HGB : Hid (base ≤ g7) := hgB
     have HC7 := Lib.hid hc7
     clear ho7 hg7 ha7 hgB hfl hc7
     go_wp2
     go_loopw [6] (fun v6 wr => ∃ (mm : Nat) (j : Edge), (m + 1) ≤ mm ∧ mm ≤ N ∧ v6 = .int .i64 mm ∧ EdgesAt wr g7 (N + 1) c7 (shiftG E j mm) ∧ w.grownBy wr row ∧ Blk wr xb [.int .i64 e.src, .int .i64 e.lab, .int .i64 e.dst] 47) (fun v6 _ => (intOf v6).toNat)
     case atStart => exact ⟨N, ⟨0, 0, 0⟩, by omega, Nat.le_refl _, by first | rfl | go_num, HE7.out, HG7.out, HX7.out⟩
     case round =>
      obtain ⟨mm, j, hK1, hmN, rfl, hed, hgr9, hxb9⟩ := hrel
      have HXB9 := Lib.hid hxb9
      obtain ⟨w9, rfl⟩ : ∃ w9 : World, w9 = wr := ⟨_, rfl⟩
      have HED := Lib.hid hed
      have HGR9 := Lib.hid hgr9
      have hlen : (shiftG E j mm).length = N + 1 := by rw [shiftG_len, ← HN.out]
      have hj : (shiftG E j mm)[mm]? = some j := by
       unfold shiftG
       have hl : (E.take mm).length = mm := by rw [List.length_take, ← HN.out]; omega
       rw [List.getElem?_append_right (by omega), hl, Nat.sub_self]
       rfl
      obtain ⟨t1, t2, t3⟩ := EdgesAt.get hed hlen (k := mm) (by omega) hj
      have z1 := CellsAt.frozen hed (mm * 3)
      have z2 := CellsAt.frozen hed (mm * 3 + 1)
      have z3 := CellsAt.frozen hed (mm * 3 + 2)
      have hglt := CellsAt.lt hed
      by_cases hgt : (m + 1) < mm
      ·obtain ⟨q, rfl⟩ : ∃ q, mm = q + 1 := ⟨mm - 1, by omega⟩
       have hq2 : q < E.length := by rw [← HN.out]; omega
       have hget := shiftG_get (L := E) (j := j) (k := q + 1) (by omega) (by omega)
       simp only [Nat.add_sub_cancel] at hget
       obtain ⟨s1, s2, s3⟩ := EdgesAt.get hed hlen (k := q) (by omega) hget
       have hput := EdgesAt.put hed hlen (k := q + 1) (by omega) E[q]
       have hss := shiftG_set (L := E) (j := j) (k := q + 1) (by omega) (by omega)
       simp only [Nat.add_sub_cancel] at hss
       rw [hss] at hput
       obtain ⟨y, hy⟩ : ∃ y, y = E[q] := ⟨_, rfl⟩
       rw [← hy] at s1 s2 s3 hput
       have HPUT := Lib.hid hput
       have HGS := Lib.hid (grown_sets (a := (q + 1) * 3) (b := (q + 1) * 3 + 1) (c := (q + 1) * 3 + 2) (x := .int .i64 y.src) (y := .int .i64 y.lab) (z := .int .i64 y.dst) hgr9 HGR.out)
       have hgt2 : (m : Int) + 1 < ((q + 1 : Nat) : Int) := by omega
       have hgt3 : (m : Int) < (q : Int) := by omega
       have hq1 : (((q + 1 : Nat) : Int) - 1) = (q : Int) := by omega
       have HXP := Lib.hid (((hxb9.setOther ⟨g7, (q + 1) * 3, none⟩ (.int .i64 y.src) HXG.out).setOther ⟨g7, (q + 1) * 3 + 1, none⟩ (.int .i64 y.lab) HXG.out).setOther ⟨g7, (q + 1) * 3 + 2, none⟩ (.int .i64 y.dst) HXG.out)
       clear hed hgr9 hlen hj hget hput hss hy hq2 hxb9
       go_wp2
       go_roundw
       case rel => exact ⟨q, y, by omega, by omega, by go_num, HPUT.out, HGS.out, HXP.out⟩
       case measure => simp [intOf]
      ·have hmK : mm = (m + 1) := by omega
       subst hmK
       have hput := EdgesAt.put hed hlen (k := (m + 1)) (by omega) e
       rw [shiftG_put (by rw [← HN.out]; omega)] at hput
       have HPUT := Lib.hid hput
       have HGS := Lib.hid (grown_sets (a := (m + 1) * 3) (b := (m + 1) * 3 + 1) (c := (m + 1) * 3 + 2) (x := .int .i64 e.src) (y := .int .i64 e.lab) (z := .int .i64 e.dst) hgr9 HGR.out)
       have x1 := hxb9.cell 0 rfl
       have x2 := hxb9.cell 1 rfl
       have x3 := hxb9.cell 2 rfl
       have hxl9 := hxb9.lt
       have hge2 : ¬ (m : Int) + 1 < ((m + 1 : Nat) : Int) := by omega
       clear hed hgr9 hlen hj hput hxb9
       go_wp2
       go_ret
       have hA9 := HGS.out
       rw [HROW9.out] at hA9
       refine ⟨_, rfl, hA9, _, ?_, HPR.out⟩
       rw [put_len, ← HN.out]
       exact CellsAt.owns3 HPUT.out HGB.out HC7.out.1 HC7.out.2
  ·obtain rfl : k = 0 := by omega
   have HPR : Hid (PutIs E e (E.take 0 ++ e :: E.drop 0)) := ⟨put_rise HR.out (Nat.zero_le _) HHI.out (fun h => absurd h (Nat.lt_irrefl 0)), by rw [put_len]; exact Nat.le_refl _, put_mem⟩
   have hpos : decide ((0 : Int) < ((0 : Nat) : Int)) = false := by decide
   clear hbl
   go_wp2
   refine wp_region_later (by kernel_rfl) (by kernel_rfl) ?_
   repeat (go_big_quiet_step ((fail)))
   refine wpQuiet_nil ?_
   intro _ hw9
   obtain ⟨nl, hw8⟩ := hw9
   subst hw8
   obtain ⟨wE, hwE⟩ : ∃ wE, wE = nl.w := ⟨_, rfl⟩
   have hbE : Below wC.heap.size wC wE := by rw [hwE]; exact nl.h
   have HBE : Hid (Below wA.heap.size wA wE) := HBL.out.trans (hbE.mono hszC)
   rw [← hwE]
   clear hwE hbE hpos
   clear nl
   have HOE := Lib.hid (owns_below HO.out HBE.out)
   have hszE := HBE.out.size
   have HWE : Hid (Below w.heap.size w (wE.alloc (.cells #[.int .i64 0, .int .i64 0, .int .i64 0] 47))) := (HBA.out.trans (HBE.out.mono HBA.out.size)).alloc (Nat.le_trans HBA.out.size hszE) _
   go_wp2_with (at_builtin; refine wpList_append_own_at _ rfl _ _ 25 rfl base 47 i3 (.agg #[.int .i64 0, .int .i64 0, .int .i64 0]) 3 24 Tryz.underlying25 hi3 hz30 hz31 hz32 rfl (by decide) _ N _ rfl (HOE.out.alloc _) ⟨wE.heap.size, 0, none⟩ 1 1 [.int .i64 0, .int .i64 0, .int .i64 0] rfl rfl (World.news_of_block (cs := #[.int .i64 0, .int .i64 0, .int .i64 0]) (t := 47) (fr := (0, 0)) (heap_alloc_new _ _)) ?k2 ?k3 ?k4 ?k5 ?_)
   case k2 => first | (intro u hu; simp at hu; subst hu; rfl) | rfl
   case k3 => first | (simp [maxLen]; omega) | omega
   case k4 => omega
   case k5 => first | omega | (simp; omega)
   intro v7 w7 ho7 hg7 _ ha7
   obtain ⟨g7, c7, rfl, hgB, hgw⟩ := own_someP ho7 (by omega)
   have hfl : E.flatMap encE ++ [.int .i64 0, .int .i64 0, .int .i64 0] = (shiftG E (⟨0, 0, 0⟩ : Edge) N).flatMap encE := by
    rw [HN.out, ← shiftG_end, List.flatMap_append]
    rfl
   have hc7 : N + 1 ≤ c7 ∧ c7 ≤ maxLen := by
    obtain ⟨a, c, e9, h1, h2⟩ := owns_slice ho7
    simp only [Value.slice.injEq] at e9
    obtain ⟨-, -, rfl⟩ := e9
    exact ⟨h1, h2⟩
   rw [hfl] at ho7
   have HE7 : Hid (EdgesAt w7 g7 (N + 1) c7 (shiftG E (⟨0, 0, 0⟩ : Edge) N)) := CellsAt.of_owns3 ho7
   have HG7 : Hid (w.grownBy w7 row) := by unfold Hid; rw [HROW9.out]; exact grown_trans (grown_below HWE.out _) hg7
   have HGR : Hid (row = some g7 ∨ w.heap.size ≤ g7) := by
    unfold Hid
    rcases ha7 with h | h
    ·left; rw [HROW9.out]; exact h.symm
    ·right
     simp only [Value.ownBlock, Option.some.injEq] at h
     have := HBA.out.size
     omega
   have HXG : Hid (xb ≠ g7) := by
    unfold Hid
    rcases ha7 with h | h
    ·have := HRB.out g7 (by rw [HROW9.out]; exact h.symm)
     omega
    ·simp only [Value.ownBlock, Option.some.injEq] at h
     have := HX.out.lt
     omega
   have HX7 : Hid (Blk w7 xb [.int .i64 e.src, .int .i64 e.lab, .int .i64 e.dst] 47) := by
    have h := (HX.out.below HBE.out).alloc (.cells #[.int .i64 0, .int .i64 0, .int .i64 0] 47)
    refine (hg7.block xb h.lt fun e9 => ?_).trans h
    have := HRB.out xb (by rw [HROW9.out]; exact e9.symm)
    omega
   have HGB : Hid (base ≤ g7) := hgB
   have HC7 := Lib.hid hc7
   clear ho7 hg7 ha7 hgB hfl hc7
   go_wp2
   go_loopw [6] (fun v6 wr => ∃ (mm : Nat) (j : Edge), 0 ≤ mm ∧ mm ≤ N ∧ v6 = .int .i64 mm ∧ EdgesAt wr g7 (N + 1) c7 (shiftG E j mm) ∧ w.grownBy wr row ∧ Blk wr xb [.int .i64 e.src, .int .i64 e.lab, .int .i64 e.dst] 47) (fun v6 _ => (intOf v6).toNat)
   case atStart => exact ⟨N, ⟨0, 0, 0⟩, by omega, Nat.le_refl _, by first | rfl | go_num, HE7.out, HG7.out, HX7.out⟩
   case round =>
    obtain ⟨mm, j, hK1, hmN, rfl, hed, hgr9, hxb9⟩ := hrel
    have HXB9 := Lib.hid hxb9
    obtain ⟨w9, rfl⟩ : ∃ w9 : World, w9 = wr := ⟨_, rfl⟩
    have HED := Lib.hid hed
    have HGR9 := Lib.hid hgr9
    have hlen : (shiftG E j mm).length = N + 1 := by rw [shiftG_len, ← HN.out]
    have hj : (shiftG E j mm)[mm]? = some j := by
     unfold shiftG
     have hl : (E.take mm).length = mm := by rw [List.length_take, ← HN.out]; omega
     rw [List.getElem?_append_right (by omega), hl, Nat.sub_self]
     rfl
    obtain ⟨t1, t2, t3⟩ := EdgesAt.get hed hlen (k := mm) (by omega) hj
    have z1 := CellsAt.frozen hed (mm * 3)
    have z2 := CellsAt.frozen hed (mm * 3 + 1)
    have z3 := CellsAt.frozen hed (mm * 3 + 2)
    have hglt := CellsAt.lt hed
    by_cases hgt : 0 < mm
    ·obtain ⟨q, rfl⟩ : ∃ q, mm = q + 1 := ⟨mm - 1, by omega⟩
     have hq2 : q < E.length := by rw [← HN.out]; omega
     have hget := shiftG_get (L := E) (j := j) (k := q + 1) (by omega) (by omega)
     simp only [Nat.add_sub_cancel] at hget
     obtain ⟨s1, s2, s3⟩ := EdgesAt.get hed hlen (k := q) (by omega) hget
     have hput := EdgesAt.put hed hlen (k := q + 1) (by omega) E[q]
     have hss := shiftG_set (L := E) (j := j) (k := q + 1) (by omega) (by omega)
     simp only [Nat.add_sub_cancel] at hss
     rw [hss] at hput
     obtain ⟨y, hy⟩ : ∃ y, y = E[q] := ⟨_, rfl⟩
     rw [← hy] at s1 s2 s3 hput
     have HPUT := Lib.hid hput
     have HGS := Lib.hid (grown_sets (a := (q + 1) * 3) (b := (q + 1) * 3 + 1) (c := (q + 1) * 3 + 2) (x := .int .i64 y.src) (y := .int .i64 y.lab) (z := .int .i64 y.dst) hgr9 HGR.out)
     have hgt2 : (0 : Int) < ((q + 1 : Nat) : Int) := by omega
     have hq1 : (((q + 1 : Nat) : Int) - 1) = (q : Int) := by omega
     have HXP := Lib.hid (((hxb9.setOther ⟨g7, (q + 1) * 3, none⟩ (.int .i64 y.src) HXG.out).setOther ⟨g7, (q + 1) * 3 + 1, none⟩ (.int .i64 y.lab) HXG.out).setOther ⟨g7, (q + 1) * 3 + 2, none⟩ (.int .i64 y.dst) HXG.out)
     clear hed hgr9 hlen hj hget hput hss hy hq2 hxb9
     go_wp2
     go_roundw
     case rel => exact ⟨q, y, by omega, by omega, by go_num, HPUT.out, HGS.out, HXP.out⟩
     case measure => simp [intOf]
    ·have hmK : mm = 0 := by omega
     subst hmK
     have hput := EdgesAt.put hed hlen (k := 0) (by omega) e
     rw [shiftG_put (by rw [← HN.out]; omega)] at hput
     have HPUT := Lib.hid hput
     have HGS := Lib.hid (grown_sets (a := 0 * 3) (b := 0 * 3 + 1) (c := 0 * 3 + 2) (x := .int .i64 e.src) (y := .int .i64 e.lab) (z := .int .i64 e.dst) hgr9 HGR.out)
     have x1 := hxb9.cell 0 rfl
     have x2 := hxb9.cell 1 rfl
     have x3 := hxb9.cell 2 rfl
     have hxl9 := hxb9.lt
     have hge2 : ¬ (0 : Int) < ((0 : Nat) : Int) := by omega
     clear hed hgr9 hlen hj hput hxb9
     go_wp2
     go_ret
     have hA9 := HGS.out
     rw [HROW9.out] at hA9
     refine ⟨_, rfl, hA9, _, ?_, HPR.out⟩
     rw [put_len, ← HN.out]
     exact CellsAt.owns3 HPUT.out HGB.out HC7.out.1 HC7.out.2

end Go.Proofs.YtdkbbknhighebaaGreatDoor

namespace Go.Proofs.YtdkbbknhighebaaGreatDoor
open Go Go.RowKit


theorem labSet_is (ls : List ByteArray) : ((labSet ls).map (·.data.toList)).Pairwise (fun a b => lessL a b = true) ∧ ∀ x, x ∈ labSet ls ↔ x ∈ ls := by
 have hs : ((ls.map (·.data.toList)).mergeSort fun x y => !lessL y x).Pairwise fun a b => a = b ∨ lessL a b = true := by
  have h1 := List.pairwise_mergeSort (le := fun x y : List UInt8 => !lessL y x) (fun a b c h1 h2 => by
   simp only [Bool.not_eq_true'] at *
   have := (swo_of_total lessL_irrefl lessL_trans lessL_tri).ntrans c b a h2 h1
   exact this) (fun a b => by
   cases h : lessL b a with
   | false => simp
   | true =>
    cases h2 : lessL a b with
    | false => simp
    | true => have := lessL_trans a b a h2 h; rw [lessL_irrefl] at this; cases this) (ls.map (·.data.toList))
  refine h1.imp fun {a b} h => ?_
  simp only [Bool.not_eq_true'] at h
  cases h2 : lessL a b with
  | true => exact .inr rfl
  | false => exact .inl (lessL_tri a b h2 h)
 obtain ⟨h1, h2⟩ := compact_is (fun a b : List UInt8 => lessL a b = true) lessL_trans _ hs
 have hm : (labSet ls).map (·.data.toList) = Lib.compact ((ls.map (·.data.toList)).mergeSort fun x y => !lessL y x) := by
  unfold labSet
  rw [List.map_map]
  conv => rhs; rw [← List.map_id (Lib.compact ((ls.map (·.data.toList)).mergeSort fun x y => !lessL y x))]
  apply List.map_congr_left
  intro x _
  simp [mkB]
 refine ⟨by rw [hm]; exact h1, fun x => ?_⟩
 have h3 : x ∈ labSet ls ↔ x.data.toList ∈ (labSet ls).map (·.data.toList) := by
  rw [List.mem_map]
  exact ⟨fun h => ⟨x, h, rfl⟩, fun ⟨y, hy, e⟩ => (data_inj e) ▸ hy⟩
 rw [h3, hm, h2, List.mem_mergeSort, List.mem_map]
 exact ⟨fun ⟨y, hy, e⟩ => (data_inj e) ▸ hy, fun h => ⟨x, h, rfl⟩⟩

/-- A list of labels in order, tau first. -/
structure InOrd (L : List ByteArray) : Prop where
 first : L[0]? = some tauT
 asc : (L.map (·.data.toList)).Pairwise fun a b => lessL a b = true
theorem InOrd.set (us : List ByteArray) : InOrd (labSet (tauT :: us)) := by
 obtain ⟨h1, h2⟩ := labSet_is (tauT :: us)
 refine ⟨?_, h1⟩
 have hm := (h2 tauT).2 (by simp)
 obtain ⟨i, hi, he⟩ := List.mem_iff_getElem.1 hm
 rcases Nat.eq_zero_or_pos i with h | h
 ·subst h; rw [List.getElem?_eq_getElem hi, he]
 ·have h3 := h1
  rw [List.pairwise_map, List.pairwise_iff_getElem] at h3
  have h4 := h3 0 i (by omega) hi h
  rw [he, lessL_iff] at h4
  rcases h4.2 with h5 | h5
  ·exact absurd (h5.trans (by rw [← Lib.toList_data, tauT_list])) h4.1
  ·exact absurd (by rw [← Lib.toList_data, tauT_list]) h5.1
theorem InOrd.less {L : List ByteArray} (h : InOrd L) {i j : Nat} (hij : i < j) (hj : j < L.length) : lessL (L[i]'(by omega)).data.toList L[j].data.toList = true := by
 have := h.asc
 rw [List.pairwise_map, List.pairwise_iff_getElem] at this
 exact this i j (by omega) hj hij
theorem InOrd.pos {L : List ByteArray} (h : InOrd L) : 0 < L.length := (List.getElem?_eq_some_iff.1 h.first).1
theorem InOrd.notau {L : List ByteArray} (h : InOrd L) {j : Nat} (h1 : 1 ≤ j) (hj : j < L.length) : L[j].data.toList ≠ tauB := by
 have h2 := h.less (show 0 < j by omega) hj
 obtain ⟨h0, e⟩ := List.getElem?_eq_some_iff.1 h.first
 rw [e, lessL_iff] at h2
 intro e2
 exact h2.1 (by rw [e2, ← Lib.toList_data, tauT_list])
/-- A text that is not there is put to its place. -/
theorem InOrd.put {us L : List ByteArray} {x : ByteArray} {k : Nat} (hL : L = labSet (tauT :: us)) (hx : ∀ y ∈ L, y.toList ≠ x.toList) (h1 : 1 ≤ k) (hk : k ≤ L.length) (hlo : ∀ j (h : j < L.length), 1 ≤ j → j < k → strLess L[j] x = true) (hhi : ∀ h : k < L.length, strLess L[k] x = false) :
  L.take k ++ x :: L.drop k = labSet (tauT :: (us ++ [x])) := by
 have hO : InOrd L := by rw [hL]; exact InOrd.set us
 obtain ⟨-, hm⟩ := labSet_is (tauT :: us)
 rw [← hL] at hm
 have hxt : x.data.toList ≠ tauB := by
  intro e
  have h0 := hO.pos
  obtain ⟨h3, e3⟩ := List.getElem?_eq_some_iff.1 hO.first
  refine hx L[0] (List.getElem_mem _) ?_
  rw [e3, tauT_list, Lib.toList_data, e]
 have hlt : ∀ j (h : j < L.length), j < k → lessL L[j].data.toList x.data.toList = true := by
  intro j hj hjk
  rw [lessL_iff]
  have hne : L[j].data.toList ≠ x.data.toList := fun e => hx L[j] (List.getElem_mem _) (by rw [Lib.toList_data, Lib.toList_data, e])
  refine ⟨hne, ?_⟩
  rcases Nat.eq_zero_or_pos j with h | h
  ·subst h
   obtain ⟨h3, e3⟩ := List.getElem?_eq_some_iff.1 hO.first
   exact .inl (by rw [e3, ← Lib.toList_data, tauT_list])
  ·have h2 := hlo j hj h hjk
   unfold strLess at h2
   rw [less_lt, decide_eq_true_eq, Lib.toList_data, Lib.toList_data] at h2
   exact .inr ⟨hxt, h2⟩
 have hgt : ∀ j (h : j < L.length), k ≤ j → lessL x.data.toList L[j].data.toList = true := by
  have hk0 : ∀ h : k < L.length, lessL x.data.toList L[k].data.toList = true := by
   intro h
   have h2 := hhi h
   have hne : x.data.toList ≠ L[k].data.toList := fun e => hx L[k] (List.getElem_mem _) (by rw [Lib.toList_data, Lib.toList_data, e])
   cases h3 : lessL x.data.toList L[k].data.toList with
   | true => rfl
   | false =>
    exfalso
    have h4 : lessL L[k].data.toList x.data.toList = true := by
     cases h5 : lessL L[k].data.toList x.data.toList with
     | true => rfl
     | false => exact absurd (lessL_tri _ _ h3 h5) hne
    rw [lessL_iff] at h4
    rcases h4.2 with h5 | h5
    ·exact hO.notau h1 h h5
    ·unfold strLess at h2
     rw [less_lt, decide_eq_false_iff_not, Lib.toList_data, Lib.toList_data] at h2
     exact h2 h5.2
  intro j hj hkj
  rcases Nat.eq_or_lt_of_le hkj with e | h
  ·subst e; exact hk0 hj
  ·exact lessL_trans _ _ _ (hk0 (by omega)) (hO.less h hj)
 refine (labSet_eq ?_ fun y => ?_).symm
 ·rw [List.map_append, List.map_cons, List.pairwise_append]
  have ha := hO.asc
  refine ⟨?_, ?_, ?_⟩
  ·rw [List.map_take]; exact ha.sublist (List.take_sublist _ _)
  ·rw [List.pairwise_cons]
   refine ⟨fun y hy => ?_, by rw [List.map_drop]; exact ha.sublist (List.drop_sublist _ _)⟩
   obtain ⟨z, hz, rfl⟩ := List.mem_map.1 hy
   obtain ⟨i, hi, rfl⟩ := List.mem_iff_getElem.1 hz
   rw [List.getElem_drop]
   exact hgt _ _ (by omega)
  ·intro y hy z hz
   obtain ⟨y2, hy2, rfl⟩ := List.mem_map.1 hy
   obtain ⟨i, hi, rfl⟩ := List.mem_iff_getElem.1 hy2
   rw [List.length_take] at hi
   rw [List.getElem_take]
   rcases List.mem_cons.1 hz with rfl | hz
   ·exact hlt _ _ (by omega)
   ·obtain ⟨z2, hz2, rfl⟩ := List.mem_map.1 hz
    obtain ⟨j, hj, rfl⟩ := List.mem_iff_getElem.1 hz2
    rw [List.getElem_drop]
    exact hO.less (by omega) _
 ·have h5 : y ∈ L.take k ++ x :: L.drop k ↔ y ∈ L ∨ y = x := by
   rw [List.mem_append, List.mem_cons]
   conv => rhs; rw [← List.take_append_drop k L, List.mem_append]
   constructor
   ·rintro (h | h | h)
    ·exact .inl (.inl h)
    ·exact .inr h
    ·exact .inl (.inr h)
   ·rintro ((h | h) | h)
    ·exact .inl h
    ·exact .inr (.inr h)
    ·exact .inr (.inl h)
  rw [h5, hm]
  simp only [List.mem_cons, List.mem_append, List.not_mem_nil, or_false]
  constructor
  ·rintro (h | h | h)
   ·exact .inl (.inl h)
   ·exact .inl (.inr h)
   ·exact .inr h
  ·rintro ((h | h) | h)
   ·exact .inl h
   ·exact .inr (.inl h)
   ·exact .inr (.inr h)
theorem InOrd.same {us L : List ByteArray} {x : ByteArray} (hL : L = labSet (tauT :: us)) (hx : x ∈ L) : L = labSet (tauT :: (us ++ [x])) := by
 have hO : InOrd L := by rw [hL]; exact InOrd.set us
 obtain ⟨-, hm⟩ := labSet_is (tauT :: us)
 rw [← hL] at hm
 refine (labSet_eq hO.asc fun y => ?_).symm
 rw [hm]
 have := (hm x).1 hx
 simp only [List.mem_cons, List.mem_append, List.not_mem_nil, or_false] at this ⊢
 constructor
 ·rintro (h | h | h)
  ·exact .inl h
  ·exact .inr h
  ·subst h; exact this
 ·rintro (h | h)
  ·exact .inl h
  ·exact .inr (.inl h)
/-- While the tail is moved up: a junk text at the place k. -/
def shiftAt (L : List ByteArray) (j : ByteArray) (k : Nat) : List ByteArray := L.take k ++ j :: L.drop k
theorem shiftAt_end (L : List ByteArray) (j : ByteArray) : L ++ [j] = shiftAt L j L.length := by simp [shiftAt]
theorem shiftAt_get {L : List ByteArray} {j : ByteArray} {k : Nat} (h1 : 1 ≤ k) (hk : k ≤ L.length) : (shiftAt L j k)[k - 1]? = some (L[k - 1]'(by omega)) := by
 unfold shiftAt
 rw [List.getElem?_append_left (by rw [List.length_take]; omega), List.getElem?_take, if_pos (by omega), List.getElem?_eq_getElem (by omega)]
theorem shiftAt_set {L : List ByteArray} {j : ByteArray} {k : Nat} (h1 : 1 ≤ k) (hk : k ≤ L.length) : (shiftAt L j k).set k (L[k - 1]'(by omega)) = shiftAt L (L[k - 1]'(by omega)) (k - 1) := by
 unfold shiftAt
 have hl : (L.take k).length = k := by rw [List.length_take]; omega
 rw [List.set_append_right _ _ (by omega), hl, Nat.sub_self, List.set_cons_zero]
 have h2 : L.take k = L.take (k - 1) ++ [L[k - 1]'(by omega)] := by
  have := List.take_succ_eq_append_getElem (l := L) (i := k - 1) (by omega)
  rw [show k - 1 + 1 = k from by omega] at this
  exact this
 have h3 : L.drop (k - 1) = L[k - 1]'(by omega) :: L.drop k := by
  have := List.drop_eq_getElem_cons (l := L) (i := k - 1) (by omega)
  rw [show k - 1 + 1 = k from by omega] at this
  exact this
 rw [h2, h3, List.append_assoc]
 rfl
theorem shiftAt_put {L : List ByteArray} {j x : ByteArray} {k : Nat} (hk : k ≤ L.length) : (shiftAt L j k).set k x = L.take k ++ x :: L.drop k := by
 unfold shiftAt
 have hl : (L.take k).length = k := by rw [List.length_take]; omega
 rw [List.set_append_right _ _ (by omega), hl, Nat.sub_self, List.set_cons_zero]

theorem info_strJ : (Tryz.prog.info? 9).map (fun i => (i.zero, i.size, i.bytes)) = some (some (.string ⟨#[]⟩), 1, 16) := by kernel_rfl
theorem tau_one : labSet [tauT] = [tauT] := by
 refine labSet_eq (by simp) fun x => Iff.rfl

end Go.Proofs.YtdkbbknhighebaaGreatDoor

namespace Go.Proofs.YtdkbbknhighebaaGreatDoor
open Go Go.RowKit


theorem labSet_step (ls : List ByteArray) {i : Nat} (h : i < ls.length) : labSet (tauT :: ls.take (i + 1)) = labSet (tauT :: (ls.take i ++ [ls[i]])) := by rw [List.take_succ_eq_append_getElem h]

set_option maxRecDepth 100000 in
set_option maxHeartbeats 4000000 in
theorem l11Join_any (lo : Nat) (v : Value) (ls : List ByteArray) (w : World) (hv : SliceK 1 encS lo w v ls) (hn : ls.length ≤ 1000) :
  Calls Tryz.prog 56 #[v] w fun e w' => ∃ v', e = .returned v' ∧ Below w.heap.size w w' ∧ w'.ownsRow w.heap.size 9 1 v' (labSet (tauT :: ls)).length ((labSet (tauT :: ls)).map .string) := by
 obtain ⟨a, c, rfl, hc, hc2, hrow⟩ := hv
 have HR := Lib.hid hrow
 obtain ⟨N, hN⟩ : ∃ N, N = ls.length := ⟨_, rfl⟩
 rw [← hN] at hc hn ⊢
 have HN := Lib.hid hN
 obtain ⟨i0, hi, hz0, hz1, hz2⟩ := info_parts info_strJ
 obtain ⟨W, hW⟩ : ∃ W, W = w.alloc (.cells #[.string ⟨#[116, 97, 117]⟩] 9) := ⟨_, rfl⟩
 have HB0 : Hid (Below w.heap.size w W) := by unfold Hid; rw [hW]; exact (Below.refl _ _).alloc (Nat.le_refl _) _
 have HO0 : Hid (W.ownsRow w.heap.size 9 1 (.slice (some ⟨w.heap.size, 0, none⟩) 1 1) 1 ([tauT].map .string)) := by
  unfold Hid
  rw [hW]
  exact World.ownsRow_lit (base := w.heap.size) (e := 9) (size := 1) w #[.string ⟨#[116, 97, 117]⟩] 1 (Nat.le_refl _) (by decide) rfl
 have HW := Lib.hid hW
 clear hrow hN hW
 go_enter Tryz.func56, Tryz.ntmps56
 go_wp2
 rw [← HW.out]
 go_loopw [3, 4] (fun v3 v4 wr => ∃ (i : Nat) (L : List ByteArray), v4 = .int .i64 i ∧ i ≤ N ∧ L = labSet (tauT :: ls.take i) ∧ L.length ≤ i + 1 ∧ Below w.heap.size w wr ∧ wr.ownsRow w.heap.size 9 1 v3 L.length (L.map .string)) (fun _ v4 _ => N - (intOf v4).toNat)
 case atStart => exact ⟨0, [tauT], rfl, Nat.zero_le _, by rw [List.take_zero, tau_one], by simp, HB0.out, HO0.out⟩
 case round =>
  clear HB0 HO0
  obtain ⟨i, L, rfl, hiN, hL, hLl, hbl, ho⟩ := hrel
  obtain ⟨wC, rfl⟩ : ∃ wC : World, wC = wr := ⟨_, rfl⟩
  have HL := Lib.hid hL
  have HBL := Lib.hid hbl
  have HO := Lib.hid ho
  have hsz := hbl.size
  have HINO : Hid (InOrd L) := by unfold Hid; rw [hL]; exact InOrd.set _
  have hLpos := HINO.out.pos
  obtain ⟨oa, oc, rfl, -, -⟩ := owns_slice ho
  obtain ⟨M, hM⟩ : ∃ M, M = L.length := ⟨_, rfl⟩
  rw [← hM] at hLl hLpos ho HO ⊢
  have HM := Lib.hid hM
  by_cases hlt : i < N
  ·have hil : i < ls.length := by rw [← HN.out]; exact hlt
   obtain ⟨b, o, rfl, -, hbw0, c00⟩ := HR.out.one hil
   simp only [encS, List.getElem?_cons_zero] at c00
   obtain ⟨x, hx⟩ : ∃ x, x = ls[i] := ⟨_, rfl⟩
   rw [← hx] at c00
   have hbw : b < wC.heap.size := Nat.lt_of_lt_of_le hbw0 hsz
   have c0 := keeps hbl hbw0 c00
   have HCL : Hid (∀ w', Below w.heap.size w w' → w'.cell? ⟨b, o + i, none⟩ = some (.string x)) := fun w' hb => keeps hb hbw0 c00
   clear c00
   have HST : Hid (labSet (tauT :: ls.take (i + 1)) = labSet (tauT :: (ls.take i ++ [x]))) := by unfold Hid; rw [hx]; exact labSet_step ls hil
   have HFI := Lib.hid (l11Find_any w.heap.size (.slice oa M oc) L x wC (SliceK.of_owns (enc := encS) (e := 9) encS_len HM.out (by rw [flat_encS]; exact ho)))
   obtain ⟨og, hog, hogB, hogw⟩ : ∃ og, oa = some ⟨og, 0, none⟩ ∧ w.heap.size ≤ og ∧ og < wC.heap.size := by
    rcases ho.2 with ⟨h, h0⟩ | ⟨g, cap, cur, h, h1, hg, -⟩
    ·omega
    ·simp only [Value.slice.injEq, true_and] at h
     exact ⟨g, h.1, h1, (Array.getElem?_eq_some_iff.1 hg).1⟩
   subst hog
   have HC0 := Lib.hid c0
   by_cases hneg : textAt L x < 0
   ·have hno : ∀ y ∈ L, y.toList ≠ x.toList := by
     have h1 := textAt_neg.1 hneg
     rw [List.any_eq_false] at h1
     intro y hy e
     exact h1 y hy (by rw [e]; simp)
    have HNO := Lib.hid hno
    obtain ⟨tx, htx⟩ : ∃ tx, tx = textAt L x := ⟨_, rfl⟩
    rw [← htx] at HFI hneg
    clear hL hbl ho hM hx hno htx
    go_wp2_with fail
    refine Calls.mono HFI.out ?_
    rintro e w1 ⟨rfl, hb1⟩
    have HB1 := Lib.hid (HBL.out.trans (hb1.mono hsz))
    have HO1 := Lib.hid (owns_below HO.out hb1)
    have HC1 := Lib.hid (keeps hb1 hbw HC0.out)
    have hbw1 : b < w1.heap.size := Nat.lt_of_lt_of_le hbw hb1.size
    have hogw1 : og < w1.heap.size := Nat.lt_of_lt_of_le hogw hb1.size
    have hs1 : w.heap.size ≤ w1.heap.size := HB1.out.size
    clear hb1 c0 HC0
    go_wp2
    go_loopw [5] (fun v5 wr => ∃ k : Nat, v5 = .int .i64 k ∧ 1 ≤ k ∧ k ≤ M ∧ (∀ j (h : j < L.length), 1 ≤ j → j < k → strLess L[j] x = true) ∧ Below w1.heap.size w1 wr) (fun v5 _ => M - (intOf v5).toNat)
    case atStart => exact ⟨1, rfl, Nat.le_refl _, by omega, (fun j _ h1 h2 => by omega), Below.refl _ _⟩
    case round =>
     obtain ⟨k, rfl, hk1, hkM, hlo, hb2⟩ := hrel
     obtain ⟨w2, rfl⟩ : ∃ w2 : World, w2 = wr := ⟨_, rfl⟩
     have HLO := Lib.hid hlo
     have HB2 := Lib.hid hb2
     have HO2 := Lib.hid (owns_below HO1.out hb2)
     have c2 := keeps hb2 hbw1 HC1.out
     have hbw2 : b < w2.heap.size := Nat.lt_of_lt_of_le hbw1 hb2.size
     have hogw2 : og < w2.heap.size := Nat.lt_of_lt_of_le hogw1 hb2.size
     have hs2 : w.heap.size ≤ w2.heap.size := Nat.le_trans hs1 hb2.size
     have lc2 := later_cell hbw2 c2
     clear hlo hb2
     by_cases hgo : ∃ h : k < L.length, strLess L[k] x = true
     ·obtain ⟨hkL, hs⟩ := hgo
      have hkl : k < M := by rw [HM.out]; exact hkL
      have ck := HO2.out.cellAt k (by omega)
      rw [List.getElem?_map, List.getElem?_eq_getElem hkL, Option.map_some] at ck
      have HLS : Hid (∀ j (h : j < L.length), 1 ≤ j → j < k + 1 → strLess L[j] x = true) := fun j h h1 h2 => by
       by_cases e : j = k
       ·subst e; exact hs
       ·exact HLO.out j h h1 (by omega)
      obtain ⟨y, hy⟩ : ∃ y, y = L[k] := ⟨_, rfl⟩
      rw [← hy] at ck hs
      have lck := later_cell hogw2 ck
      unfold strLess at hs
      clear hy ck c2
      go_wp2
      refine wp_region_later (by kernel_rfl) (by kernel_rfl) ?_
      repeat (go_big_quiet_step ((fail)))
      refine wpQuiet_nil ?_
      intro _ hw9
      obtain ⟨nl, hw8⟩ := hw9
      subst hw8
      have HB3 := Lib.hid (HB2.out.trans (nl.h.mono HB2.out.size))
      clear lc2 lck
      go_wp2
      go_roundw
      case rel => exact ⟨k + 1, by go_num, by omega, by omega, HLS.out, HB3.out⟩
      case measure => simp [intOf]; omega
     ·have HHI : Hid (∀ h : k < L.length, strLess L[k] x = false) := fun h => by
       cases hs : strLess L[k] x with
       | false => rfl
       | true => exact absurd ⟨h, hs⟩ hgo
      have HPUT : Hid (L.take k ++ x :: L.drop k = labSet (tauT :: ls.take (i + 1))) := by unfold Hid; rw [HST.out]; exact InOrd.put HL.out HNO.out hk1 (by rw [← HM.out]; exact hkM) HLO.out HHI.out
      -- the walk from the search's end on, once
      have REST : ∀ (w3 : World), Below w2.heap.size w2 w3 → Below w.heap.size w w3 ∧ w3.ownsRow w.heap.size 9 1 (.slice (some ⟨og, 0, none⟩) M oc) M (L.map .string) ∧ w3.cell? ⟨b, o + i, none⟩ = some (.string x) := fun w3 hb3 => ⟨HB1.out.trans ((HB2.out.trans (hb3.mono HB2.out.size)).mono hs1), owns_below HO2.out hb3, keeps hb3 hbw2 c2⟩
      have HREST := Lib.hid REST
      clear REST hgo
      by_cases hkl : k < M
      ·have hkL : k < L.length := by rw [← HM.out]; exact hkl
       have ck := HO2.out.cellAt k (by omega)
       rw [List.getElem?_map, List.getElem?_eq_getElem hkL, Option.map_some] at ck
       have hs := HHI.out hkL
       obtain ⟨y, hy⟩ : ∃ y, y = L[k] := ⟨_, rfl⟩
       rw [← hy] at ck hs
       have lck := later_cell hogw2 ck
       unfold strLess at hs
       clear hy ck c2
       go_wp2
       refine wp_region_later (by kernel_rfl) (by kernel_rfl) ?_
       repeat (go_big_quiet_step ((fail)))
       refine wpQuiet_nil ?_
       intro _ hw9
       obtain ⟨nl, hw8⟩ := hw9
       subst hw8
       have H3 := HREST.out nl.w nl.h
       obtain ⟨w3, hw3⟩ : ∃ w3, w3 = nl.w := ⟨_, rfl⟩
       rw [← hw3] at H3 ⊢
       clear hw3 lck lc2 hs
       obtain ⟨HB3, HO3, c3⟩ := H3
       replace HB3 := Lib.hid HB3
       replace HO3 := Lib.hid HO3
       replace c3 := Lib.hid c3
       have hs3 := HB3.out.size
       have hbw3 : b < w3.heap.size := World.block_lt_of_cell? _ _ c3.out
       go_wp2_with (at_builtin; refine wpList_append_own _ rfl _ _ 24 rfl w.heap.size 9 i0 (.string ⟨#[]⟩) 1 16 Tryz.underlying24 hi hz0 hz1 hz2 rfl (by decide) _ M _ rfl (HO3.out.alloc _) ⟨w3.heap.size, 0, none⟩ 1 1 [.string ⟨#[]⟩] rfl rfl ?d1 ?d2 ?d3 ?d4 ?d5 ?_)
       case d1 => exact World.news_of_block (cs := #[.string ⟨#[]⟩]) (t := 9) (fr := (0, 0)) (heap_alloc_new _ _)
       case d2 => intro u hu; simp at hu; subst hu; rfl
       case d3 => simp [maxLen]; omega
       case d4 => omega
       case d5 => simp; omega
       intro v4 w4 ho4 hg4 _
       have HB4 : Hid (Below w.heap.size w w4) := (HB3.out.alloc hs3 _).grown hg4 (by simp; omega) (fun b e => (HO3.out.lt b e).1)
       have HO4 : Hid (w4.ownsRow w.heap.size 9 1 v4 (M + 1) ((shiftAt L ⟨#[]⟩ M).map .string)) := by
        unfold Hid
        rw [HM.out, ← shiftAt_end, List.map_append, ← HM.out]
        exact ho4
       obtain ⟨g4, cap4, rfl⟩ : ∃ g4 cap4, v4 = .slice (some ⟨g4, 0, none⟩) (M + 1) cap4 := by
        rcases HO4.out.2 with ⟨h, h0⟩ | ⟨g, cap, cur, h, -⟩
        ·omega
        ·exact ⟨g, cap, h⟩
       clear ho4 hg4 HB3 HO3 c3 hs3 hbw3
       go_wp2
       go_loopw [6] (fun v6 wr => ∃ (m : Nat) (junk : ByteArray), v6 = .int .i64 m ∧ k ≤ m ∧ m ≤ M ∧ Below w.heap.size w wr ∧ wr.ownsRow w.heap.size 9 1 (.slice (some ⟨g4, 0, none⟩) (M + 1) cap4) (M + 1) ((shiftAt L junk m).map .string)) (fun v6 _ => (intOf v6).toNat)
       case atStart => exact ⟨M, ⟨#[]⟩, by go_num, hkM, Nat.le_refl _, HB4.out, HO4.out⟩
       case round =>
        clear HB4 HO4
        obtain ⟨m, junk, rfl, hkm, hmM, hb5, ho5⟩ := hrel
        obtain ⟨w5, rfl⟩ : ∃ w5 : World, w5 = wr := ⟨_, rfl⟩
        have HB5 := Lib.hid hb5
        have HO5 := Lib.hid ho5
        have hs5 := hb5.size
        have hbw5 : b < w5.heap.size := Nat.lt_of_lt_of_le hbw0 hs5
        have hgB : w.heap.size ≤ g4 := (ho5.lt g4 rfl).1
        by_cases hmk : k < m
        ·have hm1 : 1 ≤ m := by omega
         have hmL : m ≤ L.length := by rw [← HM.out]; exact hmM
         have cg := ho5.cellAt (m - 1) (by omega)
         rw [List.getElem?_map, shiftAt_get hm1 hmL, Option.map_some] at cg
         obtain ⟨xc, ct⟩ := own_cell ho5 m (by omega)
         have f5 := ho5.frozenAt m
         have hst := ho5.stored m (.string (L[m - 1]'(by omega)))
         rw [← List.map_set, shiftAt_set hm1 hmL] at hst
         have HST := Lib.hid hst.1
         obtain ⟨y, hy⟩ : ∃ y, y = L[m - 1]'(by omega) := ⟨_, rfl⟩
         rw [← hy] at cg HST
         obtain ⟨p, rfl⟩ : ∃ p, m = p + 1 := ⟨m - 1, by omega⟩
         rw [Nat.add_sub_cancel] at cg HST
         have hpi : ((p + 1 : Nat) : Int) = (p : Int) + 1 := by omega
         rw [hpi]
         clear hst hb5 ho5 hy hpi
         go_wp2
         go_roundw
         case rel => exact ⟨p, y, by go_num, by omega, by omega, HB5.out.setCell hgB _, HST.out⟩
         case measure => (first | (simp [intOf]; done) | (simp [intOf]; omega))
        ·have hmk2 : m = k := by omega
         subst hmk2
         have ci := HCL.out w5 hb5
         obtain ⟨xc, ct⟩ := own_cell ho5 m (by omega)
         have f5 := ho5.frozenAt m
         have hst := (ho5.stored m (.string x)).1
         rw [← List.map_set, shiftAt_put (by rw [← HM.out]; exact hmM), HPUT.out] at hst
         have hle : (labSet (tauT :: ls.take (i + 1))).length = M + 1 := by
          have := hst.1
          rw [List.length_map] at this
          omega
         have HST := Lib.hid hst
         have HLE := Lib.hid hle
         clear hst hb5 ho5 hle
         go_wp2
         go_roundw
         case rel => exact ⟨i + 1, labSet (tauT :: ls.take (i + 1)), by go_num, by omega, rfl, by rw [HLE.out]; omega, HB5.out.setCell hgB _, by rw [HLE.out]; exact HST.out⟩
         case measure => simp [intOf]; omega
      ·have HKM : Hid (k = M) := by unfold Hid; omega
       clear c2
       go_wp2
       refine wp_region_later (by kernel_rfl) (by kernel_rfl) ?_
       repeat (go_big_quiet_step ((fail)))
       refine wpQuiet_nil ?_
       intro _ hw9
       obtain ⟨nl, hw8⟩ := hw9
       subst hw8
       have H3 := HREST.out nl.w nl.h
       obtain ⟨w3, hw3⟩ : ∃ w3, w3 = nl.w := ⟨_, rfl⟩
       rw [← hw3] at H3 ⊢
       clear hw3 lc2
       obtain ⟨HB3, HO3, c3⟩ := H3
       replace HB3 := Lib.hid HB3
       replace HO3 := Lib.hid HO3
       replace c3 := Lib.hid c3
       have hs3 := HB3.out.size
       have hbw3 : b < w3.heap.size := World.block_lt_of_cell? _ _ c3.out
       go_wp2_with (at_builtin; refine wpList_append_own _ rfl _ _ 24 rfl w.heap.size 9 i0 (.string ⟨#[]⟩) 1 16 Tryz.underlying24 hi hz0 hz1 hz2 rfl (by decide) _ M _ rfl (HO3.out.alloc _) ⟨w3.heap.size, 0, none⟩ 1 1 [.string ⟨#[]⟩] rfl rfl ?d1 ?d2 ?d3 ?d4 ?d5 ?_)
       case d1 => exact World.news_of_block (cs := #[.string ⟨#[]⟩]) (t := 9) (fr := (0, 0)) (heap_alloc_new _ _)
       case d2 => intro u hu; simp at hu; subst hu; rfl
       case d3 => simp [maxLen]; omega
       case d4 => omega
       case d5 => simp; omega
       intro v4 w4 ho4 hg4 _
       have HB4 : Hid (Below w.heap.size w w4) := (HB3.out.alloc hs3 _).grown hg4 (by simp; omega) (fun b e => (HO3.out.lt b e).1)
       have HO4 : Hid (w4.ownsRow w.heap.size 9 1 v4 (M + 1) ((shiftAt L ⟨#[]⟩ M).map .string)) := by
        unfold Hid
        rw [HM.out, ← shiftAt_end, List.map_append, ← HM.out]
        exact ho4
       obtain ⟨g4, cap4, rfl⟩ : ∃ g4 cap4, v4 = .slice (some ⟨g4, 0, none⟩) (M + 1) cap4 := by
        rcases HO4.out.2 with ⟨h, h0⟩ | ⟨g, cap, cur, h, -⟩
        ·omega
        ·exact ⟨g, cap, h⟩
       clear ho4 hg4 HB3 HO3 c3 hs3 hbw3
       go_wp2
       go_loopw [6] (fun v6 wr => ∃ (m : Nat) (junk : ByteArray), v6 = .int .i64 m ∧ k ≤ m ∧ m ≤ M ∧ Below w.heap.size w wr ∧ wr.ownsRow w.heap.size 9 1 (.slice (some ⟨g4, 0, none⟩) (M + 1) cap4) (M + 1) ((shiftAt L junk m).map .string)) (fun v6 _ => (intOf v6).toNat)
       case atStart => exact ⟨M, ⟨#[]⟩, by go_num, hkM, Nat.le_refl _, HB4.out, HO4.out⟩
       case round =>
        clear HB4 HO4
        obtain ⟨m, junk, rfl, hkm, hmM, hb5, ho5⟩ := hrel
        obtain ⟨w5, rfl⟩ : ∃ w5 : World, w5 = wr := ⟨_, rfl⟩
        have HB5 := Lib.hid hb5
        have HO5 := Lib.hid ho5
        have hs5 := hb5.size
        have hbw5 : b < w5.heap.size := Nat.lt_of_lt_of_le hbw0 hs5
        have hgB : w.heap.size ≤ g4 := (ho5.lt g4 rfl).1
        by_cases hmk : k < m
        ·exfalso; have := HKM.out; omega
        ·have hmk2 : m = k := by omega
         subst hmk2
         have ci := HCL.out w5 hb5
         obtain ⟨xc, ct⟩ := own_cell ho5 m (by omega)
         have f5 := ho5.frozenAt m
         have hst := (ho5.stored m (.string x)).1
         rw [← List.map_set, shiftAt_put (by rw [← HM.out]; exact hmM), HPUT.out] at hst
         have hle : (labSet (tauT :: ls.take (i + 1))).length = M + 1 := by
          have := hst.1
          rw [List.length_map] at this
          omega
         have HST := Lib.hid hst
         have HLE := Lib.hid hle
         clear hst hb5 ho5 hle
         go_wp2
         go_roundw
         case rel => exact ⟨i + 1, labSet (tauT :: ls.take (i + 1)), by go_num, by omega, rfl, by rw [HLE.out]; omega, HB5.out.setCell hgB _, by rw [HLE.out]; exact HST.out⟩
         case measure => simp [intOf]; omega
   ·obtain ⟨n, hn1, hn2, hn3⟩ := textAt_some hneg
    have hxL : x ∈ L := by
     have := toList_inj hn3
     rw [← this]
     exact List.getElem_mem _
    have HSA : Hid (L = labSet (tauT :: ls.take (i + 1))) := by unfold Hid; rw [HST.out]; exact InOrd.same HL.out hxL
    obtain ⟨tx, htx⟩ : ∃ tx, tx = textAt L x := ⟨_, rfl⟩
    rw [← htx] at HFI hneg
    clear hL hbl ho hM hx htx hn1 hn2 hn3 hxL
    go_wp2_with fail
    refine Calls.mono HFI.out ?_
    rintro e w1 ⟨rfl, hb1⟩
    have HB1 := Lib.hid (HBL.out.trans (hb1.mono hsz))
    have HO1 := Lib.hid (owns_below HO.out hb1)
    clear hb1 c0 HC0
    go_wp2
    go_roundw
    case rel => exact ⟨i + 1, L, by go_num, by omega, HSA.out, by rw [← HM.out]; omega, HB1.out, by rw [← HM.out]; exact HO1.out⟩
    case measure => simp [intOf]; omega
  ·have hiN2 : i = N := by omega
   have HFI : Hid (L = labSet (tauT :: ls)) := by
    have h := HL.out
    rw [hiN2, HN.out, List.take_length] at h
    exact h
   clear hL hbl ho hM
   go_wp2
   go_ret
   exact ⟨_, rfl, HBL.out, by rw [← HFI.out, ← HM.out]; exact HO.out⟩

end Go.Proofs.YtdkbbknhighebaaGreatDoor

namespace Go.Proofs.YtdkbbknhighebaaGreatDoor
open Go Go.RowKit

def txts (xs : List ByteArray) : List Value := xs.map Value.string
/-- A list of texts of the call's own. -/
def OwnStrs (lo : Nat) (w : World) (v : Value) (xs : List ByteArray) : Prop := w.ownsRow lo 9 1 v xs.length (txts xs)
theorem OwnStrs.below {lo : Nat} {w w' : World} {v : Value} {xs : List ByteArray} (h : OwnStrs lo w v xs) (hb : Below w.heap.size w w') : OwnStrs lo w' v xs := owns_below h hb
theorem OwnStrs.lower {lo lo' : Nat} {w : World} {v : Value} {xs : List ByteArray} (h : OwnStrs lo w v xs) (hl : lo' ≤ lo) : OwnStrs lo' w v xs := own_lower h hl
theorem OwnStrs.at {lo : Nat} {w : World} {v : Value} {xs : List ByteArray} (h : OwnStrs lo w v xs) : SliceK 1 encS lo w v xs := SliceK.of_owns (e := 9) encS_len rfl (by rw [flat_encS]; exact h)
theorem txts_len (xs : List ByteArray) : (txts xs).length = xs.length := by simp [txts]
end Go.Proofs.YtdkbbknhighebaaGreatDoor
