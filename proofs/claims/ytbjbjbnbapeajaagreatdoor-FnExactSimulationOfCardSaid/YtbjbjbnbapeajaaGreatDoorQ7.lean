/-
  The reference's l15Reach, in a partition of one block: what internal edges reach from a state.
  The reference's l17Targets, for all kinds of simulations.
  The reference's l17Targets: weak simulations.
  The reference's l11Out: the edges from a state.
  A slice of slices of one-celled elements, all in memory of the call's own: a row more, a row that grows.
  A list of lists of the call's own: rows of any cells of one word each.
-/
import Derived.Test.YtbjbjbnbapeajaaGreatDoorQ6
import Derived.Test.YtbjbjbnbapeajaaGreatDoorQ5
import Derived.Sort.LoopGhostIn
import Derived.Deep.Cut
import Derived.Test.YtbjbjbnbapeajaaGreatDoorQ3
import Derived.Test.YtbjbjbnbapeajaaGreatDoorQ1
namespace Go.Proofs.YtbjbjbnbapeajaaGreatDoor
open Go Go.RowKit

/-- A list of noughts, not turned. -/
def OneAt (w : World) (z N : Nat) : Prop := z < w.heap.size ∧ ∀ i, i < N → w.cell? ⟨z, i, none⟩ = some (.int .i64 0)
theorem OneAt.below {w w' : World} {z N : Nat} (h : OneAt w z N) (hb : Below w.heap.size w w') : OneAt w' z N := ⟨Nat.lt_of_lt_of_le h.1 hb.size, fun i hi => keeps hb h.1 (h.2 i hi)⟩

set_option maxRecDepth 100000 in
theorem l15Inert_any (eb z N es ed : Nat) (el : Int) (w : World) (he : Blk w eb [.int .i64 es, .int .i64 el, .int .i64 ed] 73) (hz : OneAt w z N) (hs : es < N) (hd : ed < N) :
  Calls Tryz.prog 165 #[.pointer (some ⟨eb, 0, none⟩), .slice (some ⟨z, 0, none⟩) N N] w fun e w' => e = .returned (.bool (el == 0)) ∧ Below w.heap.size w w' := by
 have l0 := later_cell he.lt (he.cell 0 rfl)
 have l1 := later_cell he.lt (he.cell 1 rfl)
 have l2 := later_cell he.lt (he.cell 2 rfl)
 have l3 := later_cell hz.1 (hz.2 es hs)
 have l4 := later_cell hz.1 (hz.2 ed hd)
 have hsi : (es : Int) < (N : Int) := by omega
 have hdi : (ed : Int) < (N : Int) := by omega
 clear he hz hs hd
 go_enter Tryz.func165, Tryz.ntmps165
 cases g : (el == 0)
 ·go_wp2
  refine wp_region_later (by kernel_rfl) (by kernel_rfl) ?_
  repeat (go_big_quiet_step ((fail)))
  refine wpQuiet_nil ?_
  intro _ hw9
  obtain ⟨nl, hw8⟩ := hw9
  subst hw8
  go_wp2
  go_ret
  exact ⟨rfl, nl.h⟩
 ·go_wp2
  refine wp_region_later (by kernel_rfl) (by kernel_rfl) ?_
  repeat (go_big_quiet_step ((fail)))
  refine wpQuiet_nil ?_
  intro _ hw9
  obtain ⟨nl, hw8⟩ := hw9
  subst hw8
  go_wp2
  go_ret
  exact ⟨rfl, nl.h⟩

theorem inL_one {N k : Nat} (hk : k < N) (x : Int) : inL ((List.replicate N false).set k true) x ↔ x = (k : Int) := by
 unfold inL
 constructor
 ·rintro ⟨h0, h1⟩
  by_cases e : k = x.toNat
  ·omega
  ·rw [List.getElem?_set_ne e, List.getElem?_replicate] at h1
   split at h1 <;> simp at h1
 ·rintro rfl
  refine ⟨by omega, ?_⟩
  rw [Int.toNat_natCast, List.getElem?_set_self (by simpa using hk)]

/-- What holds of the marks ahead of a sweep. -/
structure ReachRel (t : Lts) (l : List Bool) (N B g : Nat) (w0 wr : World) (gk : Nat) (good : List Bool) (b : Bool) : Prop where
 len : good.length = N
 ok : CoOk (tauPairs t) (markB l) good
 done : b = false → CoDone (tauPairs t) good
 left : 2 * falses good + b.toNat ≤ gk
 below : Below B w0 wr
 own : wr.ownsRow B 4 1 (.slice (some ⟨g, 0, none⟩) N N) N (good.map Value.bool)
theorem tauPairs_lenK (t : Lts) : (tauPairs t).length = t.edges.length := List.length_map _
theorem tauPairs_getK {t : Lts} {k : Nat} (h : k < (tauPairs t).length) (h' : k < t.edges.length) : (tauPairs t)[k] = tauPair t.edges[k] := List.getElem_map _

set_option maxRecDepth 100000 in
set_option maxHeartbeats 4000000 in
theorem l15Reach_any (bt lo z N q : Nat) (t : Lts) (w : World) (hv : Valid t) (hN : (N : Int) = t.states) (hq : q < N) (hp : LtsPtr lo w bt t) (hz : OneAt w z N) :
  Calls Tryz.prog 130 #[.pointer (some ⟨bt, 0, none⟩), .slice (some ⟨z, 0, none⟩) N N, .int .i64 q] w fun e w' => ∃ (g : Nat) (good : List Bool), e = .returned (.slice (some ⟨g, 0, none⟩) N N) ∧ Below w.heap.size w w'
   ∧ good.length = N ∧ (∀ x, inL good x ↔ clos t (fun y => y = (q : Int)) x) ∧ w'.ownsRow w.heap.size 4 1 (.slice (some ⟨g, 0, none⟩) N N) N (good.map Value.bool) := by
 have HV := Lib.hid hv
 have h1 := hv.st0
 have h2 := hv.st1
 obtain ⟨lv, ev, hpl, q0, -, -, q3, -, hes⟩ := hp
 obtain ⟨ae, ce, rfl, hen, hec, herow⟩ := hes
 have HER := Lib.hid herow
 have hmost := hv.most
 rw [← hN] at q0 h1 h2
 have HNS := Lib.hid hN
 have HZ := Lib.hid hz
 have HQ3 := Lib.hid q3
 obtain ⟨ib, hib, hzb0, hzb1, hzb2⟩ := info_parts info_boolG
 obtain ⟨B, hB⟩ : ∃ B, B = w.heap.size := ⟨_, rfl⟩
 have HBE := Lib.hid hB
 have hqi : (q : Int) < (N : Int) := by omega
 clear hv hN herow hz hB q3
 go_enter Tryz.func130, Tryz.ntmps130
 go_wp2_with (at_make; refine wpList_make_full _ rfl _ _ 57 rfl w.heap.size 4 ib _ 1 Tryz.underlying57 hib hzb0 hzb1 .i64 .i64 _ _ N rfl rfl rfl rfl ?_ ?_ ?_ ?_)
 ·rw [hzb2]; omega
 ·simp [maxLen]; omega
 ·exact Nat.le_refl _
 intro w1 ho hg
 rw [toList_madeCells_one] at ho
 obtain ⟨G, hG⟩ : ∃ G, G = w.heap.size := ⟨_, rfl⟩
 have HB1 : Hid (Below B w w1) := by unfold Hid; rw [HBE.out]; exact (Below.refl _ w).grown hg (Nat.le_refl _) (fun _ h => by cases h)
 rw [← hG] at ho ⊢
 have hGB : B ≤ G := by rw [HBE.out, hG]; exact Nat.le_refl _
 have HO : Hid (w1.ownsRow B 4 1 (.slice (some ⟨G, 0, none⟩) N N) N ((List.replicate N false).map Value.bool)) := by
  unfold Hid; rw [HBE.out, ← hG]; simpa using ho
 have cq := cell_bool HO.out hq
 have cf := HO.out.frozenAt q
 have HO2 := Lib.hid (HO.out.stored q (.bool true)).1
 rw [← List.map_set] at HO2
 obtain ⟨L0, hL0⟩ : ∃ L0, L0 = (List.replicate N false).set q true := ⟨_, rfl⟩
 rw [← hL0] at HO2
 have hl0 : L0.length = N := by rw [hL0]; simp
 have HIN : Hid (∀ x, inL L0 x ↔ x = (q : Int)) := by unfold Hid; rw [hL0]; exact inL_one hq
 have HB2 : Hid (Below B w (w1.setCell ⟨G, q, none⟩ (.bool true))) := HB1.out.setCell hGB _
 clear ho hg hib hzb0 hzb1 hzb2 hL0 HO HB1 q0 hG hq
 go_wp2
 go_loopg [8] (2 * N + 1) (fun gk v8 w4 => ∃ (good : List Bool) (b : Bool), v8 = .bool b ∧ ReachRel t L0 N B G w w4 gk good b)
 case atStart =>
  refine ⟨L0, true, rfl, hl0, markB_ok t L0, (fun h => by cases h), ?_, HB2.out, HO2.out⟩
  have := falses_le L0; simp; omega
 case round =>
  clear cq cf
  obtain ⟨good, b, rfl, hrel⟩ := hrel
  obtain ⟨wC, rfl⟩ : ∃ wC : World, wC = wr := ⟨_, rfl⟩
  have HG := Lib.hid hrel
  have hgl := hrel.len
  clear hrel HO2 HB2
  cases b
  ·have HCL : Hid (∀ x, inL good x ↔ clos t (fun y => y = (q : Int)) x) := by
    intro x
    rw [rest_clos HV.out HG.out.ok (HG.out.done rfl) x]
    have e : inL L0 = fun y => y = (q : Int) := by funext y; exact propext (HIN.out y)
    rw [e]
   go_wp2
   go_ret
   refine ⟨G, good, rfl, ?_, hgl, HCL.out, ?_⟩
   ·have := HG.out.below; rw [HBE.out] at this; exact this
   ·have := HG.out.own; rw [HBE.out] at this; exact this
  ·go_wp2
   go_loopw [8, 9] (fun v8 v9 w5 => ∃ (k : Nat) (more : Bool) (good5 : List Bool), v8 = .bool more ∧ v9 = .int .i64 k ∧ k ≤ t.edges.length ∧ Sweep (tauPairs t) (markB L0) good good5 k more
    ∧ Below B w w5 ∧ w5.ownsRow B 4 1 (.slice (some ⟨G, 0, none⟩) N N) N (good5.map Value.bool)) (fun _ v9 _ => t.edges.length - (intOf v9).toNat)
   case atStart => exact ⟨0, false, good, rfl, rfl, Nat.zero_le _, Sweep.start HG.out.ok, HG.out.below, HG.out.own⟩
   case round =>
    obtain ⟨k, more, good5, rfl, rfl, hk, hsw, hb5, ho5⟩ := hrel
    obtain ⟨wD, rfl⟩ : ∃ wD : World, wD = wr := ⟨_, rfl⟩
    have HSW := Lib.hid hsw
    have HB5 := Lib.hid hb5
    have HO5 := Lib.hid ho5
    have hs5 : B ≤ wD.heap.size := by have := hb5.size; have := HBE.out; omega
    have hbw : Below w.heap.size w wD := by have h := hb5; rw [HBE.out] at h; exact h
    have hl5 : good5.length = N := by rw [hsw.len, hgl]
    have q3 := keeps hbw hpl HQ3.out
    have hplD : bt < wD.heap.size := Nat.lt_of_lt_of_le hpl hbw.size
    have HZD := Lib.hid (HZ.out.below hbw)
    clear hsw
    by_cases hlt : k < t.edges.length
    ·obtain ⟨be, oe, rfl, -, hbe, e1, e2, e3⟩ := (HER.out.below hbw).edge hlt
     have hkp : k < (tauPairs t).length := by rw [tauPairs_lenK]; exact hlt
     have hpg := tauPairs_getK hkp hlt
     have hok := HV.out.edge k hlt
     have h1 := hok.s0
     have h2 := hok.s1
     have h3 := hok.d0
     have h4 := hok.d1
     have h5 := HNS.out
     obtain ⟨e, hee⟩ : ∃ e, e = t.edges[k] := ⟨_, rfl⟩
     rw [← hee] at e1 e2 e3 hpg h1 h2 h3 h4
     obtain ⟨es, hes⟩ : ∃ es : Nat, (es : Int) = e.src := ⟨e.src.toNat, by omega⟩
     obtain ⟨ed, hed⟩ : ∃ ed : Nat, (ed : Int) = e.dst := ⟨e.dst.toNat, by omega⟩
     have hsn : es < N := by omega
     have hdn : ed < N := by omega
     obtain ⟨el, hel⟩ : ∃ el, el = e.lab := ⟨_, rfl⟩
     rw [← hes] at e1
     rw [← hed] at e3
     rw [← hel] at e2
     have HP : Hid ((tauPairs t)[k] = if el = 0 then (ed, es) else (0, 0)) := by
      unfold Hid
      rw [hpg]
      unfold tauPair
      rw [← hel, show e.dst.toNat = ed by omega, show e.src.toNat = es by omega]
     have HSK : Hid ((el = 0 → good5[es]? = some true → good5[ed]? = some true) → Sweep (tauPairs t) (markB L0) good good5 (k + 1) more) := fun hh => HSW.out.skip hkp (by
      rw [HP.out]
      split
      ·next h0 => exact hh h0
      ·exact fun h => h)
     obtain ⟨W2, hW2⟩ : ∃ W2, W2 = wD.alloc (.cells #[.int .i64 es, .int .i64 el, .int .i64 ed] 73) := ⟨_, rfl⟩
     obtain ⟨eb, heb⟩ : ∃ eb, eb = wD.heap.size := ⟨_, rfl⟩
     have hb2 : Below wD.heap.size wD W2 := by rw [hW2]; exact (Below.refl _ _).alloc (Nat.le_refl _) _
     have HE : Hid (Blk W2 eb [.int .i64 es, .int .i64 el, .int .i64 ed] 73) := by unfold Hid; rw [hW2, heb]; exact Blk.new wD _ _
     have HB6 : Hid (Below B w W2) := HB5.out.trans (hb2.mono hs5)
     have HO6 := Lib.hid (owns_below HO5.out hb2)
     have HIT := Lib.hid (l15Inert_any eb z N es ed el W2 HE.out (HZD.out.below hb2) hsn hdn)
     have HW2 := Lib.hid hW2
     have HEB := Lib.hid heb
     have hs6 : B ≤ W2.heap.size := Nat.le_trans hs5 hb2.size
     have k0 := HE.out.cell 0 rfl
     have k2 := HE.out.cell 2 rfl
     have hsi : (es : Int) < (N : Int) := by omega
     have hdi : (ed : Int) < (N : Int) := by omega
     clear hpg hok h1 h2 h3 h4 h5 hee hes hed hel hb5 ho5 hb2 hW2 heb hbw
     go_upto_region 10 with fail
     rw [← HW2.out]
     try rw [← HEB.out]
     cases hgs : good5.getD es false
     ·have HGS := Lib.hid (getD_some (by rw [hl5]; exact hsn) hgs)
      have cs := cell_bool HO6.out hsn
      rw [hgs] at cs
      clear hgs
      go_wp2
      go_roundw
      case rel => exact ⟨k + 1, more, good5, rfl, by go_num, by omega, HSK.out (fun _ h => by rw [HGS.out] at h; cases h), HB6.out, HO6.out⟩
      case measure => simp [intOf]; omega
     ·have HGS := Lib.hid (getD_some (by rw [hl5]; exact hsn) hgs)
      have cs := cell_bool HO6.out hsn
      rw [hgs] at cs
      clear hgs
      cases hgd : good5.getD ed false
      ·have HGD := Lib.hid (getD_some (by rw [hl5]; exact hdn) hgd)
       have cd := cell_bool HO6.out hdn
       rw [hgd] at cd
       clear hgd
       obtain ⟨bl, hbl⟩ : ∃ bl, bl = (el == 0) := ⟨_, rfl⟩
       rw [← hbl] at HIT
       have HBL := Lib.hid hbl
       clear hbl
       go_wp2_with fail
       refine Calls.mono HIT.out ?_
       rintro e w7 ⟨rfl, hb7⟩
       have HB7 : Hid (Below B w w7) := HB6.out.trans (hb7.mono hs6)
       have HO7 := Lib.hid (owns_below HO6.out hb7)
       have k27 := (HE.out.below hb7).cell 2 rfl
       clear hb7 k0 k2 cs cd HIT
       cases bl
       ·have hne : el ≠ 0 := fun h => by have := HBL.out; rw [h] at this; simp at this
        have HSK2 := Lib.hid (HSK.out (fun h => absurd h hne))
        clear hne
        go_wp2
        go_roundw
        case rel => exact ⟨k + 1, more, good5, rfl, by go_num, by omega, HSK2.out, HB7.out, HO7.out⟩
        case measure => simp [intOf]; omega
       ·have he0 : el = 0 := by have := HBL.out.symm; rw [beq_iff_eq] at this; exact this
        have HTU : Hid (Sweep (tauPairs t) (markB L0) good (good5.set ed true) (k + 1) true) := by
         have hp2 : (tauPairs t)[k] = (ed, es) := by rw [HP.out, if_pos he0]
         have h := HSW.out.turn hkp (by rw [hp2]; exact HGS.out) (by rw [hp2]; exact HGD.out)
         rw [hp2] at h
         exact h
        have cd := cell_bool HO7.out hdn
        have fd := HO7.out.frozenAt ed
        clear he0
        go_wp2
        go_roundw
        case rel =>
         refine ⟨k + 1, true, good5.set ed true, rfl, by go_num, by omega, HTU.out, HB7.out.setCell hGB _, ?_⟩
         rw [List.map_set]; exact (HO7.out.stored ed (.bool true)).1
        case measure => simp [intOf]; omega
      ·have HGD := Lib.hid (getD_some (by rw [hl5]; exact hdn) hgd)
       have cd := cell_bool HO6.out hdn
       rw [hgd] at cd
       clear hgd
       go_wp2
       go_roundw
       case rel => exact ⟨k + 1, more, good5, rfl, by go_num, by omega, HSK.out (fun _ _ => HGD.out), HB6.out, HO6.out⟩
       case measure => simp [intOf]; omega
    ·obtain rfl : k = t.edges.length := by omega
     have HSE : Hid (Sweep (tauPairs t) (markB L0) good good5 (tauPairs t).length more) := by unfold Hid; rw [tauPairs_lenK]; exact HSW.out
     clear hb5 ho5 hbw
     go_wp2
     go_roundg (2 * falses good5 + more.toNat)
     case measure =>
      have h1 := HG.out.left
      cases more
      ·have h2 := (HSE.out.no rfl).1
       rw [h2]
       simp only [Bool.toNat_true, Bool.toNat_false] at *
       omega
      ·have h2 := HSE.out.yes rfl
       simp only [Bool.toNat_true] at *
       omega
     case rel =>
      refine ⟨good5, more, rfl, hl5, HSE.out.ok, (fun h => ?_), Nat.le_refl _, HB5.out, HO5.out⟩
      subst h
      exact HSE.out.done

end Go.Proofs.YtbjbjbnbapeajaaGreatDoor

namespace Go.Proofs.YtbjbjbnbapeajaaGreatDoor
open Go Go.RowKit

/-- A row of truths. -/
def rowT (N : Nat) (f : Int → Bool) : List Value := (List.range N).map fun (i : Nat) => Value.bool (f i)
theorem rowT_len (N : Nat) (f : Int → Bool) : (rowT N f).length = N := by simp [rowT]
theorem rowT_get {N : Nat} {f : Int → Bool} {i : Nat} (h : i < N) : (rowT N f)[i]? = some (.bool (f i)) := by simp [rowT, h]
theorem rowT_congr {N : Nat} {f g : Int → Bool} (h : ∀ i : Nat, i < N → f i = g i) : rowT N f = rowT N g := by
 unfold rowT
 exact List.map_congr_left fun i hi => by rw [h i (List.mem_range.1 hi)]
theorem rowT_of {N : Nat} {l : List Bool} {f : Int → Bool} (hl : l.length = N) (h : ∀ i : Nat, i < N → l.getD i false = f i) : l.map Value.bool = rowT N f := by
 apply List.ext_getElem (by simp [rowT, hl])
 intro i h1 h2
 have hi : i < N := by rw [rowT_len] at h2; exact h2
 have := h i hi
 rw [List.getD_eq_getElem?_getD, List.getElem?_eq_getElem (by omega)] at this
 simp only [Option.getD_some] at this
 simp [rowT, this]
theorem rowT_set {N : Nat} {f g : Int → Bool} {m : Nat} {b : Bool} (_hm : m < N) (h : ∀ i : Nat, i < N → g i = if i = m then b else f i) : (rowT N f).set m (.bool b) = rowT N g := by
 apply List.ext_getElem (by simp [rowT])
 intro i h1 h2
 have hi : i < N := by rw [rowT_len] at h2; exact h2
 rw [List.getElem_set]
 by_cases e : m = i
 ·subst e
  rw [if_pos rfl]
  have := h m hi
  rw [if_pos rfl] at this
  simp [rowT, this]
 ·rw [if_neg e]
  have := h i hi
  rw [if_neg (fun e2 => e e2.symm)] at this
  simp [rowT, this]
theorem strong_row {N : Nat} {t : Lts} {κ y : Int} {l : ByteArray} (hκ : (κ != 2) = true) : (tgtL N t y l t.edges.length).map Value.bool = rowT N (tgtK κ t y l) := by
 refine rowT_of (by simp [tgtL]) fun i hi => ?_
 have h2 : ¬ κ = 2 := by simpa using hκ
 unfold tgtK
 rw [if_neg h2, List.getD_eq_getElem?_getD, List.getElem?_eq_getElem (by simpa [tgtL] using hi), Option.getD_some, tgtL_get, tgtTo_all]

set_option maxRecDepth 100000 in
set_option maxHeartbeats 2000000 in
theorem l17Targets_strong (bt lo N : Nat) (κ : Int) (t : Lts) (y : Int) (l : ByteArray) (w : World) (hκ : (κ != 2) = true) (hv : Valid t) (hN : (N : Int) = t.states) (hp : LtsPtr lo w bt t) :
  Calls Tryz.prog 99 #[.pointer (some ⟨bt, 0, none⟩), .int .i64 y, .string l, .int .i64 κ] w fun e w' => ∃ g, e = .returned (.slice (some ⟨g, 0, none⟩) N N) ∧ Below w.heap.size w w' ∧ w'.ownsRow w.heap.size 4 1 (.slice (some ⟨g, 0, none⟩) N N) N (rowT N (tgtK κ t y l)) := by
 have HV := Lib.hid hv
 have h1 := hv.st0
 have h2 := hv.st1
 have HP := Lib.hid hp
 have HFI := Lib.hid (fun (w' : World) (hb : Below w.heap.size w w') (lv : Value) (h : SliceK 1 encS lo w lv t.labels) => l11Find_any lo lv t.labels l w' (h.below hb))
 obtain ⟨lv, ev, hpl, q0, -, q2, q3, hls, hes⟩ := hp
 have HLS := Lib.hid hls
 obtain ⟨ae, ce, rfl, hen, hec, herow⟩ := hes
 have HER := Lib.hid herow
 have hmost := hv.most
 rw [← hN] at q0 h1 h2
 obtain ⟨n, hn⟩ : ∃ n, n = textAt t.labels l := ⟨_, rfl⟩
 rw [← hn] at HFI
 have HNN := Lib.hid hn
 have HNS := Lib.hid hN
 obtain ⟨E, hE⟩ : ∃ E, E = t.edges.length := ⟨_, rfl⟩
 rw [← hE] at hen hmost q3
 have HEE := Lib.hid hE
 have HQ3 := Lib.hid q3
 have HQ2 := Lib.hid q2
 obtain ⟨ib, hib, hzb0, hzb1, hzb2⟩ := info_parts info_boolG
 clear hv hN hls herow hn hE
 go_enter Tryz.func99, Tryz.ntmps99
 go_wp2_with (at_make; refine wpList_make_full _ rfl _ _ 57 rfl w.heap.size 4 ib _ 1 Tryz.underlying57 hib hzb0 hzb1 .i64 .i64 _ _ N rfl rfl rfl rfl ?_ ?_ ?_ ?_)
 ·rw [hzb2]; omega
 ·simp [maxLen]; omega
 ·exact Nat.le_refl _
 intro w1 ho hg
 rw [toList_madeCells_one] at ho
 obtain ⟨G, hG⟩ : ∃ G, G = w.heap.size := ⟨_, rfl⟩
 have HB1 : Hid (Below w.heap.size w w1) := (Below.refl _ w).grown hg (Nat.le_refl _) (fun _ h => by cases h)
 rw [← hG] at ho ⊢
 have HO : Hid (w1.ownsRow G 4 1 (.slice (some ⟨G, 0, none⟩) N N) N ((List.replicate N false).map Value.bool)) := by
  unfold Hid; simpa using ho
 have HG := Lib.hid hG
 have q2 := keeps HB1.out hpl HQ2.out
 have q3 := keeps HB1.out hpl HQ3.out
 have hsz1 : w.heap.size ≤ w1.heap.size := HB1.out.size
 clear ho hg hG hib hzb0 hzb1 hzb2
 go_wp2_with fail
 refine Calls.mono (HFI.out w1 HB1.out lv HLS.out) ?_
 rintro e w2 ⟨rfl, hb2⟩
 have HB2 := Lib.hid (HB1.out.trans (hb2.mono hsz1))
 have HO2 := Lib.hid (owns_below HO.out hb2)
 clear hb2 HO HB1 q2 q3 HFI
 go_wp2
 go_loopw [11] (fun i wr => ∃ k : Nat, k ≤ E ∧ i = .int .i64 k ∧ Below w.heap.size w wr ∧ wr.ownsRow G 4 1 (.slice (some ⟨G, 0, none⟩) N N) N ((tgtL N t y l k).map Value.bool)) (fun i _ => E - (intOf i).toNat)
 case atStart => exact ⟨0, Nat.zero_le _, rfl, HB2.out, by rw [tgtL_zero]; exact HO2.out⟩
 case round =>
  clear HB2 HO2
  obtain ⟨k, hk, rfl, hbl, ho⟩ := hrel
  have HBL := Lib.hid hbl
  have HO := Lib.hid ho
  have hsz := hbl.size
  have q3 := keeps hbl hpl HQ3.out
  clear hbl ho
  by_cases hlt : k < E
  ·have hkE : k < t.edges.length := by rw [← HEE.out]; exact hlt
   obtain ⟨be, oe, rfl, -, hbe, e1, e2, e3⟩ := (HER.out.below HBL.out).edge hkE
   have hok := HV.out.edge k hkE
   have hlab := textAt_lab HV.out hok l
   obtain ⟨d, hd⟩ : ∃ d : Nat, (d : Int) = t.edges[k].dst := ⟨t.edges[k].dst.toNat, by have := hok.d0; omega⟩
   have hdN : d < N := by have := hok.d1; have := HNS.out; omega
   rw [← HNN.out] at hlab
   have HD := Lib.hid hd
   have HLAB := Lib.hid hlab
   rw [← hd] at e3
   have HHIT : Hid (t.edges[k].src = y → t.edges[k].lab = n → tgtL N t y l (k + 1) = (tgtL N t y l k).set d true) := fun g1 g2 => tgtL_hit hkE HD.out g1 (HLAB.out.1 g2)
   have HMISS : Hid (¬ (t.edges[k].src = y ∧ t.edges[k].lab = n) → tgtL N t y l (k + 1) = tgtL N t y l k) := fun g => tgtL_miss hkE (fun g2 => g ⟨g2.1, HLAB.out.2 g2.2⟩)
   obtain ⟨es, hes⟩ : ∃ es, es = t.edges[k].src := ⟨_, rfl⟩
   obtain ⟨el, hel⟩ : ∃ el, el = t.edges[k].lab := ⟨_, rfl⟩
   rw [← hes] at e1 HHIT HMISS
   rw [← hel] at e2 HHIT HMISS
   clear hok hlab hd hes hel HD HLAB
   cases g1 : (es == y)
   ·have HM : Hid (tgtL N t y l (k + 1) = tgtL N t y l k) := HMISS.out (fun h => by rw [h.1] at g1; simp at g1)
    go_wp2
    go_roundw
    case rel => exact ⟨k + 1, by omega, by go_num, HBL.out, by rw [HM.out]; exact HO.out⟩
    case measure => simp [intOf]; omega
   ·cases g2 : (el == n)
    ·have HM : Hid (tgtL N t y l (k + 1) = tgtL N t y l k) := HMISS.out (fun h => by rw [h.2] at g2; simp at g2)
     go_wp2
     go_roundw
     case rel => exact ⟨k + 1, by omega, by go_num, HBL.out, by rw [HM.out]; exact HO.out⟩
     case measure => simp [intOf]; omega
    ·have HM : Hid (tgtL N t y l (k + 1) = (tgtL N t y l k).set d true) := HHIT.out (eq_of_beq g1) (eq_of_beq g2)
     have HO2 := Lib.hid (HO.out.stored d (.bool true)).1
     have c2 := cell_bool HO.out hdN
     have c3 := HO.out.frozenAt d
     go_wp2
     go_roundw
     case rel =>
      refine ⟨k + 1, by omega, by go_num, HBL.out.setCell (by rw [HG.out]; exact Nat.le_refl _) _, ?_⟩
      rw [HM.out, List.map_set]
      exact HO2.out
     case measure => simp [intOf]; omega
  ·have HK : Hid (k = E) := Lib.hid (show k = E by omega)
   go_wp2
   go_ret
   refine ⟨_, rfl, HBL.out, ?_⟩
   rw [← HG.out, ← strong_row hκ, ← HEE.out, ← HK.out]
   exact HO.out


/-- Truths in a block. -/
def BoolAt (w : World) (g N : Nat) (f : Int → Bool) : Prop := g < w.heap.size ∧ ∀ i : Nat, i < N → w.cell? ⟨g, i, none⟩ = some (.bool (f i))
theorem BoolAt.below {w w' : World} {g N : Nat} {f : Int → Bool} (h : BoolAt w g N f) (hb : Below w.heap.size w w') : BoolAt w' g N f := ⟨Nat.lt_of_lt_of_le h.1 hb.size, fun i hi => keeps hb h.1 (h.2 i hi)⟩
theorem cell_far {w : World} {p : Addr} {u : Value} {b o : Nat} (h : b ≠ p.block) : (w.setCell p u).cell? ⟨b, o, none⟩ = w.cell? ⟨b, o, none⟩ := World.cell?_setCell_far _ _ _ _ fun k => h k.symm
theorem BoolAt.far {w : World} {g N : Nat} {f : Int → Bool} (h : BoolAt w g N f) {p : Addr} {u : Value} (hne : g ≠ p.block) : BoolAt (w.setCell p u) g N f := ⟨by rw [World.size_setCell]; exact h.1, fun i hi => by rw [cell_far hne]; exact h.2 i hi⟩
theorem OneAt.far {w : World} {z N : Nat} (h : OneAt w z N) {p : Addr} {u : Value} (hne : z ≠ p.block) : OneAt (w.setCell p u) z N := ⟨by rw [World.size_setCell]; exact h.1, fun i hi => by rw [cell_far hne]; exact h.2 i hi⟩
noncomputable section
def closB (t : Lts) (q : Int) (x : Int) : Bool := @decide (clos t (fun y => y = q) x) (Classical.propDecidable _)
theorem closB_iff {t : Lts} {q x : Int} : closB t q x = true ↔ clos t (fun y => y = q) x := by
 unfold closB
 exact ⟨fun h => @of_decide_eq_true _ (Classical.propDecidable _) h, fun h => @decide_eq_true _ (Classical.propDecidable _) h⟩
end
theorem BoolAt.clos {w : World} {g N : Nat} {t : Lts} {q : Int} {good : List Bool} {base : Nat} (hl : good.length = N) (h : ∀ x, inL good x ↔ clos t (fun y => y = q) x) (ho : w.ownsRow base 4 1 (.slice (some ⟨g, 0, none⟩) N N) N (good.map Value.bool)) : BoolAt w g N (closB t q) := by
 refine ⟨(ho.lt g rfl).2, fun i hi => ?_⟩
 rw [cell_bool ho hi]
 congr 2
 rw [Bool.eq_iff_iff, closB_iff, ← h (i : Int)]
 unfold inL
 rw [Int.toNat_natCast]
 constructor
 ·intro e
  exact ⟨by omega, getD_some (by omega) e⟩
 ·rintro ⟨-, e⟩
  rw [List.getD_eq_getElem?_getD, e]
  rfl
/-- By the first n edges. -/
noncomputable def wkTo (t : Lts) (y : Int) (l : ByteArray) (n : Nat) (w : Int) : Bool := (t.edges.take n).any fun e => closB t y e.src && ((labAt t e).toList == l.toList) && closB t e.dst w
theorem wkTo_zero (t : Lts) (y : Int) (l : ByteArray) (w : Int) : wkTo t y l 0 w = false := by simp [wkTo]
theorem wkTo_succ {t : Lts} {y : Int} {l : ByteArray} {n : Nat} (h : n < t.edges.length) (w : Int) : wkTo t y l (n + 1) w = (wkTo t y l n w || (closB t y t.edges[n].src && ((labAt t t.edges[n]).toList == l.toList) && closB t t.edges[n].dst w)) := by
 unfold wkTo
 rw [List.take_succ_eq_append_getElem h, List.any_append]
 simp
theorem wkTo_all {t : Lts} {y : Int} {l : ByteArray} (hl : (l.toList == [116, 97, 117]) = false) (w : Int) : wkTo t y l t.edges.length w = tgtK 2 t y l w := by
 unfold tgtK wkTo
 rw [if_pos rfl, List.take_length, Bool.eq_iff_iff, wkB_iff, List.any_eq_true]
 have hne : l.toList ≠ tauB := fun e => by rw [e] at hl; simp [tauB] at hl
 unfold wkP
 constructor
 ·rintro ⟨e, he, hb⟩
  rw [Bool.and_eq_true, Bool.and_eq_true, closB_iff, closB_iff, beq_iff_eq] at hb
  exact .inr ⟨hne, e, he, hb.1.1, hb.1.2, hb.2⟩
 ·rintro (⟨h, -⟩ | ⟨-, e, he, h1, h2, h3⟩)
  ·exact absurd h hne
  ·exact ⟨e, he, by rw [Bool.and_eq_true, Bool.and_eq_true, closB_iff, closB_iff, beq_iff_eq]; exact ⟨⟨h1, h2⟩, h3⟩⟩
theorem tau_row {t : Lts} {y : Int} {l : ByteArray} (hl : (l.toList == [116, 97, 117]) = true) (w : Int) : closB t y w = tgtK 2 t y l w := by
 unfold tgtK
 rw [if_pos rfl, Bool.eq_iff_iff, wkB_iff, closB_iff]
 have he : l.toList = tauB := by rw [beq_iff_eq] at hl; exact hl
 unfold wkP
 constructor
 ·intro h; exact .inl ⟨he, h⟩
 ·rintro (⟨-, h⟩ | ⟨h, -⟩)
  ·exact h
  ·exact absurd he h

end Go.Proofs.YtbjbjbnbapeajaaGreatDoor

namespace Go.Proofs.YtbjbjbnbapeajaaGreatDoor
open Go Go.RowKit

theorem info_int64K : (Tryz.prog.info? 2).map (fun i => (i.zero, i.size, i.bytes)) = some (some (.int .i64 0), 1, 8) := by kernel_rfl
/-- The first m entries have been joined. -/
def mixT (f g : Int → Bool) (m : Nat) (i : Int) : Bool := f i || (decide (i < (m : Int)) && g i)
theorem mixT_zero {f g : Int → Bool} {N : Nat} : rowT N (mixT f g 0) = rowT N f := rowT_congr fun i _ => by
 unfold mixT
 have : ¬ ((i : Int) < ((0 : Nat) : Int)) := by omega
 rw [decide_eq_false this]
 simp
theorem mixT_all {f g h : Int → Bool} {N : Nat} (hh : ∀ i : Nat, i < N → h i = (f i || g i)) : rowT N (mixT f g N) = rowT N h := rowT_congr fun i hi => by
 unfold mixT
 have : ((i : Int) < (N : Int)) := by omega
 simp [this, hh i hi]
theorem mixT_set {f g : Int → Bool} {N m : Nat} (hm : m < N) : (rowT N (mixT f g m)).set m (.bool (mixT f g m m || g m)) = rowT N (mixT f g (m + 1)) := by
 refine rowT_set hm fun i hi => ?_
 unfold mixT
 by_cases e : i = m
 ·subst e
  have h1 : ((i : Int) < ((i + 1 : Nat) : Int)) := by omega
  have h2 : ¬ ((i : Int) < (i : Int)) := by omega
  rw [if_pos rfl, decide_eq_true h1, decide_eq_false h2]
  simp
 ·rw [if_neg e]
  by_cases h : i < m
  ·have h1 : ((i : Int) < ((m + 1 : Nat) : Int)) := by omega
   have h2 : ((i : Int) < (m : Int)) := by omega
   rw [decide_eq_true h1, decide_eq_true h2]
  ·have h1 : ¬ ((i : Int) < ((m + 1 : Nat) : Int)) := by omega
   have h2 : ¬ ((i : Int) < (m : Int)) := by omega
   rw [decide_eq_false h1, decide_eq_false h2]

set_option maxRecDepth 100000 in
set_option maxHeartbeats 4000000 in
theorem l17Targets_weak (bt lo N y : Nat) (t : Lts) (l : ByteArray) (w : World) (hv : Valid t) (hN : (N : Int) = t.states) (hy : y < N) (hp : LtsPtr lo w bt t) :
  Calls Tryz.prog 99 #[.pointer (some ⟨bt, 0, none⟩), .int .i64 y, .string l, .int .i64 2] w fun e w' => ∃ g, e = .returned (.slice (some ⟨g, 0, none⟩) N N) ∧ Below w.heap.size w w' ∧ w'.ownsRow w.heap.size 4 1 (.slice (some ⟨g, 0, none⟩) N N) N (rowT N (tgtK 2 t y l)) := by
 have HV := Lib.hid hv
 have h1 := hv.st0
 have h2 := hv.st1
 have HP := Lib.hid hp
 obtain ⟨lv, ev, hpl, q0, -, q2, q3, hls, hes⟩ := hp
 obtain ⟨al, cl, rfl, hln, hlc, hlrow⟩ := hls
 have HLR := Lib.hid hlrow
 obtain ⟨ae, ce, rfl, hen, hec, herow⟩ := hes
 have HER := Lib.hid herow
 have hmost := hv.most
 rw [← hN] at q0 h1 h2
 have HNS := Lib.hid hN
 obtain ⟨LN, hLN⟩ : ∃ LN, LN = t.labels.length := ⟨_, rfl⟩
 rw [← hLN] at q2 hln
 have HLN := Lib.hid hLN
 obtain ⟨E, hE⟩ : ∃ E, E = t.edges.length := ⟨_, rfl⟩
 rw [← hE] at hen hmost q3
 have HEE := Lib.hid hE
 have HQ3 := Lib.hid q3
 have HQ2 := Lib.hid q2
 obtain ⟨ib, hib, hzb0, hzb1, hzb2⟩ := info_parts info_boolG
 obtain ⟨ii, hii, hzi0, hzi1, hzi2⟩ := info_parts info_int64K
 obtain ⟨B, hB⟩ : ∃ B, B = w.heap.size := ⟨_, rfl⟩
 have HBE := Lib.hid hB
 clear hv hN hlrow herow hLN hE hB q2 q3
 go_enter Tryz.func99, Tryz.ntmps99
 go_wp2_with (at_make; refine wpList_make_full _ rfl _ _ 57 rfl w.heap.size 4 ib _ 1 Tryz.underlying57 hib hzb0 hzb1 .i64 .i64 _ _ N rfl rfl rfl rfl ?_ ?_ ?_ ?_)
 ·rw [hzb2]; omega
 ·simp [maxLen]; omega
 ·exact Nat.le_refl _
 intro w1 ho hg
 rw [toList_madeCells_one] at ho
 obtain ⟨G, hG⟩ : ∃ G, G = w.heap.size := ⟨_, rfl⟩
 have HB1 : Hid (Below w.heap.size w w1) := (Below.refl _ w).grown hg (Nat.le_refl _) (fun _ h => by cases h)
 rw [← hG] at ho ⊢
 have HO1 : Hid (w1.ownsRow B 4 1 (.slice (some ⟨G, 0, none⟩) N N) N (rowT N (fun _ => false))) := by
  unfold Hid
  rw [HBE.out, ← hG]
  have e : rowT N (fun _ => false) = List.replicate N (.bool false) := by
   apply List.ext_getElem (by simp [rowT])
   intro i h1 h2
   simp [rowT]
  rw [e]
  simpa using ho
 have HG := Lib.hid hG
 have q0 := keeps HB1.out hpl q0
 have hpl1 : bt < w1.heap.size := Nat.lt_of_lt_of_le hpl HB1.out.size
 have hG1 : G < w1.heap.size := (HO1.out.lt G rfl).2
 clear ho hg hib hzb0 hzb1 hzb2 hG
 go_wp2_with (at_make; refine wpList_make_full _ rfl _ _ 68 rfl w1.heap.size 2 ii _ 1 Tryz.underlying68 hii hzi0 hzi1 .i64 .i64 _ _ N rfl rfl rfl rfl ?_ ?_ ?_ ?_)
 ·rw [hzi2]; omega
 ·simp [maxLen]; omega
 ·exact Nat.le_refl _
 intro w2 ho2 hg2
 rw [toList_madeCells_one] at ho2
 obtain ⟨z, hz⟩ : ∃ z, z = w1.heap.size := ⟨_, rfl⟩
 have hb2 : Below w1.heap.size w1 w2 := (Below.refl _ w1).grown hg2 (Nat.le_refl _) (fun _ h => by cases h)
 have HB2 : Hid (Below w.heap.size w w2) := HB1.out.trans (hb2.mono HB1.out.size)
 have hzG : z ≠ G := by omega
 have HZ2 : Hid (OneAt w2 z N) := by
  refine ⟨by rw [hz]; exact (ho2.lt _ rfl).2, fun i hi => ?_⟩
  rw [hz, ho2.cellAt i (by omega)]
  simp [hi]
 rw [← hz]
 have HO2 := Lib.hid (owns_below HO1.out hb2)
 have HRN := Lib.hid (l15Reach_any bt lo z N y t w2 HV.out HNS.out hy (HP.out.below HB2.out) HZ2.out)
 have hs2 : w.heap.size ≤ w2.heap.size := HB2.out.size
 have hG2 : G < w2.heap.size := Nat.lt_of_lt_of_le hG1 hb2.size
 clear ho2 hg2 hb2 hz HO1 HB1 q0 hii hzi0 hzi1 hzi2 hpl1
 go_wp2_with fail
 refine Calls.mono HRN.out ?_
 rintro e w3 ⟨gn, near, rfl, hb3, hnl, hin, ho3⟩
 have HB3 := Lib.hid (HB2.out.trans (hb3.mono hs2))
 have HN3 := Lib.hid (BoolAt.clos hnl hin ho3)
 have HZ3 := Lib.hid (HZ2.out.below hb3)
 have HO3 := Lib.hid (owns_below HO2.out hb3)
 have hgn : gn ≠ G := by have := (ho3.lt gn rfl).1; omega
 have hnr : near.map Value.bool = rowT N (closB t y) := rowT_of hnl fun i hi => by
  have h := (BoolAt.clos hnl hin ho3).2 i hi
  rw [cell_bool ho3 hi] at h
  simpa using h
 have HNR := Lib.hid (show w3.ownsRow w.heap.size 4 1 (.slice (some ⟨gn, 0, none⟩) N N) N (rowT N (closB t y)) by rw [← hnr]; exact own_lower ho3 hs2)
 have hs3 : w.heap.size ≤ w3.heap.size := HB3.out.size
 clear hb3 hnl hin ho3 hnr HRN HO2 HZ2 HB2
 by_cases htau : (l.toList == [116, 97, 117]) = true
 ·have HRW : Hid (rowT N (closB t y) = rowT N (tgtK 2 t y l)) := rowT_congr fun i _ => tau_row htau i
  go_wp2
  go_ret
  exact ⟨gn, rfl, HB3.out, by rw [← HRW.out]; exact HNR.out⟩
 ·have htf : (l.toList == [116, 97, 117]) = false := by simpa using htau
  have HTF := Lib.hid htf
  have HBB : Hid (Below B w w3) := by unfold Hid; rw [HBE.out]; exact HB3.out
  have hGB : B ≤ G := by rw [HBE.out, HG.out]; exact Nat.le_refl _
  have HZERO : Hid (rowT N (fun _ => false) = rowT N (wkTo t y l 0)) := rowT_congr fun i _ => (wkTo_zero t y l i).symm
  clear htau
  go_wp2
  clear htf
  go_loopw [14] (fun v14 wr => ∃ n : Nat, n ≤ E ∧ v14 = .int .i64 n ∧ Below B w wr ∧ OneAt wr z N ∧ BoolAt wr gn N (closB t y) ∧ wr.ownsRow B 4 1 (.slice (some ⟨G, 0, none⟩) N N) N (rowT N (wkTo t y l n))) (fun v14 _ => E - (intOf v14).toNat)
  case atStart => exact ⟨0, Nat.zero_le _, rfl, HBB.out, HZ3.out, HN3.out, by rw [← HZERO.out]; exact HO3.out⟩
  case round =>
   clear HBB HZ3 HN3 HO3 HNR HB3
   obtain ⟨n, hn, rfl, hbl, hzz, hnn, hoo⟩ := hrel
   obtain ⟨wC, rfl⟩ : ∃ wC : World, wC = wr := ⟨_, rfl⟩
   have HBL := Lib.hid hbl
   have HZC := Lib.hid hzz
   have HNC := Lib.hid hnn
   have HOC := Lib.hid hoo
   have hbw : Below w.heap.size w wC := by have h := hbl; rw [HBE.out] at h; exact h
   have hsC : B ≤ wC.heap.size := by rw [HBE.out]; exact hbw.size
   have q3 := keeps hbw hpl HQ3.out
   have hplC : bt < wC.heap.size := Nat.lt_of_lt_of_le hpl hbw.size
   have HBW := Lib.hid hbw
   clear hbl hzz hnn hoo
   by_cases hlt : n < E
   ·have hnE : n < t.edges.length := by rw [← HEE.out]; exact hlt
    obtain ⟨be, oe, rfl, -, hbe, e1, e2, e3⟩ := (HER.out.below hbw).edge hnE
    have hok := HV.out.edge n hnE
    have hst := fun x => wkTo_succ (y := (y : Int)) (l := l) hnE x
    obtain ⟨q, hq⟩ : ∃ q, q = t.edges[n] := ⟨_, rfl⟩
    rw [← hq] at e1 e2 e3 hok hst
    obtain ⟨es, hes⟩ : ∃ d : Nat, (d : Int) = q.src := ⟨q.src.toNat, by have := hok.s0; omega⟩
    obtain ⟨ed, hed⟩ : ∃ d : Nat, (d : Int) = q.dst := ⟨q.dst.toNat, by have := hok.d0; omega⟩
    obtain ⟨el, hel⟩ : ∃ d : Nat, (d : Int) = q.lab := ⟨q.lab.toNat, by have := hok.l0; omega⟩
    have hsn : es < N := by have := hok.s1; have := HNS.out; omega
    have hdn : ed < N := by have := hok.d1; have := HNS.out; omega
    have helL : el < t.labels.length := by have := hok.l1; omega
    have helN : el < LN := by rw [HLN.out]; exact helL
    obtain ⟨bl, ol, rfl, -, hbl0, hlc1⟩ := HLR.out.one helL
    obtain ⟨m, hm⟩ : ∃ m, m = t.labels[el] := ⟨_, rfl⟩
    simp only [encS, List.getElem?_cons_zero] at hlc1
    rw [← hm] at hlc1
    have hlab : labAt t q = m := by
     unfold labAt
     rw [show q.lab.toNat = el from by omega, List.getD_eq_getElem?_getD, List.getElem?_eq_getElem helL, hm]
     rfl
    rw [hlab] at hst
    rw [← hes] at e1 hst
    rw [← hel] at e2
    rw [← hed] at e3 hst
    have hcn := HNC.out.2 es hsn
    obtain ⟨nb, hnb⟩ : ∃ nb, nb = closB t y es := ⟨_, rfl⟩
    rw [← hnb] at hcn hst
    obtain ⟨mb, hmb⟩ : ∃ mb, mb = (m.toList == l.toList) := ⟨_, rfl⟩
    have hmb2 : (m.toList == l.toList) = mb := hmb.symm
    rw [hmb2] at hst
    obtain ⟨W2, hW2⟩ : ∃ W2, W2 = wC.alloc (.cells #[.int .i64 es, .int .i64 el, .int .i64 ed] 73) := ⟨_, rfl⟩
    obtain ⟨eb, heb⟩ : ∃ eb, eb = wC.heap.size := ⟨_, rfl⟩
    have hb2 : Below wC.heap.size wC W2 := by rw [hW2]; exact (Below.refl _ _).alloc (Nat.le_refl _) _
    have HE : Hid (Blk W2 eb [.int .i64 es, .int .i64 el, .int .i64 ed] 73) := by unfold Hid; rw [hW2, heb]; exact Blk.new wC _ _
    have hbw2 : Below w.heap.size w W2 := hbw.trans (hb2.mono hbw.size)
    have HB6 := Lib.hid hbw2
    have HO6 := Lib.hid (owns_below HOC.out hb2)
    have HZ6 := Lib.hid (HZC.out.below hb2)
    have HN6 := Lib.hid (HNC.out.below hb2)
    have HST := Lib.hid hst
    have HW2 := Lib.hid hW2
    have HEB := Lib.hid heb
    have hs6 : w.heap.size ≤ W2.heap.size := hbw2.size
    have l0 := later_cell HE.out.lt (HE.out.cell 0 rfl)
    have l1 := later_cell HE.out.lt (HE.out.cell 1 rfl)
    have l2 := later_cell (Nat.lt_of_lt_of_le hpl hbw2.size) (keeps hbw2 hpl HQ2.out)
    have l3 := later_cell (Nat.lt_of_lt_of_le hbl0 hbw2.size) (keeps hbw2 hbl0 hlc1)
    have l4 := later_cell (HN6.out).1 ((HN6.out).2 es hsn)
    rw [← hnb] at l4
    have hsi : (es : Int) < (N : Int) := by omega
    have hdi : (ed : Int) < (N : Int) := by omega
    have hli : (el : Int) < (LN : Int) := by omega
    clear hq hok hst hes hed hel helL hm hlab hnb hmb hcn hW2 heb hb2 hbw2 hbw hlc1
    go_upto_region 18 with fail
    rw [← HW2.out]
    try rw [← HEB.out]
    cases nb
    ·have HNO : Hid (rowT N (wkTo t y l (n + 1)) = rowT N (wkTo t y l n)) := rowT_congr fun i _ => by rw [HST.out]; simp
     refine wp_region_later (by kernel_rfl) (by kernel_rfl) ?_
     repeat (go_big_quiet_step ((fail)))
     refine wpQuiet_nil ?_
     intro _ hw9
     obtain ⟨nl, hw8⟩ := hw9
     subst hw8
     have HN9 := Lib.hid nl.h
     clear l0 l1 l2 l3 l4
     go_wp2
     go_roundw
     case rel => exact ⟨n + 1, by omega, by go_num, by rw [HBE.out]; exact HB6.out.trans (HN9.out.mono hs6), HZ6.out.below HN9.out, HN6.out.below HN9.out, by rw [HNO.out]; exact owns_below HO6.out HN9.out⟩
     case measure => simp [intOf]; omega
    ·cases mb
     ·have HNO : Hid (rowT N (wkTo t y l (n + 1)) = rowT N (wkTo t y l n)) := rowT_congr fun i _ => by rw [HST.out]; simp
      refine wp_region_later (by kernel_rfl) (by kernel_rfl) ?_
      repeat (go_big_quiet_step ((fail)))
      refine wpQuiet_nil ?_
      intro _ hw9
      obtain ⟨nl, hw8⟩ := hw9
      subst hw8
      have HN9 := Lib.hid nl.h
      clear l0 l1 l2 l3 l4
      go_wp2
      go_roundw
      case rel => exact ⟨n + 1, by omega, by go_num, by rw [HBE.out]; exact HB6.out.trans (HN9.out.mono hs6), HZ6.out.below HN9.out, HN6.out.below HN9.out, by rw [HNO.out]; exact owns_below HO6.out HN9.out⟩
      case measure => simp [intOf]; omega
     ·have HYES : Hid (rowT N (mixT (wkTo t y l n) (closB t ed) N) = rowT N (wkTo t y l (n + 1))) := mixT_all fun i _ => by rw [HST.out]; simp
      refine wp_region_later (by kernel_rfl) (by kernel_rfl) ?_
      repeat (go_big_quiet_step ((fail)))
      refine wpQuiet_nil ?_
      intro _ hw9
      obtain ⟨nl, hw8⟩ := hw9
      subst hw8
      obtain ⟨w8, hw8⟩ : ∃ w8, w8 = nl.w := ⟨_, rfl⟩
      have hb8 : Below W2.heap.size W2 w8 := by rw [hw8]; exact nl.h
      rw [← hw8]
      have hbw8 : Below w.heap.size w w8 := HB6.out.trans (hb8.mono hs6)
      have HB8 := Lib.hid hbw8
      have HO8 := Lib.hid (owns_below HO6.out hb8)
      have HZ8 := Lib.hid (HZ6.out.below hb8)
      have HN8 := Lib.hid (HN6.out.below hb8)
      have k2 := (HE.out.below hb8).cell 2 rfl
      have HRF := Lib.hid (l15Reach_any bt lo z N ed t w8 HV.out HNS.out hdn (HP.out.below hbw8) HZ8.out)
      have hs8 : w.heap.size ≤ w8.heap.size := hbw8.size
      have hG8 : G < w8.heap.size := (HO8.out.lt G rfl).2
      clear l0 l1 l2 l3 l4 hw8 hb8 hbw8
      go_wp2_with fail
      refine Calls.mono HRF.out ?_
      rintro e w9 ⟨gf, far, rfl, hb9, hfl, hfin, ho9⟩
      have HB9 := Lib.hid (HB8.out.trans (hb9.mono hs8))
      have HF9 := Lib.hid (BoolAt.clos hfl hfin ho9)
      have HZ9 := Lib.hid (HZ8.out.below hb9)
      have HN9 := Lib.hid (HN8.out.below hb9)
      have HO9 := Lib.hid (owns_below HO8.out hb9)
      have hgf : gf ≠ G := by have := (ho9.lt gf rfl).1; omega
      have HBB9 : Hid (Below B w w9) := by unfold Hid; rw [HBE.out]; exact HB9.out
      have HM0 : Hid (rowT N (mixT (wkTo t y l n) (closB t ed) 0) = rowT N (wkTo t y l n)) := mixT_zero
      clear hb9 hfl hfin ho9 HRF k2
      go_wp2
      go_loopw [17] (fun v17 wr => ∃ m : Nat, m ≤ N ∧ v17 = .int .i64 m ∧ Below B w wr ∧ OneAt wr z N ∧ BoolAt wr gn N (closB t y) ∧ BoolAt wr gf N (closB t ed) ∧ wr.ownsRow B 4 1 (.slice (some ⟨G, 0, none⟩) N N) N (rowT N (mixT (wkTo t y l n) (closB t ed) m))) (fun v17 _ => N - (intOf v17).toNat)
      case atStart => exact ⟨0, Nat.zero_le _, rfl, HBB9.out, HZ9.out, HN9.out, HF9.out, by rw [HM0.out]; exact HO9.out⟩
      case round =>
       clear HBB9 HZ9 HN9 HF9 HO9 HM0 HB9
       obtain ⟨j, hj, rfl, hbl, hzz, hnn, hff, hoo⟩ := hrel
       obtain ⟨wD, rfl⟩ : ∃ wD : World, wD = wr := ⟨_, rfl⟩
       have HBL := Lib.hid hbl
       have HZD := Lib.hid hzz
       have HND := Lib.hid hnn
       have HFD := Lib.hid hff
       have HOD := Lib.hid hoo
       clear hbl hzz hnn hff hoo
       by_cases hjl : j < N
       ·have hco : wD.cell? ⟨G, j, none⟩ = some (.bool (mixT (wkTo t y l n) (closB t ed) j j)) := by
         rw [HOD.out.cellAt j (by omega), rowT_get hjl]
        have hcf := HFD.out.2 j hjl
        have fd := HOD.out.frozenAt j
        have hse := mixT_set (f := wkTo t y l n) (g := closB t ed) hjl
        obtain ⟨ob, hob⟩ : ∃ ob, ob = mixT (wkTo t y l n) (closB t ed) j j := ⟨_, rfl⟩
        obtain ⟨fb, hfb⟩ : ∃ fb, fb = closB t ed j := ⟨_, rfl⟩
        rw [← hob, ← hfb] at hse
        rw [← hob] at hco
        rw [← hfb] at hcf
        have HSE := Lib.hid hse
        have HGL : Hid (G < wD.heap.size) := (HOD.out.lt G rfl).2
        have HST2 : Hid ((wD.setCell ⟨G, j, none⟩ (.bool (ob || fb))).ownsRow B 4 1 (.slice (some ⟨G, 0, none⟩) N N) N (rowT N (mixT (wkTo t y l n) (closB t ed) (j + 1)))) := by
         unfold Hid
         rw [← hse]
         exact (HOD.out.stored j (.bool (ob || fb))).1
        have HZ2 : Hid (OneAt (wD.setCell ⟨G, j, none⟩ (.bool (ob || fb))) z N) := HZD.out.far hzG
        have HN2 : Hid (BoolAt (wD.setCell ⟨G, j, none⟩ (.bool (ob || fb))) gn N (closB t y)) := HND.out.far hgn
        have HF2 : Hid (BoolAt (wD.setCell ⟨G, j, none⟩ (.bool (ob || fb))) gf N (closB t ed)) := HFD.out.far hgf
        have HB2 : Hid (Below B w (wD.setCell ⟨G, j, none⟩ (.bool (ob || fb)))) := HBL.out.setCell hGB _
        clear hse hob hfb
        cases ob
        ·go_wp2
         go_roundw
         case rel => exact ⟨j + 1, by omega, by go_num, HB2.out, HZ2.out, HN2.out, HF2.out, HST2.out⟩
         case measure => simp [intOf]; omega
        ·go_wp2
         go_roundw
         case rel => exact ⟨j + 1, by omega, by go_num, HB2.out, HZ2.out, HN2.out, HF2.out, HST2.out⟩
         case measure => simp [intOf]; omega
       ·have HJ : Hid (j = N) := Lib.hid (show j = N by omega)
        go_wp2
        go_roundw
        case rel => exact ⟨n + 1, by omega, by go_num, HBL.out, HZD.out, HND.out, by rw [← HYES.out]; have h := HOD.out; rw [HJ.out] at h; exact h⟩
        case measure => simp [intOf]; omega
   ·have HNE : Hid (n = t.edges.length) := Lib.hid (by rw [← HEE.out]; omega)
    have HRW : Hid (rowT N (wkTo t y l n) = rowT N (tgtK 2 t y l)) := rowT_congr fun i _ => by rw [HNE.out]; exact wkTo_all HTF.out i
    go_wp2
    go_ret
    exact ⟨G, rfl, HBW.out, by rw [← HRW.out, ← HBE.out]; exact HOC.out⟩

end Go.Proofs.YtbjbjbnbapeajaaGreatDoor

namespace Go.Proofs.YtbjbjbnbapeajaaGreatDoor
open Go Go.RowKit

set_option maxRecDepth 100000 in
set_option maxHeartbeats 1000000 in
theorem l11Out_any (p lo : Nat) (t : Lts) (s : Int) (w : World) (hsmall : t.edges.length ≤ 1073741824) (hp : LtsPtr lo w p t) : Calls Tryz.prog 98 #[.pointer (some ⟨p, 0, none⟩), .int .i64 s] w (MadeOut t s w) := by
 obtain ⟨lv, ev, hpl, -, -, -, q3, -, he⟩ := hp
 obtain ⟨ae, ce, rfl, hen, hec, hrow⟩ := he
 obtain ⟨i0, hi, hz0, hz1, hz2⟩ := info_parts info_edge2
 have HQ3 := Lib.hid q3
 go_enter Tryz.func98, Tryz.ntmps98
 go_wp2
 clear q3
 go_loopw [5, 6] (fun v i wr => ∃ k : Nat, k ≤ t.edges.length ∧ i = .int .i64 k ∧ Below w.heap.size w wr ∧ wr.ownsRow w.heap.size 73 3 v ((t.edges.take k).filter fun e => e.src == s).length (((t.edges.take k).filter fun e => e.src == s).flatMap encE)) (fun _ i _ => t.edges.length - (intOf i).toNat)
 case atStart => exact ⟨0, Nat.zero_le _, rfl, (Below.refl _ _).alloc (Nat.le_refl _) _, World.ownsRow_lit (size := 3) w #[] 0 (Nat.le_refl _) (by simp [maxLen]) rfl⟩
 case round =>
  obtain ⟨k, hk, rfl, hbl, ho⟩ := hrel
  have HBL := Lib.hid hbl
  have HO := Lib.hid ho
  have hsz := hbl.size
  have q3 := keeps hbl hpl HQ3.out
  have hfl : ((t.edges.take k).filter fun e => e.src == s).length ≤ k := Nat.le_trans (List.length_filter_le _ _) (List.length_take_le _ _)
  clear hbl ho
  by_cases hlt : k < t.edges.length
  ·obtain ⟨be, oe, rfl, -, hbe, e1, e2, e3⟩ := (hrow.below HBL.out).edge hlt
   clear hrow
   cases g : (t.edges[k].src == s)
   ·have HL : Hid ((t.edges.take (k + 1)).filter (fun e => e.src == s) = (t.edges.take k).filter fun e => e.src == s) := by
     unfold Hid
     rw [List.take_succ_eq_append_getElem hlt, List.filter_append]
     simp [g]
    go_wp2
    go_roundw
    case rel => exact ⟨k + 1, by omega, by go_num, HBL.out, by rw [HL.out]; exact HO.out⟩
    case measure => simp [intOf]; omega
   ·have HL : Hid ((t.edges.take (k + 1)).filter (fun e => e.src == s) = ((t.edges.take k).filter fun e => e.src == s) ++ [t.edges[k]]) := by
     unfold Hid
     rw [List.take_succ_eq_append_getElem hlt, List.filter_append]
     simp [g]
    generalize hfs : (t.edges.take k).filter (fun e => e.src == s) = fs at *
    have HFS := Lib.hid hfs
    clear hfs
    go_wp2_with (at_builtin; refine wpList_append_own _ rfl _ _ 27 rfl w.heap.size 73 i0 (.agg #[.int .i64 0, .int .i64 0, .int .i64 0]) 3 24 Tryz.underlying27 hi hz0 hz1 hz2 rfl (by decide) _ _ _ rfl (HO.out.alloc _) ⟨wr.heap.size, 0, none⟩ 1 1 (encE t.edges[k]) rfl rfl ?c1 ?c2 ?c3 ?c4 ?c5 ?_)
    case c1 => exact three_new _ _ _
    case c2 => intro u hu; simp [encE] at hu; rcases hu with rfl | rfl | rfl <;> rfl
    case c3 => simp [maxLen]; omega
    case c4 => omega
    case c5 => simp; omega
    intro v' w1 ho1 hg1 _
    have HO2 : Hid (w1.ownsRow w.heap.size 73 3 v' (fs ++ [t.edges[k]]).length ((fs ++ [t.edges[k]]).flatMap encE)) := by
     unfold Hid
     rw [List.length_append, List.flatMap_append, List.flatMap_singleton]
     exact ho1
    have HB2 : Hid (Below w.heap.size w w1) := (HBL.out.alloc hsz _).grown hg1 (by simp; omega) (fun b e => (HO.out.lt b e).1)
    clear ho1 hg1
    go_wp2
    go_roundw
    case rel => exact ⟨k + 1, by omega, by go_num, HB2.out, by rw [HL.out]; exact HO2.out⟩
    case measure => simp [intOf]; omega
  ·clear hrow
   go_wp2
   go_ret
   obtain rfl : k = t.edges.length := by omega
   exact ⟨_, rfl, HBL.out, by unfold outOf; have := HO.out; rw [List.take_length] at this; exact this⟩

end Go.Proofs.YtbjbjbnbapeajaaGreatDoor

namespace Go.Proofs.YtbjbjbnbapeajaaGreatDoor
open Go Go.RowKit

/-- The rows lie in blocks of another type than t. -/
theorem own_type_ne {w : World} {base e size n : Nat} {v : Value} {xs : List Value} (h : w.ownsRow base e size v n xs) {b : Nat} {cs : Array Value} {t : TypeId} {f : Nat × Nat} (hb : w.heap[b]? = some (.cells cs t f)) (he : e ≠ t) : v.ownBlock = none ∨ v.ownBlock ≠ some b := by
 rcases h.2 with ⟨rfl, -⟩ | ⟨g, c, u, rfl, -, hg, -⟩
 ·exact .inl rfl
 ·refine .inr fun e1 => ?_
  simp only [Value.ownBlock, Option.some.injEq] at e1
  subst e1
  rw [hb] at hg
  simp only [Option.some.injEq, Obj.cells.injEq] at hg
  exact he hg.2.1.symm
end Go.Proofs.YtbjbjbnbapeajaaGreatDoor

namespace Go.Proofs.YtbjbjbnbapeajaaGreatDoor
open Go Go.RowKit

def OwnVss (eo ei lo : Nat) (w : World) (v : Value) (vs : List Value) (xss : List (List Value)) : Prop :=
 vs.length = xss.length ∧ w.ownsRow lo eo 1 v vs.length vs ∧ ∀ (i : Nat) (h : i < vs.length) (h' : i < xss.length), w.ownsRow lo ei 1 vs[i] xss[i].length xss[i]
theorem OwnVss.nothing (eo ei lo : Nat) (w : World) : OwnVss eo ei lo w (.slice none 0 0) [] [] := ⟨rfl, World.ownsRow_nil _ _ _ _, fun _ h _ => absurd h (Nat.not_lt_zero _)⟩
theorem OwnVss.below {eo ei lo : Nat} {w w' : World} {v : Value} {vs : List Value} {xss : List (List Value)} (h : OwnVss eo ei lo w v vs xss) (hb : Below w.heap.size w w') : OwnVss eo ei lo w' v vs xss :=
 ⟨h.1, owns_below h.2.1 hb, fun i hi hi' => owns_below (h.2.2 i hi hi') hb⟩
theorem OwnVss.lower {eo ei lo lo' : Nat} {w : World} {v : Value} {vs : List Value} {xss : List (List Value)} (h : OwnVss eo ei lo w v vs xss) (hl : lo' ≤ lo) : OwnVss eo ei lo' w v vs xss :=
 ⟨h.1, own_lower h.2.1 hl, fun i hi hi' => own_lower (h.2.2 i hi hi') hl⟩
theorem OwnVss.kept {eo ei lo : Nat} {w w' : World} {v : Value} {vs : List Value} {xss : List (List Value)} {row : Option Nat} (h : OwnVss eo ei lo w v vs xss) (hg : w.grownBy w' row) (h0 : v.ownBlock = none ∨ v.ownBlock ≠ row)
  (h1 : ∀ j (hj : j < vs.length), vs[j].ownBlock = none ∨ vs[j].ownBlock ≠ row) : OwnVss eo ei lo w' v vs xss :=
 ⟨h.1, h.2.1.kept hg h0, fun i hi hi' => (h.2.2 i hi hi').kept hg (h1 i hi)⟩
theorem OwnVss.push {eo ei lo B2 : Nat} {w w' : World} {v v' rv : Value} {vs : List Value} {xss : List (List Value)} {xs : List Value} (he : eo ≠ ei) (h : OwnVss eo ei lo w v vs xss) (hr : w.ownsRow B2 ei 1 rv xs.length xs) (hlo : lo ≤ B2) (hg : w.grownBy w' v.ownBlock)
  (hv : w'.ownsRow lo eo 1 v' (vs.length + 1) (vs ++ [rv])) : OwnVss eo ei lo w' v' (vs ++ [rv]) (xss ++ [xs]) := by
 obtain ⟨h1, h2, h3⟩ := h
 refine ⟨by simp [h1], by simpa using hv, fun i hi hi' => ?_⟩
 by_cases hlt : i < vs.length
 ·rw [List.getElem_append_left hlt]
  simp only [List.getElem_append_left (show i < xss.length by omega)]
  exact (h3 i hlt (by omega)).kept hg (own_types (h3 i hlt (by omega)) h2 (fun e => he e.symm))
 ·have e : i = vs.length := by simp at hi; omega
  subst e
  simp only [List.getElem_concat_length]
  have : (xss ++ [xs])[vs.length] = xs := by simp [h1]
  rw [this]
  exact (own_lower hr hlo).kept hg (own_types hr h2 (fun e => he e.symm))
theorem OwnVss.set1 {eo ei lo : Nat} {w : World} {v : Value} {vs : List Value} {xss : List (List Value)} (h : OwnVss eo ei lo w v vs xss) {b : Nat} {cs : List Value} {t : TypeId} (hb : Blk w b cs t) (he : eo ≠ t) (hi : ei ≠ t) (i : Nat) (u : Value) : OwnVss eo ei lo (w.setCell ⟨b, i, none⟩ u) v vs xss :=
 h.kept (grown_setCell w ⟨b, i, none⟩ u) (own_type_ne h.2.1 hb he) (fun j hj => own_type_ne (h.2.2 j hj (by rw [← h.1]; exact hj)) hb hi)
/-- A row of a table and a cell of the row. -/
theorem OwnVss.cellAt {eo ei lo : Nat} {w : World} {v : Value} {vs : List Value} {xss : List (List Value)} (h : OwnVss eo ei lo w v vs xss) {i j : Nat} (hi : i < xss.length) (hj : j < xss[i].length) :
  ∃ b c b2 c2, v = .slice (some ⟨b, 0, none⟩) vs.length c ∧ b < w.heap.size ∧ w.cell? ⟨b, i, none⟩ = some (.slice (some ⟨b2, 0, none⟩) xss[i].length c2) ∧ b2 < w.heap.size ∧ w.cell? ⟨b2, j, none⟩ = some xss[i][j] := by
 have hi' : i < vs.length := by rw [h.1]; exact hi
 have h2 := h.2.1
 have h3 := h.2.2 i hi' hi
 rcases h2.2 with ⟨hh, h0⟩ | ⟨b, c, u, hh, -⟩
 ·omega
 rcases h3.2 with ⟨hh3, h0⟩ | ⟨b2, c2, u2, hh3, -⟩
 ·omega
 refine ⟨b, c, b2, c2, hh, (h2.lt b (by rw [hh]; rfl)).2, ?_, (h3.lt b2 (by rw [hh3]; rfl)).2, ?_⟩
 ·rw [hh] at h2
  rw [h2.cellAt i (by omega), List.getElem?_eq_getElem hi', hh3]
 ·rw [hh3] at h3
  rw [h3.cellAt j (by omega), List.getElem?_eq_getElem hj]

end Go.Proofs.YtbjbjbnbapeajaaGreatDoor
