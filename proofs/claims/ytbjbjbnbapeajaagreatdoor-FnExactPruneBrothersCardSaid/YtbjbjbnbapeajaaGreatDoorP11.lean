/-
  A list of lists of the call's own: rows of any cells of one word each.
  The reference's table of truths, and whether all edges of a pair are answered within it.
  The reference's next table of truths, and whether something has changed.
  The reference's first table of truths: all pairs (plain simulations).
  The reference's greatest simulation (plain simulations, a system and itself).
-/
import Derived.Test.YtbjbjbnbapeajaaGreatDoorP1
import Derived.Test.YtbjbjbnbapeajaaGreatDoorP7
import Derived.Test.YtbjbjbnbapeajaaGreatDoorP10
import Derived.Test.YtbjbjbnbapeajaaGreatDoorP6
import Derived.Maps.AppendAt
import Derived.Handy
import Derived.Deep.AppendLies
import Derived.Test.YtbjbjbnbapeajaaGreatDoorP5
import Derived.Sort.LoopGhostIn
namespace Go.Proofs.YtbjbjbnbapeajaaGreatDoor
open Go Go.RowKit

def OwnVss (eo ei lo : Nat) (w : World) (v : Value) (vs : List Value) (xss : List (List Value)) : Prop :=
 vs.length = xss.length ∧ w.ownsRow lo eo 1 v vs.length vs ∧ ∀ (i : Nat) (h : i < vs.length) (h' : i < xss.length), w.ownsRow lo ei 1 vs[i] xss[i].length xss[i]
theorem OwnVss.nothing (eo ei lo : Nat) (w : World) : OwnVss eo ei lo w (.slice none 0 0) [] [] := ⟨rfl, World.ownsRow_nil _ _ _ _, fun _ h _ => absurd h (Nat.not_lt_zero _)⟩
theorem OwnVss.below {eo ei lo : Nat} {w w' : World} {v : Value} {vs : List Value} {xss : List (List Value)} (h : OwnVss eo ei lo w v vs xss) (hb : Below w.heap.size w w') : OwnVss eo ei lo w' v vs xss :=
 ⟨h.1, owns_below h.2.1 hb, fun i hi hi' => owns_below (h.2.2 i hi hi') hb⟩
theorem OwnVss.lower {eo ei lo lo' : Nat} {w : World} {v : Value} {vs : List Value} {xss : List (List Value)} (h : OwnVss eo ei lo w v vs xss) (hl : lo' ≤ lo) : OwnVss eo ei lo' w v vs xss :=
 ⟨h.1, own_lower h.2.1 hl, fun i hi hi' => own_lower (h.2.2 i hi hi') hl⟩
theorem OwnVss.kept {eo ei lo : Nat} {w w' : World} {v : Value} {vs : List Value} {xss : List (List Value)} {row : Option Nat} (h : OwnVss eo ei lo w v vs xss) (hg : w.grownBy w' row) (h0 : v.ownBlock = none ∨ v.ownBlock ≠ row)
  (h1 : ∀ j (hj : j < vs.length), vs[j].ownBlock = none ∨ vs[j].ownBlock ≠ row) : OwnVss eo ei lo w' v vs xss :=
 ⟨h.1, h.2.1.kept hg h0, fun i hi hi' => (h.2.2 i hi hi').kept hg (h1 i hi)⟩
theorem OwnVss.push {eo ei lo B2 : Nat} {w w' : World} {v v' rv : Value} {vs : List Value} {xss : List (List Value)} {xs : List Value} (he : eo ≠ ei) (h : OwnVss eo ei lo w v vs xss) (hr : w.ownsRow B2 ei 1 rv xs.length xs) (hlo : lo ≤ B2) (hg : w.grownBy w' v.ownBlock)
  (hv : w'.ownsRow lo eo 1 v' (vs.length + 1) (vs ++ [rv])) : OwnVss eo ei lo w' v' (vs ++ [rv]) (xss ++ [xs]) := by
 obtain ⟨h1, h2, h3⟩ := h
 refine ⟨by simp [h1], by simpa using hv, fun i hi hi' => ?_⟩
 by_cases hlt : i < vs.length
 ·rw [List.getElem_append_left hlt]
  simp only [List.getElem_append_left (show i < xss.length by omega)]
  exact (h3 i hlt (by omega)).kept hg (own_types (h3 i hlt (by omega)) h2 (fun e => he e.symm))
 ·have e : i = vs.length := by simp at hi; omega
  subst e
  simp only [List.getElem_concat_length]
  have : (xss ++ [xs])[vs.length] = xs := by simp [h1]
  rw [this]
  exact (own_lower hr hlo).kept hg (own_types hr h2 (fun e => he e.symm))
theorem OwnVss.set1 {eo ei lo : Nat} {w : World} {v : Value} {vs : List Value} {xss : List (List Value)} (h : OwnVss eo ei lo w v vs xss) {b : Nat} {cs : List Value} {t : TypeId} (hb : Blk w b cs t) (he : eo ≠ t) (hi : ei ≠ t) (i : Nat) (u : Value) : OwnVss eo ei lo (w.setCell ⟨b, i, none⟩ u) v vs xss :=
 h.kept (grown_setCell w ⟨b, i, none⟩ u) (own_type_ne h.2.1 hb he) (fun j hj => own_type_ne (h.2.2 j hj (by rw [← h.1]; exact hj)) hb hi)
/-- A row of a table and a cell of the row. -/
theorem OwnVss.cellAt {eo ei lo : Nat} {w : World} {v : Value} {vs : List Value} {xss : List (List Value)} (h : OwnVss eo ei lo w v vs xss) {i j : Nat} (hi : i < xss.length) (hj : j < xss[i].length) :
  ∃ b c b2 c2, v = .slice (some ⟨b, 0, none⟩) vs.length c ∧ b < w.heap.size ∧ w.cell? ⟨b, i, none⟩ = some (.slice (some ⟨b2, 0, none⟩) xss[i].length c2) ∧ b2 < w.heap.size ∧ w.cell? ⟨b2, j, none⟩ = some xss[i][j] := by
 have hi' : i < vs.length := by rw [h.1]; exact hi
 have h2 := h.2.1
 have h3 := h.2.2 i hi' hi
 rcases h2.2 with ⟨hh, h0⟩ | ⟨b, c, u, hh, -⟩
 ·omega
 rcases h3.2 with ⟨hh3, h0⟩ | ⟨b2, c2, u2, hh3, -⟩
 ·omega
 refine ⟨b, c, b2, c2, hh, (h2.lt b (by rw [hh]; rfl)).2, ?_, (h3.lt b2 (by rw [hh3]; rfl)).2, ?_⟩
 ·rw [hh] at h2
  rw [h2.cellAt i (by omega), List.getElem?_eq_getElem hi', hh3]
 ·rw [hh3] at h3
  rw [h3.cellAt j (by omega), List.getElem?_eq_getElem hj]

end Go.Proofs.YtbjbjbnbapeajaaGreatDoor

namespace Go.Proofs.YtbjbjbnbapeajaaGreatDoor
open Go Go.RowKit

/-- A table in memory: two systems (the same one), the kind, the rows. -/
structure TabAt (lo : Nat) (w : World) (tb bt S : Nat) (N : PairSet) (rv : Value) (vs : List Value) : Prop where
 blk : Blk w tb [.pointer (some ⟨bt, 0, none⟩), .pointer (some ⟨bt, 0, none⟩), .int .i64 0, rv] 60
 rows : OwnVss 57 4 lo w rv vs (tabG S S N)
theorem TabAt.below {lo : Nat} {w w' : World} {tb bt S : Nat} {N : PairSet} {rv : Value} {vs : List Value} (h : TabAt lo w tb bt S N rv vs) (hb : Below w.heap.size w w') : TabAt lo w' tb bt S N rv vs := ⟨h.blk.below hb, h.rows.below hb⟩
theorem TabAt.cell {lo : Nat} {w : World} {tb bt S : Nat} {N : PairSet} {rv : Value} {vs : List Value} (h : TabAt lo w tb bt S N rv vs) {i j : Nat} (hi : i < S) (hj : j < S) :
  ∃ b c b2 c2, rv = .slice (some ⟨b, 0, none⟩) S c ∧ b < w.heap.size ∧ w.cell? ⟨b, i, none⟩ = some (.slice (some ⟨b2, 0, none⟩) S c2) ∧ b2 < w.heap.size ∧ w.cell? ⟨b2, j, none⟩ = some (.bool (N i j)) := by
 have hi' : i < (tabG S S N).length := by rw [tabG_len]; exact hi
 have hg : (tabG S S N)[i] = rowG S N i := tabG_get hi'
 have hj' : j < (tabG S S N)[i].length := by rw [hg, rowG_len]; exact hj
 obtain ⟨b, c, b2, c2, h1, h2, h3, h4, h5⟩ := h.rows.cellAt hi' hj'
 have hl : vs.length = S := by rw [h.rows.1, tabG_len]
 simp only [hg, rowG_len] at h3
 have h6 : (tabG S S N)[i][j] = .bool (N i j) := by simp [tabG, rowG]
 rw [h6] at h5
 exact ⟨b, c, b2, c2, by rw [h1, hl], h2, h3, h4, h5⟩
def ansE (t : Lts) (N : PairSet) (y : Int) (e : Edge) : Bool := t.edges.any fun f => f.src == y && ((labAt t f).toList == (labAt t e).toList) && N e.dst f.dst
theorem ansG_out (t : Lts) (N : PairSet) (x y : Int) : ansG t t N x y = (outOf t x).all (ansE t N y) := by
 unfold ansG outOf ansE
 rw [List.all_filter]

set_option maxRecDepth 100000 in
set_option maxHeartbeats 4000000 in
theorem holds_any (tb bt lo lo2 S : Nat) (t : Lts) (N : PairSet) (rv : Value) (vs : List Value) (x y : Int) (w : World) (hv : Valid t) (hS : (S : Int) = t.states) (hp : LtsPtr lo w bt t) (hT : TabAt lo2 w tb bt S N rv vs) :
  Calls Tryz.prog 79 #[.pointer (some ⟨tb, 0, none⟩), .int .i64 x, .int .i64 y] w fun e w' => e = .returned (.bool (ansG t t N x y)) ∧ Below w.heap.size w w' := by
 have HV := Lib.hid hv
 have HP := Lib.hid hp
 have HT := Lib.hid hT
 have HSS := Lib.hid hS
 have HOU := Lib.hid (l11Out_any bt lo t x w (by have := hv.most; omega) hp)
 have t0 := hT.blk.cell 0 rfl
 have hS0 : 0 < S := by have := hv.st0; omega
 have hS40 : S ≤ 40 := by have := hv.st1; omega
 obtain ⟨rb, rc, rb2, rc2, hrv, -, -, -, -⟩ := hT.cell hS0 hS0
 subst hrv
 obtain ⟨lv, ev, hpl, -, -, q2, -, hls, -⟩ := hp
 have HQ2 := Lib.hid q2
 obtain ⟨al, cl, rfl, hln, hlc, hlrow⟩ := hls
 have HLR := Lib.hid hlrow
 obtain ⟨LN, hLN⟩ : ∃ LN, LN = t.labels.length := ⟨_, rfl⟩
 rw [← hLN] at HQ2 hln
 have HLN := Lib.hid hLN
 clear hv hT hS q2 hlrow hLN
 go_enter Tryz.func79, Tryz.ntmps79
 go_wp2_with fail
 refine Calls.mono HOU.out ?_
 rintro e w1 ⟨v, rfl, hb1, ho1⟩
 have HB1 := Lib.hid hb1
 obtain ⟨O, hO⟩ : ∃ O, O = outOf t x := ⟨_, rfl⟩
 rw [← hO] at ho1
 have HOO := Lib.hid hO
 have HO1 := Lib.hid ho1
 obtain ⟨oa, oc, rfl, -, -⟩ := owns_slice ho1
 have HP1 := Lib.hid (HP.out.below hb1)
 have HT1 := Lib.hid (HT.out.below hb1)
 have hs1 : w.heap.size ≤ w1.heap.size := hb1.size
 obtain ⟨OL, hOL⟩ : ∃ OL, OL = O.length := ⟨_, rfl⟩
 rw [← hOL] at HO1
 rw [← hOL]
 have HOL := Lib.hid hOL
 have hol : OL ≤ 1048576 := by
  have h1 : O.length ≤ t.edges.length := by rw [hO]; exact List.length_filter_le _ _
  have := HV.out.most
  omega
 have HBW := Lib.hid hb1
 clear hb1 ho1 hO hOL t0 HOU HP HT
 go_wp2
 go_loopw [8] (fun v8 wr => ∃ k : Nat, k ≤ OL ∧ v8 = .int .i64 k ∧ Below w1.heap.size w1 wr ∧ ∀ e ∈ O.take k, ansE t N y e = true) (fun v8 _ => OL - (intOf v8).toNat)
 case atStart => exact ⟨0, Nat.zero_le _, rfl, Below.refl _ _, fun e he => by simp at he⟩
 case round =>
  obtain ⟨k, hk, rfl, hbl, hall⟩ := hrel
  obtain ⟨wC, rfl⟩ : ∃ wC : World, wC = wr := ⟨_, rfl⟩
  have HBL := Lib.hid hbl
  have HALL := Lib.hid hall
  have hszC := hbl.size
  clear hbl hall
  by_cases hlt : k < OL
  ·have hkO : k < O.length := by rw [← HOL.out]; exact hlt
   have HPC := Lib.hid (HP1.out.below HBL.out)
   have HTC := Lib.hid (HT1.out.below HBL.out)
   have hoC := owns_below HO1.out HBL.out
   obtain ⟨ob, e1, hobl⟩ : ∃ ob, oa = some ⟨ob, 0, none⟩ ∧ ob < wC.heap.size := by
    rcases hoC.2 with ⟨h, h0⟩ | ⟨g, c, u, h, -⟩
    ·omega
    ·simp only [Value.slice.injEq, true_and] at h
     obtain ⟨rfl, rfl⟩ := h
     exact ⟨g, rfl, (hoC.lt g rfl).2⟩
   subst e1
   have hrow : RowK 3 encE w.heap.size wC (some ⟨ob, 0, none⟩) O := by
    obtain ⟨a, c, he, -, -, hr⟩ := SliceK.of_owns (enc := encE) encE_len HOL.out hoC
    simp only [Value.slice.injEq] at he
    rw [he.1]
    exact hr
   obtain ⟨ob', of', hq, -, -, e1, e2, e3⟩ := hrow.edge hkO
   simp only [Option.some.injEq, Addr.mk.injEq, and_true] at hq
   obtain ⟨rfl, rfl⟩ := hq
   rw [Nat.zero_add] at e1 e2 e3
   obtain ⟨q, hq⟩ : ∃ q, q = O[k] := ⟨_, rfl⟩
   rw [← hq] at e1 e2 e3
   have hqm : q ∈ t.edges := by
    have : q ∈ outOf t x := by rw [← HOO.out, hq]; exact List.getElem_mem hkO
    exact (List.mem_filter.1 this).1
   obtain ⟨qi, hqi, hqe⟩ := List.mem_iff_getElem.1 hqm
   have hok := HV.out.edge qi hqi
   rw [hqe] at hok
   obtain ⟨el, hel⟩ : ∃ el : Nat, (el : Int) = q.lab := ⟨q.lab.toNat, by have := hok.l0; omega⟩
   obtain ⟨dn, hdn⟩ : ∃ dn : Nat, (dn : Int) = q.dst := ⟨q.dst.toNat, by have := hok.d0; omega⟩
   have hdS : dn < S := by have := hok.d1; have := HSS.out; omega
   have helL : el < t.labels.length := by have := hok.l1; omega
   have helN : el < LN := by rw [HLN.out]; exact helL
   obtain ⟨bl, ol, rfl, -, hbl0, hlc1⟩ := HLR.out.one helL
   obtain ⟨l, hl⟩ : ∃ l, l = t.labels[el] := ⟨_, rfl⟩
   simp only [encS, List.getElem?_cons_zero] at hlc1
   rw [← hl] at hlc1
   have hlab : labAt t q = l := by
    unfold labAt
    rw [show q.lab.toNat = el from by omega, List.getD_eq_getElem?_getD, List.getElem?_eq_getElem helL, hl]
    rfl
   have h0C : Below w.heap.size w wC := HBW.out.trans (HBL.out.mono hs1)
   rw [← hel] at e2
   rw [← hdn] at e3
   have T0 := HTC.out.blk.cell 0 rfl
   have T1 := HTC.out.blk.cell 1 rfl
   have T2 := HTC.out.blk.cell 2 rfl
   have htl := HTC.out.blk.lt
   have Q2 := keeps h0C hpl HQ2.out
   have hplC : bt < wC.heap.size := Nat.lt_of_lt_of_le hpl h0C.size
   have LC := keeps h0C hbl0 hlc1
   have hblC : bl < wC.heap.size := Nat.lt_of_lt_of_le hbl0 h0C.size
   have l0 := later_cell htl T0
   have l1 := later_cell htl T1
   have l2 := later_cell htl T2
   have l3 := later_cell hplC Q2
   have l4 := later_cell hobl e2
   have l5 := later_cell hblC LC
   have E3 := Lib.hid e3
   have HQQ := Lib.hid hq
   have HLAB := Lib.hid hlab
   have HDN := Lib.hid hdn
   have heli : (el : Int) < (LN : Int) := by omega
   have hki : (k : Int) < (OL : Int) := by omega
   clear hrow hq hqm hqe hok hel hdn helL hl hlab T0 T1 T2 Q2 LC e1 e2 e3 hoC hlc1
   go_wp2
   refine wp_region_later_tail 23 (by kernel_rfl) (by kernel_rfl) ?_
   simp only [List.take_succ_cons, List.take_zero, List.drop_succ_cons, List.drop_zero]
   repeat (go_big_quiet_step ((fail)))
   refine wpQuiet_nil ?_
   intro _ hw9
   obtain ⟨nl, hw8⟩ := hw9
   subst hw8
   have HPN := Lib.hid (HPC.out.below nl.h)
   have HTG := Lib.hid (l17Targets_any bt lo S t y l nl.w HV.out HSS.out HPN.out)
   have HBN := Lib.hid (HBL.out.trans (nl.h.mono hszC))
   have HTN := Lib.hid (HTC.out.below nl.h)
   have E3N := Lib.hid (keeps nl.h hobl E3.out)
   have hobN : ob < nl.w.heap.size := Nat.lt_of_lt_of_le hobl nl.h.size
   have hsN : w1.heap.size ≤ nl.w.heap.size := HBN.out.size
   clear l0 l1 l2 l3 l4 l5 E3
   go_wp2_with fail
   refine Calls.mono HTG.out ?_
   rintro e w5 ⟨g, rfl, hb5, ho5⟩
   rw [show tgtL S t y l t.edges.length = (List.range S).map fun (w : Nat) => tgtG t y l w from by unfold tgtL; simp only [tgtTo_all]] at ho5
   have HB5 := Lib.hid (HBN.out.trans (hb5.mono hsN))
   have HO5 := Lib.hid ho5
   have HT5 := Lib.hid (HTN.out.below hb5)
   have E35 := Lib.hid (keeps hb5 hobN E3N.out)
   have hob5 : ob < w5.heap.size := Nat.lt_of_lt_of_le hobN hb5.size
   have hs5 : w1.heap.size ≤ w5.heap.size := HB5.out.size
   clear hb5 ho5 HTG HTN E3N
   go_wp2
   go_loopw [10, 11] (fun v10 v11 wr => ∃ m : Nat, m ≤ S ∧ v11 = .int .i64 m ∧ v10 = .bool (foundTo t y l N dn m) ∧ Below w5.heap.size w5 wr) (fun _ v11 _ => S - (intOf v11).toNat)
   case atStart => exact ⟨0, Nat.zero_le _, rfl, rfl, Below.refl _ _⟩
   case round =>
    obtain ⟨m, hm, rfl, rfl, hbl6⟩ := hrel
    obtain ⟨wF, rfl⟩ : ∃ wF : World, wF = wr := ⟨_, rfl⟩
    have HB6 := Lib.hid hbl6
    have hsF := hbl6.size
    clear hbl6
    by_cases hml : m < S
    ·have HTF := HT5.out.below HB6.out
     obtain ⟨b, c, b2, c2, hq, hb, hc1, hb2, hc2⟩ := HTF.cell hdS hml
     simp only [Value.slice.injEq, Option.some.injEq, Addr.mk.injEq, and_true, true_and] at hq
     obtain ⟨rfl, rfl⟩ := hq
     have hoF := owns_below HO5.out HB6.out
     have htc : wF.cell? ⟨g, m, none⟩ = some (.bool (tgtG t y l m)) := by
      rw [hoF.cellAt m (by omega)]
      simp [hml]
     have hgl : g < wF.heap.size := (hoF.lt g rfl).2
     have E3F := keeps HB6.out hob5 E35.out
     have hobF : ob < wF.heap.size := Nat.lt_of_lt_of_le hob5 hsF
     have l0 := later_cell HTF.blk.lt (HTF.blk.cell 3 rfl)
     have l1 := later_cell hb hc1
     have l2 := later_cell hb2 hc2
     have l3 := later_cell hgl htc
     have l4 := later_cell hobF E3F
     have HFS := Lib.hid (foundTo_succ t y l N dn m)
     obtain ⟨fb, hfb⟩ : ∃ fb, fb = foundTo t y l N dn m := ⟨_, rfl⟩
     obtain ⟨tb', htb⟩ : ∃ tb', tb' = tgtG t y l m := ⟨_, rfl⟩
     obtain ⟨nb, hnb⟩ : ∃ nb, nb = N dn m := ⟨_, rfl⟩
     rw [← hfb, ← htb, ← hnb] at HFS
     rw [← htb] at l3
     rw [← hnb] at l2
     rw [← hfb]
     have hmi : (m : Int) < (S : Int) := by omega
     have hdi : (dn : Int) < (S : Int) := by omega
     clear HTF hb hc1 hb2 hc2 hoF htc hgl E3F hobF hfb htb hnb
     cases fb
     ·cases tb'
      ·go_wp2
       refine wp_region_later (by kernel_rfl) (by kernel_rfl) ?_
       repeat (go_big_quiet_step ((fail)))
       refine wpQuiet_nil ?_
       intro _ hw9
       obtain ⟨nl, hw8⟩ := hw9
       subst hw8
       go_wp2
       go_roundw
       case rel => exact ⟨m + 1, by omega, by go_num, by rw [HFS.out]; rfl, HB6.out.trans (nl.h.mono hsF)⟩
       case measure => simp [intOf]; omega
      ·go_wp2
       refine wp_region_later (by kernel_rfl) (by kernel_rfl) ?_
       repeat (go_big_quiet_step ((fail)))
       refine wpQuiet_nil ?_
       intro _ hw9
       obtain ⟨nl, hw8⟩ := hw9
       subst hw8
       go_wp2
       go_roundw
       case rel => exact ⟨m + 1, by omega, by go_num, by rw [HFS.out]; simp, HB6.out.trans (nl.h.mono hsF)⟩
       case measure => simp [intOf]; omega
     ·go_wp2
      refine wp_region_later (by kernel_rfl) (by kernel_rfl) ?_
      repeat (go_big_quiet_step ((fail)))
      refine wpQuiet_nil ?_
      intro _ hw9
      obtain ⟨nl, hw8⟩ := hw9
      subst hw8
      go_wp2
      go_roundw
      case rel => exact ⟨m + 1, by omega, by go_num, by rw [HFS.out]; rfl, HB6.out.trans (nl.h.mono hsF)⟩
      case measure => simp [intOf]; omega
    ·have hmS : m = S := by omega
     have hfa : foundTo t y l N dn m = ansE t N y q := by
      rw [hmS, foundTo_all HV.out HSS.out]
      unfold ansE
      rw [HLAB.out, HDN.out]
     have HFA := Lib.hid hfa
     obtain ⟨fb, hfb⟩ : ∃ fb, fb = foundTo t y l N dn m := ⟨_, rfl⟩
     rw [← hfb] at HFA
     rw [← hfb]
     have HB1F := Lib.hid (HB5.out.trans (HB6.out.mono hs5))
     clear hmS hfa hfb
     cases fb
     ·have hres : ansG t t N x y = false := by
       rw [ansG_out, ← HOO.out, List.all_eq_false]
       exact ⟨q, by rw [HQQ.out]; exact List.getElem_mem hkO, by rw [← HFA.out]; decide⟩
      have HRS := Lib.hid hres
      clear hres
      go_wp2
      go_ret
      exact ⟨by rw [HRS.out]; rfl, HB1.out.trans (HB1F.out.mono hs1)⟩
     ·go_wp2
      go_roundw
      case rel =>
       refine ⟨k + 1, by omega, by go_num, HB1F.out, fun e he => ?_⟩
       rw [List.take_succ_eq_append_getElem hkO, List.mem_append, List.mem_singleton] at he
       rcases he with he | he
       ·exact HALL.out e he
       ·rw [he, ← HQQ.out]; exact HFA.out.symm
      case measure => simp [intOf]; omega
  ·have HK : Hid (k = OL) := Lib.hid (show k = OL by omega)
   have hres : ansG t t N x y = true := by
    rw [ansG_out, ← HOO.out, List.all_eq_true]
    intro e he
    have := HALL.out
    rw [HK.out, HOL.out, List.take_length] at this
    exact this e he
   have HRS := Lib.hid hres
   clear hres
   go_wp2
   go_ret
   exact ⟨by rw [HRS.out]; rfl, HB1.out.trans (HBL.out.mono hs1)⟩

end Go.Proofs.YtbjbjbnbapeajaaGreatDoor

namespace Go.Proofs.YtbjbjbnbapeajaaGreatDoor
open Go Go.RowKit

/-- Something has changed among the pairs ahead of (x, y). -/
def ChTo (t : Lts) (N : PairSet) (S x y : Nat) : Prop := ∃ (i j : Nat), ((i < x ∧ j < S) ∨ (i = x ∧ j < y)) ∧ nextG t t N i j ≠ N i j
theorem ChTo.none (t : Lts) (N : PairSet) (S : Nat) : ¬ ChTo t N S 0 0 := by rintro ⟨i, j, h, -⟩; omega
theorem ChTo.row {t : Lts} {N : PairSet} {S x : Nat} : ChTo t N S x S ↔ ChTo t N S (x + 1) 0 := by
 constructor
 ·rintro ⟨i, j, h, hn⟩; exact ⟨i, j, by omega, hn⟩
 ·rintro ⟨i, j, h, hn⟩; exact ⟨i, j, by omega, hn⟩
theorem ChTo.step {t : Lts} {N : PairSet} {S x y : Nat} : ChTo t N S x (y + 1) ↔ ChTo t N S x y ∨ nextG t t N x y ≠ N x y := by
 constructor
 ·rintro ⟨i, j, h, hn⟩
  by_cases e : i = x ∧ j = y
  ·obtain ⟨rfl, rfl⟩ := e; exact .inr hn
  ·exact .inl ⟨i, j, by omega, hn⟩
 ·rintro (⟨i, j, h, hn⟩ | h)
  ·exact ⟨i, j, by omega, hn⟩
  ·exact ⟨x, y, by omega, h⟩
theorem info_boolsG : (Tryz.prog.info? 57).map (fun i => (i.zero, i.size, i.bytes)) = some (some (.slice none 0 0), 1, 24) := by kernel_rfl
theorem Blk.keptG {w w' : World} {b : Nat} {cs : List Value} {t : TypeId} {row : Option Nat} (h : Blk w b cs t) (hg : w.grownBy w' row) (hne : some b ≠ row) : Blk w' b cs t := (hg.block b h.lt hne).trans h
theorem blk_own_neG {w : World} {b : Nat} {cs : List Value} {t : TypeId} (h : Blk w b cs t) {base e size n : Nat} {v : Value} {xs : List Value} (ho : w.ownsRow base e size v n xs) (he : e ≠ t) : some b ≠ v.ownBlock := by
 rcases own_type_ne ho (show w.heap[b]? = some (.cells cs.toArray t (0, 0)) from h) he with h | h
 ·rw [h]; simp
 ·exact fun e => h e.symm
set_option maxRecDepth 100000 in
set_option maxHeartbeats 4000000 in
theorem next_any (tb bt lo lo2 S : Nat) (t : Lts) (N : PairSet) (rv : Value) (vs : List Value) (w : World) (hv : Valid t) (hS : (S : Int) = t.states) (hp : LtsPtr lo w bt t) (hT : TabAt lo2 w tb bt S N rv vs) :
  Calls Tryz.prog 59 #[.pointer (some ⟨tb, 0, none⟩)] w fun e w' => ∃ (nb : Nat) (ch : Bool) (rv' : Value) (vs' : List Value), e = .returned (.tuple #[.pointer (some ⟨nb, 0, none⟩), .bool ch]) ∧ Below w.heap.size w w' ∧ TabAt w.heap.size w' nb bt S (nextG t t N) rv' vs' ∧ (ch = true ↔ ChTo t N S S 0) := by
 have HV := Lib.hid hv
 have HP := Lib.hid hp
 have HT := Lib.hid hT
 have HSS := Lib.hid hS
 have hS0 : 0 < S := by have := hv.st0; omega
 have hS40 : S ≤ 40 := by have := hv.st1; omega
 obtain ⟨rb, rc, rb2, rc2, hrv, -, -, -, -⟩ := hT.cell hS0 hS0
 subst hrv
 have l0 := later_cell hT.blk.lt (hT.blk.cell 0 rfl)
 have l1 := later_cell hT.blk.lt (hT.blk.cell 1 rfl)
 have l2 := later_cell hT.blk.lt (hT.blk.cell 2 rfl)
 clear hv hp hT hS
 go_enter Tryz.func59, Tryz.ntmps59
 go_wp2
 refine wp_region_later_tail 12 (by kernel_rfl) (by kernel_rfl) ?_
 simp only [List.take_succ_cons, List.take_zero, List.drop_succ_cons, List.drop_zero]
 repeat (go_big_quiet_step ((fail)))
 refine wpQuiet_nil ?_
 intro _ hw9
 obtain ⟨nl, hw8⟩ := hw9
 subst hw8
 have HP1 := Lib.hid (HP.out.below nl.h)
 have HT1 := Lib.hid (HT.out.below nl.h)
 have HBN := Lib.hid nl.h
 obtain ⟨w1, hw1⟩ : ∃ w1, w1 = nl.w := ⟨_, rfl⟩
 rw [← hw1] at HP1 HT1 HBN ⊢
 obtain ⟨W, hW⟩ : ∃ W, W = w1.alloc (.cells #[.pointer (some ⟨bt, 0, none⟩), .pointer (some ⟨bt, 0, none⟩), .int .i64 0, .slice none 0 0] 60) := ⟨_, rfl⟩
 obtain ⟨nb, hnb⟩ : ∃ nb, nb = w1.heap.size := ⟨_, rfl⟩
 have hbW : Below w1.heap.size w1 W := by rw [hW]; exact (Below.refl _ _).alloc (Nat.le_refl _) _
 have hNB : Blk W nb [.pointer (some ⟨bt, 0, none⟩), .pointer (some ⟨bt, 0, none⟩), .int .i64 0, .slice none 0 0] 60 := by rw [hW, hnb]; exact Blk.new w1 _ _
 have hsw1 : w.heap.size ≤ w1.heap.size := HBN.out.size
 have HB0 := Lib.hid (HBN.out.trans (hbW.mono hsw1))
 have HNB := Lib.hid hNB
 have HWW := Lib.hid hW
 have HNBE := Lib.hid hnb
 have hnbw : w.heap.size ≤ nb := by rw [hnb]; exact hsw1
 have htn : tb ≠ nb := by have := HT1.out.blk.lt; omega
 obtain ⟨ib, hib, hzb0, hzb1, hzb2⟩ := info_parts info_boolG
 obtain ⟨ir, hir, hzr0, hzr1, hzr2⟩ := info_parts info_boolsG
 have HTW := Lib.hid (HT1.out.below hbW)
 have HPW := Lib.hid (HP1.out.below hbW)
 clear hw1 l0 l1 l2 hbW hNB hW hnb HT1 HP1
 go_wp2
 rw [← HWW.out, ← HNBE.out]
 go_loopw [5, 6] (fun v5 v6 wr => ∃ (x : Nat) (ch : Bool) (rv' : Value) (vs' : List Value), v6 = .int .i64 x ∧ x ≤ S ∧ v5 = .bool ch ∧ (ch = true ↔ ChTo t N S x 0) ∧ Below w.heap.size w wr ∧ TabAt lo2 wr tb bt S N (.slice (some ⟨rb, 0, none⟩) S rc) vs ∧ LtsPtr lo wr bt t ∧ Blk wr nb [.pointer (some ⟨bt, 0, none⟩), .pointer (some ⟨bt, 0, none⟩), .int .i64 0, rv'] 60 ∧ OwnVss 57 4 w.heap.size wr rv' vs' (tabG x S (nextG t t N))) (fun _ v6 _ => S - (intOf v6).toNat)
 case atStart => exact ⟨0, false, .slice none 0 0, [], rfl, Nat.zero_le _, rfl, ⟨fun h => (by cases h), fun h => absurd h (ChTo.none t N S)⟩, HB0.out, HTW.out, HPW.out, HNB.out, OwnVss.nothing _ _ _ _⟩
 case round =>
  clear HB0 HTW HPW HNB
  obtain ⟨x, ch, rv', vs', rfl, hx, rfl, hch, hbl, htab, hltp, hnbk, hown⟩ := hrel
  obtain ⟨wC, rfl⟩ : ∃ wC : World, wC = wr := ⟨_, rfl⟩
  have HCH := Lib.hid hch
  have HBL := Lib.hid hbl
  have HTB := Lib.hid htab
  have HLP := Lib.hid hltp
  have HNB := Lib.hid hnbk
  have HOW := Lib.hid hown
  have hszC := hbl.size
  obtain ⟨ra, rcc, rfl, -, -⟩ := owns_slice hown.2.1
  obtain ⟨VL, hVL⟩ : ∃ VL, VL = vs'.length := ⟨_, rfl⟩
  rw [← hVL] at HNB HOW
  have HVL := Lib.hid hVL
  have hvx : VL = x := by rw [hVL, hown.1, tabG_len]
  have HVX := Lib.hid hvx
  have hVS : VL ≤ 40 := by omega
  have T3 := htab.blk.cell 3 rfl
  clear hch hbl htab hltp hnbk hown hVL hvx
  by_cases hlt : x < S
  ·-- one row
   obtain ⟨B, hB⟩ : ∃ B, B = wC.heap.size := ⟨_, rfl⟩
   have hwB : w.heap.size ≤ B := by rw [hB]; exact hszC
   have hal : Below wC.heap.size wC (wC.alloc (.cells #[] 4)) := (Below.refl _ _).alloc (Nat.le_refl _) _
   have HROW : Hid ((wC.alloc (.cells #[] 4)).ownsRow B 4 1 (.slice (some ⟨B, 0, none⟩) 0 0) 0 []) := by
    rw [hB]; exact World.ownsRow_lit (size := 1) wC #[] 0 (Nat.le_refl _) (by decide) rfl
   have HAL := Lib.hid hal
   have HBB := Lib.hid hB
   clear hB hal
   go_wp2
   rw [← HBB.out]
   go_loopw [5, 7, 8] (fun v5 v7 v8 wr => ∃ (y : Nat) (ch' : Bool), v8 = .int .i64 y ∧ y ≤ S ∧ v5 = .bool ch' ∧ (ch' = true ↔ ChTo t N S x y) ∧ Below wC.heap.size wC wr ∧ wr.ownsRow B 4 1 v7 y (rowG y (nextG t t N) x)) (fun _ _ v8 _ => S - (intOf v8).toNat)
   case atStart => exact ⟨0, ch, rfl, Nat.zero_le _, rfl, HCH.out, HAL.out, HROW.out⟩
   case round =>
    clear HAL HROW HCH
    obtain ⟨y, ch', rfl, hy, rfl, hch, hbl2, hrow⟩ := hrel
    obtain ⟨wD, rfl⟩ : ∃ wD : World, wD = wr := ⟨_, rfl⟩
    have HCH := Lib.hid hch
    have HB2 := Lib.hid hbl2
    have HRW := Lib.hid hrow
    obtain ⟨a7, c7, rfl, -, -⟩ := owns_slice hrow
    have hsD : wC.heap.size ≤ wD.heap.size := hbl2.size
    have htab := HTB.out.below hbl2
    have hltp := HLP.out.below hbl2
    by_cases hyl : y < S
    ·obtain ⟨b, c, b2, c2, hq, hb, hc1, hb2, hc2⟩ := htab.cell hlt hyl
     simp only [Value.slice.injEq, Option.some.injEq, Addr.mk.injEq, and_true, true_and] at hq
     obtain ⟨rfl, rfl⟩ := hq
     have T3 := htab.blk.cell 3 rfl
     have htl := htab.blk.lt
     have HHO := Lib.hid (holds_any tb bt lo lo2 S t N (.slice (some ⟨rb, 0, none⟩) S rc) vs x y wD HV.out HSS.out hltp htab)
     have HRS := Lib.hid (rowG_succ y (nextG t t N) x)
     have HST := Lib.hid (ChTo.step (t := t) (N := N) (S := S) (x := x) (y := y))
     obtain ⟨nv, hnv⟩ : ∃ nv, nv = N x y := ⟨_, rfl⟩
     obtain ⟨an, han⟩ : ∃ an, an = ansG t t N x y := ⟨_, rfl⟩
     have hnx : nextG t t N x y = (nv && an) := by unfold nextG; rw [hnv, han]
     rw [hnx] at HRS HST
     rw [← hnv] at hc2 HST
     rw [← han] at HHO
     have hxi : (x : Int) < (S : Int) := by omega
     have hyi : (y : Int) < (S : Int) := by omega
     clear hch hbl2 hrow htab hltp hnv han hnx
     cases nv
     ·cases ch'
      ·skip
       have HRO : Hid (wD.ownsRow B 4 1 (.slice a7 y c7) y (rowG y (nextG t t N) x)) := HRW.out
       have hsW : wC.heap.size ≤ wD.heap.size := HB2.out.size
       have hBW : B ≤ wD.heap.size := by rw [HBB.out]; exact hsW
       go_wp2_with (at_builtin; refine wpList_append_own_at _ rfl _ _ 57 rfl B 4 ib (.bool false) 1 1 Tryz.underlying57 hib hzb0 hzb1 hzb2 rfl (by decide) _ _ _ rfl (HRO.out.alloc _) ⟨wD.heap.size, 0, none⟩ 1 1 [.bool false] rfl rfl ?c1_1 ?c2_1 ?c3_1 ?c4_1 ?c5_1 ?_)
       try (case c1_1 => exact (cell_one_new _ _ _))
       case c2_1 => first | rfl | (intro u hu; simp at hu; subst hu; rfl)
       case c3_1 => first | omega | (simp [maxLen]; omega)
       case c4_1 => first | omega | (simp; omega)
       case c5_1 => first | omega | (simp; omega)
       intro v8 w8 ho8 hg8 hz1 hz2
       clear hz1 hz2
       have hal8 : Below wD.heap.size wD (wD.alloc (.cells #[.bool false] 4)) := (Below.refl _ _).alloc (Nat.le_refl _) _
       have HB8 : Hid (Below wC.heap.size wC w8) := (HB2.out.trans (hal8.mono hsW)).grown hg8 (by simp; omega) (fun b e => by rw [← HBB.out]; exact (HRO.out.lt b e).1)
       have HO8 : Hid (w8.ownsRow B 4 1 v8 (y + 1) (rowG (y + 1) (nextG t t N) x)) := by
        unfold Hid
        rw [HRS.out]
        simpa using ho8
       obtain ⟨a8, c8, rfl, -, -⟩ := owns_slice HO8.out
       clear ho8 hg8 hal8 HRO
       go_wp2
       go_roundw
       case rel => exact ⟨y + 1, false, by go_num, by omega, rfl, by rw [HST.out, ← HCH.out]; simp, HB8.out, HO8.out⟩
       case measure => simp [intOf]; omega
      ·skip
       have HRO : Hid (wD.ownsRow B 4 1 (.slice a7 y c7) y (rowG y (nextG t t N) x)) := HRW.out
       have hsW : wC.heap.size ≤ wD.heap.size := HB2.out.size
       have hBW : B ≤ wD.heap.size := by rw [HBB.out]; exact hsW
       go_wp2_with (at_builtin; refine wpList_append_own_at _ rfl _ _ 57 rfl B 4 ib (.bool false) 1 1 Tryz.underlying57 hib hzb0 hzb1 hzb2 rfl (by decide) _ _ _ rfl (HRO.out.alloc _) ⟨wD.heap.size, 0, none⟩ 1 1 [.bool false] rfl rfl ?c1_2 ?c2_2 ?c3_2 ?c4_2 ?c5_2 ?_)
       try (case c1_2 => exact (cell_one_new _ _ _))
       case c2_2 => first | rfl | (intro u hu; simp at hu; subst hu; rfl)
       case c3_2 => first | omega | (simp [maxLen]; omega)
       case c4_2 => first | omega | (simp; omega)
       case c5_2 => first | omega | (simp; omega)
       intro v8 w8 ho8 hg8 hz1 hz2
       clear hz1 hz2
       have hal8 : Below wD.heap.size wD (wD.alloc (.cells #[.bool false] 4)) := (Below.refl _ _).alloc (Nat.le_refl _) _
       have HB8 : Hid (Below wC.heap.size wC w8) := (HB2.out.trans (hal8.mono hsW)).grown hg8 (by simp; omega) (fun b e => by rw [← HBB.out]; exact (HRO.out.lt b e).1)
       have HO8 : Hid (w8.ownsRow B 4 1 v8 (y + 1) (rowG (y + 1) (nextG t t N) x)) := by
        unfold Hid
        rw [HRS.out]
        simpa using ho8
       obtain ⟨a8, c8, rfl, -, -⟩ := owns_slice HO8.out
       clear ho8 hg8 hal8 HRO
       go_wp2
       go_roundw
       case rel => exact ⟨y + 1, true, by go_num, by omega, rfl, by rw [HST.out, ← HCH.out]; simp, HB8.out, HO8.out⟩
       case measure => simp [intOf]; omega
     ·go_wp2_with fail
      refine Calls.mono HHO.out ?_
      rintro e w5 ⟨rfl, hb5⟩
      have HB5 := Lib.hid hb5
      have HB25 := Lib.hid (HB2.out.trans (hb5.mono hsD))
      have T3' := keeps hb5 htl T3
      have hc1' := keeps hb5 hb hc1
      have hc2' := keeps hb5 hb2 hc2
      clear hb5 T3 hc1 hc2 HHO
      cases an
      ·cases ch'
       ·skip
        have HRO : Hid (w5.ownsRow B 4 1 (.slice a7 y c7) y (rowG y (nextG t t N) x)) := owns_below HRW.out HB5.out
        have hsW : wC.heap.size ≤ w5.heap.size := HB25.out.size
        have hBW : B ≤ w5.heap.size := by rw [HBB.out]; exact hsW
        go_wp2_with (at_builtin; refine wpList_append_own_at _ rfl _ _ 57 rfl B 4 ib (.bool false) 1 1 Tryz.underlying57 hib hzb0 hzb1 hzb2 rfl (by decide) _ _ _ rfl (HRO.out.alloc _) ⟨w5.heap.size, 0, none⟩ 1 1 [.bool false] rfl rfl ?c1_3 ?c2_3 ?c3_3 ?c4_3 ?c5_3 ?_)
        try (case c1_3 => exact (cell_one_new _ _ _))
        case c2_3 => first | rfl | (intro u hu; simp at hu; subst hu; rfl)
        case c3_3 => first | omega | (simp [maxLen]; omega)
        case c4_3 => first | omega | (simp; omega)
        case c5_3 => first | omega | (simp; omega)
        intro v8 w8 ho8 hg8 hz1 hz2
        clear hz1 hz2
        have hal8 : Below w5.heap.size w5 (w5.alloc (.cells #[.bool false] 4)) := (Below.refl _ _).alloc (Nat.le_refl _) _
        have HB8 : Hid (Below wC.heap.size wC w8) := (HB25.out.trans (hal8.mono hsW)).grown hg8 (by simp; omega) (fun b e => by rw [← HBB.out]; exact (HRO.out.lt b e).1)
        have HO8 : Hid (w8.ownsRow B 4 1 v8 (y + 1) (rowG (y + 1) (nextG t t N) x)) := by
         unfold Hid
         rw [HRS.out]
         simpa using ho8
        obtain ⟨a8, c8, rfl, -, -⟩ := owns_slice HO8.out
        clear ho8 hg8 hal8 HRO
        go_wp2
        go_roundw
        case rel => exact ⟨y + 1, true, by go_num, by omega, rfl, by rw [HST.out, ← HCH.out]; simp, HB8.out, HO8.out⟩
        case measure => simp [intOf]; omega
       ·skip
        have HRO : Hid (w5.ownsRow B 4 1 (.slice a7 y c7) y (rowG y (nextG t t N) x)) := owns_below HRW.out HB5.out
        have hsW : wC.heap.size ≤ w5.heap.size := HB25.out.size
        have hBW : B ≤ w5.heap.size := by rw [HBB.out]; exact hsW
        go_wp2_with (at_builtin; refine wpList_append_own_at _ rfl _ _ 57 rfl B 4 ib (.bool false) 1 1 Tryz.underlying57 hib hzb0 hzb1 hzb2 rfl (by decide) _ _ _ rfl (HRO.out.alloc _) ⟨w5.heap.size, 0, none⟩ 1 1 [.bool false] rfl rfl ?c1_4 ?c2_4 ?c3_4 ?c4_4 ?c5_4 ?_)
        try (case c1_4 => exact (cell_one_new _ _ _))
        case c2_4 => first | rfl | (intro u hu; simp at hu; subst hu; rfl)
        case c3_4 => first | omega | (simp [maxLen]; omega)
        case c4_4 => first | omega | (simp; omega)
        case c5_4 => first | omega | (simp; omega)
        intro v8 w8 ho8 hg8 hz1 hz2
        clear hz1 hz2
        have hal8 : Below w5.heap.size w5 (w5.alloc (.cells #[.bool false] 4)) := (Below.refl _ _).alloc (Nat.le_refl _) _
        have HB8 : Hid (Below wC.heap.size wC w8) := (HB25.out.trans (hal8.mono hsW)).grown hg8 (by simp; omega) (fun b e => by rw [← HBB.out]; exact (HRO.out.lt b e).1)
        have HO8 : Hid (w8.ownsRow B 4 1 v8 (y + 1) (rowG (y + 1) (nextG t t N) x)) := by
         unfold Hid
         rw [HRS.out]
         simpa using ho8
        obtain ⟨a8, c8, rfl, -, -⟩ := owns_slice HO8.out
        clear ho8 hg8 hal8 HRO
        go_wp2
        go_roundw
        case rel => exact ⟨y + 1, true, by go_num, by omega, rfl, by rw [HST.out, ← HCH.out]; simp, HB8.out, HO8.out⟩
        case measure => simp [intOf]; omega
      ·cases ch'
       ·skip
        have HRO : Hid (w5.ownsRow B 4 1 (.slice a7 y c7) y (rowG y (nextG t t N) x)) := owns_below HRW.out HB5.out
        have hsW : wC.heap.size ≤ w5.heap.size := HB25.out.size
        have hBW : B ≤ w5.heap.size := by rw [HBB.out]; exact hsW
        go_wp2_with (at_builtin; refine wpList_append_own_at _ rfl _ _ 57 rfl B 4 ib (.bool false) 1 1 Tryz.underlying57 hib hzb0 hzb1 hzb2 rfl (by decide) _ _ _ rfl (HRO.out.alloc _) ⟨w5.heap.size, 0, none⟩ 1 1 [.bool true] rfl rfl ?c1_5 ?c2_5 ?c3_5 ?c4_5 ?c5_5 ?_)
        try (case c1_5 => exact (cell_one_new _ _ _))
        case c2_5 => first | rfl | (intro u hu; simp at hu; subst hu; rfl)
        case c3_5 => first | omega | (simp [maxLen]; omega)
        case c4_5 => first | omega | (simp; omega)
        case c5_5 => first | omega | (simp; omega)
        intro v8 w8 ho8 hg8 hz1 hz2
        clear hz1 hz2
        have hal8 : Below w5.heap.size w5 (w5.alloc (.cells #[.bool true] 4)) := (Below.refl _ _).alloc (Nat.le_refl _) _
        have HB8 : Hid (Below wC.heap.size wC w8) := (HB25.out.trans (hal8.mono hsW)).grown hg8 (by simp; omega) (fun b e => by rw [← HBB.out]; exact (HRO.out.lt b e).1)
        have HO8 : Hid (w8.ownsRow B 4 1 v8 (y + 1) (rowG (y + 1) (nextG t t N) x)) := by
         unfold Hid
         rw [HRS.out]
         simpa using ho8
        obtain ⟨a8, c8, rfl, -, -⟩ := owns_slice HO8.out
        clear ho8 hg8 hal8 HRO
        go_wp2
        go_roundw
        case rel => exact ⟨y + 1, false, by go_num, by omega, rfl, by rw [HST.out, ← HCH.out]; simp, HB8.out, HO8.out⟩
        case measure => simp [intOf]; omega
       ·skip
        have HRO : Hid (w5.ownsRow B 4 1 (.slice a7 y c7) y (rowG y (nextG t t N) x)) := owns_below HRW.out HB5.out
        have hsW : wC.heap.size ≤ w5.heap.size := HB25.out.size
        have hBW : B ≤ w5.heap.size := by rw [HBB.out]; exact hsW
        go_wp2_with (at_builtin; refine wpList_append_own_at _ rfl _ _ 57 rfl B 4 ib (.bool false) 1 1 Tryz.underlying57 hib hzb0 hzb1 hzb2 rfl (by decide) _ _ _ rfl (HRO.out.alloc _) ⟨w5.heap.size, 0, none⟩ 1 1 [.bool true] rfl rfl ?c1_6 ?c2_6 ?c3_6 ?c4_6 ?c5_6 ?_)
        try (case c1_6 => exact (cell_one_new _ _ _))
        case c2_6 => first | rfl | (intro u hu; simp at hu; subst hu; rfl)
        case c3_6 => first | omega | (simp [maxLen]; omega)
        case c4_6 => first | omega | (simp; omega)
        case c5_6 => first | omega | (simp; omega)
        intro v8 w8 ho8 hg8 hz1 hz2
        clear hz1 hz2
        have hal8 : Below w5.heap.size w5 (w5.alloc (.cells #[.bool true] 4)) := (Below.refl _ _).alloc (Nat.le_refl _) _
        have HB8 : Hid (Below wC.heap.size wC w8) := (HB25.out.trans (hal8.mono hsW)).grown hg8 (by simp; omega) (fun b e => by rw [← HBB.out]; exact (HRO.out.lt b e).1)
        have HO8 : Hid (w8.ownsRow B 4 1 v8 (y + 1) (rowG (y + 1) (nextG t t N) x)) := by
         unfold Hid
         rw [HRS.out]
         simpa using ho8
        obtain ⟨a8, c8, rfl, -, -⟩ := owns_slice HO8.out
        clear ho8 hg8 hal8 HRO
        go_wp2
        go_roundw
        case rel => exact ⟨y + 1, true, by go_num, by omega, rfl, by rw [HST.out, ← HCH.out]; simp, HB8.out, HO8.out⟩
        case measure => simp [intOf]; omega
    ·have HY : Hid (y = S) := Lib.hid (show y = S by omega)
     obtain ⟨b, c, b2, c2, hq, hb, hc1, hb2, hc2⟩ := htab.cell hlt hS0
     simp only [Value.slice.injEq, Option.some.injEq, Addr.mk.injEq, and_true, true_and] at hq
     obtain ⟨rfl, rfl⟩ := hq
     have T3 := htab.blk.cell 3 rfl
     have HND := Lib.hid (HNB.out.below hbl2)
     have HOD := Lib.hid (HOW.out.below hbl2)
     have HTD := Lib.hid htab
     have HLD := Lib.hid hltp
     have HOR : Hid (wD.ownsRow w.heap.size 57 1 (.slice ra VL rcc) VL vs') := by
      have h := HOD.out.2.1
      rw [← HVL.out] at h
      exact h
     have n3 := HND.out.cell 3 rfl
     have nf := HND.out.frozen 3
     have hnl := HND.out.lt
     have hsw : w.heap.size ≤ wD.heap.size := Nat.le_trans hszC hsD
     have hnv : some nb ≠ (Value.slice ra VL rcc).ownBlock := blk_own_neG HND.out HOR.out (by decide)
     have hxi : (x : Int) < (S : Int) := by omega
     have hyn : ¬ ((y : Int) < (S : Int)) := by omega
     clear hch hbl2 hrow htab hltp hc2
     go_wp2_with (at_builtin; refine wpList_append_own_at _ rfl _ _ 58 rfl w.heap.size 57 ir (.slice none 0 0) 1 24 Tryz.underlying58 hir hzr0 hzr1 hzr2 rfl (by decide) _ _ _ rfl (HOR.out.alloc _) ⟨wD.heap.size, 0, none⟩ 1 1 [.slice a7 y c7] rfl rfl ?d1 ?d2 ?d3 ?d4 ?d5 ?_)
     try (case d1 => exact (cell_one_new _ _ _))
     case d2 => first | rfl | (intro u hu; simp at hu; subst hu; rfl)
     case d3 => first | omega | (simp [maxLen]; omega)
     case d4 => first | omega | (simp; omega)
     case d5 => first | omega | (simp; omega)
     intro v8 w8 ho8 hg8 hz1 hz2
     clear hz1 hz2
     have hal8 : Below wD.heap.size wD (wD.alloc (.cells #[.slice a7 y c7] 57)) := (Below.refl _ _).alloc (Nat.le_refl _) _
     obtain ⟨a8, c8, rfl, -, -⟩ := owns_slice ho8
     have z2 : w8.cell? ⟨nb, 3, none⟩ = some (.slice ra VL rcc) := (hg8.cell_far ⟨nb, 3, none⟩ (by simp; omega) hnv).trans (keeps hal8 hnl n3)
     have z1 : w8.frozen? ⟨nb, 3, none⟩ = false := (hg8.frozen_far ⟨nb, 3, none⟩ (by simp; omega) hnv).trans ((hal8.frozen (p := ⟨nb, 3, none⟩) hnl).trans nf)
     have HB8 : Hid (Below w.heap.size w w8) := ((HBL.out.trans (HB2.out.mono hszC)).trans (hal8.mono hsw)).grown hg8 (by simp; omega) (fun b e => (HOR.out.lt b e).1)
     have HN8 := Lib.hid (((HND.out.below hal8).keptG hg8 hnv).set 3 (.slice a8 (VL + 1) c8))
     have hr := owns_below HRW.out hal8
     have hr2 : (wD.alloc (.cells #[.slice a7 y c7] 57)).ownsRow B 4 1 (.slice a7 y c7) (rowG S (nextG t t N) x).length (rowG S (nextG t t N) x) := by
      have e1 : rowG S (nextG t t N) x = rowG y (nextG t t N) x := by rw [HY.out]
      rw [e1, rowG_len]
      exact hr
     have hpu := (HOD.out.below hal8).push (by decide) hr2 hwB hg8 (by rw [← HVL.out]; exact ho8)
     rw [← tabG_succ] at hpu
     have HPU := Lib.hid (hpu.set1 ((HND.out.below hal8).keptG hg8 hnv) (by decide) (by decide) 3 (.slice a8 (VL + 1) c8))
     have HCS : Hid (ch' = true ↔ ChTo t N S (x + 1) 0) := by
      have h := HCH.out
      rw [HY.out, ChTo.row] at h
      exact h
     clear ho8 hg8 hal8 hr hr2 hpu n3 nf
     go_wp2
     go_roundw
     case rel => exact ⟨x + 1, ch', _, _, by go_num, by omega, rfl, HCS.out, HB8.out.setCell hnbw _, HT.out.below (HB8.out.setCell hnbw _), HP.out.below (HB8.out.setCell hnbw _), HN8.out, HPU.out⟩
     case measure => simp [intOf]; omega
  ·have HX : Hid (x = S) := Lib.hid (show x = S by omega)
   go_wp2
   go_ret2
   refine ⟨nb, ch, .slice ra VL rcc, vs', rfl, HBL.out, ⟨HNB.out, ?_⟩, ?_⟩
   ·rw [← HX.out]; rw [HX.out] at HOW ⊢; exact HOW.out
   ·have := HCH.out; rw [HX.out] at this; exact this

end Go.Proofs.YtbjbjbnbapeajaaGreatDoor

namespace Go.Proofs.YtbjbjbnbapeajaaGreatDoor
open Go Go.RowKit

theorem allG_in {t : Lts} {S x y : Nat} (hS : (S : Int) = t.states) (hx : x < S) (hy : y < S) : allG t t x y = true := by
 rw [allG_iff]
 omega

set_option maxRecDepth 100000 in
set_option maxHeartbeats 4000000 in
theorem first_any (bt lo S : Nat) (t : Lts) (w : World) (hv : Valid t) (hS : (S : Int) = t.states) (hp : LtsPtr lo w bt t) :
  Calls Tryz.prog 58 #[.pointer (some ⟨bt, 0, none⟩), .pointer (some ⟨bt, 0, none⟩), .int .i64 0] w fun e w' => ∃ (nb : Nat) (rv' : Value) (vs' : List Value), e = .returned (.pointer (some ⟨nb, 0, none⟩)) ∧ Below w.heap.size w w' ∧ TabAt w.heap.size w' nb bt S (allG t t) rv' vs' := by
 have HSS := Lib.hid hS
 have hS0 : 0 < S := by have := hv.st0; omega
 have hS40 : S ≤ 40 := by have := hv.st1; omega
 obtain ⟨lv, ev, hpl, q0, -, -, -, -, -⟩ := hp
 rw [← hS] at q0
 have HQ0 := Lib.hid q0
 obtain ⟨W, hW⟩ : ∃ W, W = w.alloc (.cells #[.pointer (some ⟨bt, 0, none⟩), .pointer (some ⟨bt, 0, none⟩), .int .i64 0, .slice none 0 0] 60) := ⟨_, rfl⟩
 obtain ⟨nb, hnb⟩ : ∃ nb, nb = w.heap.size := ⟨_, rfl⟩
 have hbW : Below w.heap.size w W := by rw [hW]; exact (Below.refl _ _).alloc (Nat.le_refl _) _
 have hNB : Blk W nb [.pointer (some ⟨bt, 0, none⟩), .pointer (some ⟨bt, 0, none⟩), .int .i64 0, .slice none 0 0] 60 := by rw [hW, hnb]; exact Blk.new w _ _
 have HB0 := Lib.hid hbW
 have HNB := Lib.hid hNB
 have HWW := Lib.hid hW
 have HNBE := Lib.hid hnb
 have hnbw : w.heap.size ≤ nb := by omega
 obtain ⟨ib, hib, hzb0, hzb1, hzb2⟩ := info_parts info_boolG
 obtain ⟨ir, hir, hzr0, hzr1, hzr2⟩ := info_parts info_boolsG
 clear hv hS hbW hNB hW hnb q0
 go_enter Tryz.func58, Tryz.ntmps58
 go_wp2
 rw [← HWW.out, ← HNBE.out]
 go_loopw [8] (fun v8 wr => ∃ (x : Nat) (rv' : Value) (vs' : List Value), v8 = .int .i64 x ∧ x ≤ S ∧ Below w.heap.size w wr ∧ Blk wr nb [.pointer (some ⟨bt, 0, none⟩), .pointer (some ⟨bt, 0, none⟩), .int .i64 0, rv'] 60 ∧ OwnVss 57 4 w.heap.size wr rv' vs' (tabG x S (allG t t))) (fun v8 _ => S - (intOf v8).toNat)
 case atStart => exact ⟨0, .slice none 0 0, [], rfl, Nat.zero_le _, HB0.out, HNB.out, OwnVss.nothing _ _ _ _⟩
 case round =>
  clear HB0 HNB
  obtain ⟨x, rv', vs', rfl, hx, hbl, hnbk, hown⟩ := hrel
  obtain ⟨wC, rfl⟩ : ∃ wC : World, wC = wr := ⟨_, rfl⟩
  have HBL := Lib.hid hbl
  have HNB := Lib.hid hnbk
  have HOW := Lib.hid hown
  have hszC := hbl.size
  obtain ⟨ra, rcc, rfl, -, -⟩ := owns_slice hown.2.1
  obtain ⟨VL, hVL⟩ : ∃ VL, VL = vs'.length := ⟨_, rfl⟩
  rw [← hVL] at HNB HOW
  have HVL := Lib.hid hVL
  have hvx : VL = x := by rw [hVL, hown.1, tabG_len]
  have hVS : VL ≤ 40 := by omega
  have Q0 := keeps hbl hpl HQ0.out
  clear hbl hnbk hown hVL hvx
  by_cases hlt : x < S
  ·obtain ⟨B, hB⟩ : ∃ B, B = wC.heap.size := ⟨_, rfl⟩
   have hwB : w.heap.size ≤ B := by rw [hB]; exact hszC
   have hal : Below wC.heap.size wC (wC.alloc (.cells #[] 4)) := (Below.refl _ _).alloc (Nat.le_refl _) _
   have HROW : Hid ((wC.alloc (.cells #[] 4)).ownsRow B 4 1 (.slice (some ⟨B, 0, none⟩) 0 0) 0 []) := by
    rw [hB]; exact World.ownsRow_lit (size := 1) wC #[] 0 (Nat.le_refl _) (by decide) rfl
   have HAL := Lib.hid hal
   have HBB := Lib.hid hB
   have hxi : (x : Int) < (S : Int) := by omega
   clear hB hal
   go_wp2
   rw [← HBB.out]
   go_loopw [9, 10] (fun v9 v10 wr => ∃ (y : Nat), v10 = .int .i64 y ∧ y ≤ S ∧ Below wC.heap.size wC wr ∧ wr.ownsRow B 4 1 v9 y (rowG y (allG t t) x)) (fun _ v10 _ => S - (intOf v10).toNat)
   case atStart => exact ⟨0, rfl, Nat.zero_le _, HAL.out, HROW.out⟩
   case round =>
    clear HAL HROW Q0
    obtain ⟨y, rfl, hy, hbl2, hrow⟩ := hrel
    obtain ⟨wD, rfl⟩ : ∃ wD : World, wD = wr := ⟨_, rfl⟩
    have HB2 := Lib.hid hbl2
    have HRW := Lib.hid hrow
    obtain ⟨a7, c7, rfl, -, -⟩ := owns_slice hrow
    have hsD : wC.heap.size ≤ wD.heap.size := hbl2.size
    have Q0 := keeps (HBL.out.trans (hbl2.mono hszC)) hpl HQ0.out
    by_cases hyl : y < S
    ·have HRS : Hid (rowG (y + 1) (allG t t) x = rowG y (allG t t) x ++ [.bool true]) := by
      unfold Hid
      rw [rowG_succ, allG_in HSS.out hlt hyl]
     have hyi : (y : Int) < (S : Int) := by omega
     have hBW : B ≤ wD.heap.size := by rw [HBB.out]; exact hsD
     clear hbl2 hrow
     go_wp2_with (at_builtin; refine wpList_append_own_at _ rfl _ _ 57 rfl B 4 ib (.bool false) 1 1 Tryz.underlying57 hib hzb0 hzb1 hzb2 rfl (by decide) _ _ _ rfl (HRW.out.alloc _) ⟨wD.heap.size, 0, none⟩ 1 1 [.bool true] rfl rfl ?c1 ?c2 ?c3 ?c4 ?c5 ?_)
     try (case c1 => exact (cell_one_new _ _ _))
     case c2 => first | rfl | (intro u hu; simp at hu; subst hu; rfl)
     case c3 => first | omega | (simp [maxLen]; omega)
     case c4 => first | omega | (simp; omega)
     case c5 => first | omega | (simp; omega)
     intro v8 w8 ho8 hg8 hz1 hz2
     clear hz1 hz2
     have hal8 : Below wD.heap.size wD (wD.alloc (.cells #[.bool true] 4)) := (Below.refl _ _).alloc (Nat.le_refl _) _
     have HB8 : Hid (Below wC.heap.size wC w8) := (HB2.out.trans (hal8.mono hsD)).grown hg8 (by simp; omega) (fun b e => by rw [← HBB.out]; exact (HRW.out.lt b e).1)
     have HO8 : Hid (w8.ownsRow B 4 1 v8 (y + 1) (rowG (y + 1) (allG t t) x)) := by
      unfold Hid
      rw [HRS.out]
      simpa using ho8
     obtain ⟨a8, c8, rfl, -, -⟩ := owns_slice HO8.out
     clear ho8 hg8 hal8
     go_wp2
     go_roundw
     case rel => exact ⟨y + 1, by go_num, by omega, HB8.out, HO8.out⟩
     case measure => simp [intOf]; omega
    ·have HY : Hid (y = S) := Lib.hid (show y = S by omega)
     have HND := Lib.hid (HNB.out.below hbl2)
     have HOD := Lib.hid (HOW.out.below hbl2)
     have HOR : Hid (wD.ownsRow w.heap.size 57 1 (.slice ra VL rcc) VL vs') := by
      have h := HOD.out.2.1
      rw [← HVL.out] at h
      exact h
     have n3 := HND.out.cell 3 rfl
     have nf := HND.out.frozen 3
     have hnl := HND.out.lt
     have hsw : w.heap.size ≤ wD.heap.size := Nat.le_trans hszC hsD
     have hnv : some nb ≠ (Value.slice ra VL rcc).ownBlock := blk_own_neG HND.out HOR.out (by decide)
     have hyn : ¬ ((y : Int) < (S : Int)) := by omega
     clear hbl2 hrow
     go_wp2_with (at_builtin; refine wpList_append_own_at _ rfl _ _ 58 rfl w.heap.size 57 ir (.slice none 0 0) 1 24 Tryz.underlying58 hir hzr0 hzr1 hzr2 rfl (by decide) _ _ _ rfl (HOR.out.alloc _) ⟨wD.heap.size, 0, none⟩ 1 1 [.slice a7 y c7] rfl rfl ?d1 ?d2 ?d3 ?d4 ?d5 ?_)
     try (case d1 => exact (cell_one_new _ _ _))
     case d2 => first | rfl | (intro u hu; simp at hu; subst hu; rfl)
     case d3 => first | omega | (simp [maxLen]; omega)
     case d4 => first | omega | (simp; omega)
     case d5 => first | omega | (simp; omega)
     intro v8 w8 ho8 hg8 hz1 hz2
     clear hz1 hz2
     have hal8 : Below wD.heap.size wD (wD.alloc (.cells #[.slice a7 y c7] 57)) := (Below.refl _ _).alloc (Nat.le_refl _) _
     obtain ⟨a8, c8, rfl, -, -⟩ := owns_slice ho8
     have z2 : w8.cell? ⟨nb, 3, none⟩ = some (.slice ra VL rcc) := (hg8.cell_far ⟨nb, 3, none⟩ (by simp; omega) hnv).trans (keeps hal8 hnl n3)
     have z1 : w8.frozen? ⟨nb, 3, none⟩ = false := (hg8.frozen_far ⟨nb, 3, none⟩ (by simp; omega) hnv).trans ((hal8.frozen (p := ⟨nb, 3, none⟩) hnl).trans nf)
     have HB8 : Hid (Below w.heap.size w w8) := ((HBL.out.trans (HB2.out.mono hszC)).trans (hal8.mono hsw)).grown hg8 (by simp; omega) (fun b e => (HOR.out.lt b e).1)
     have HN8 := Lib.hid (((HND.out.below hal8).keptG hg8 hnv).set 3 (.slice a8 (VL + 1) c8))
     have hr := owns_below HRW.out hal8
     have hr2 : (wD.alloc (.cells #[.slice a7 y c7] 57)).ownsRow B 4 1 (.slice a7 y c7) (rowG S (allG t t) x).length (rowG S (allG t t) x) := by
      have e1 : rowG S (allG t t) x = rowG y (allG t t) x := by rw [HY.out]
      rw [e1, rowG_len]
      exact hr
     have hpu := (HOD.out.below hal8).push (by decide) hr2 hwB hg8 (by rw [← HVL.out]; exact ho8)
     rw [← tabG_succ] at hpu
     have HPU := Lib.hid (hpu.set1 ((HND.out.below hal8).keptG hg8 hnv) (by decide) (by decide) 3 (.slice a8 (VL + 1) c8))
     clear ho8 hg8 hal8 hr hr2 hpu n3 nf
     go_wp2
     go_roundw
     case rel => exact ⟨x + 1, _, _, by go_num, by omega, HB8.out.setCell hnbw _, HN8.out, HPU.out⟩
     case measure => simp [intOf]; omega
  ·have HX : Hid (x = S) := Lib.hid (show x = S by omega)
   go_wp2
   go_ret
   refine ⟨nb, _, vs', rfl, HBL.out, HNB.out, ?_⟩
   have := HOW.out; rw [HX.out] at this; exact this

end Go.Proofs.YtbjbjbnbapeajaaGreatDoor

namespace Go.Proofs.YtbjbjbnbapeajaaGreatDoor
open Go Go.RowKit

theorem countP_lt {α : Type} {p r : α → Bool} : ∀ {l : List α}, (∀ q ∈ l, p q = true → r q = true) → (∃ q ∈ l, r q = true ∧ p q = false) → l.countP p < l.countP r
 | [], _, h => by obtain ⟨q, hq, -⟩ := h; cases hq
 | a :: l, h, he => by
  have hm : l.countP p ≤ l.countP r := List.countP_mono_left (fun x hx hp => h x (List.mem_cons_of_mem _ hx) hp)
  rw [List.countP_cons, List.countP_cons]
  obtain ⟨q, hq, h1, h2⟩ := he
  rcases List.mem_cons.1 hq with rfl | hq
  ·rw [h1, h2]
   simp
   omega
  ·have ih := countP_lt (l := l) (fun x hx hp => h x (List.mem_cons_of_mem _ hx) hp) ⟨q, hq, h1, h2⟩
   cases hp : p a with
   | false => simp; split <;> omega
   | true => rw [h a (by simp) hp]; simp; omega
def cntG (S : Nat) (N : PairSet) : Nat := (pall S S).countP fun q => N q.1 q.2
theorem cntG_le (S : Nat) (N : PairSet) (h : S ≤ 40) : cntG S N ≤ 1600 := by
 unfold cntG
 refine Nat.le_trans List.countP_le_length ?_
 rw [pall_len]
 exact Nat.mul_le_mul h h
theorem cntG_next {t : Lts} {N : PairSet} {S : Nat} (h : ChTo t N S S 0) : cntG S (nextG t t N) < cntG S N := by
 unfold cntG
 refine countP_lt (fun q _ hn => ?_) ?_
 ·unfold nextG at hn
  rw [Bool.and_eq_true] at hn
  exact hn.1
 ·obtain ⟨i, j, hij, hn⟩ := h
  refine ⟨((i : Int), (j : Int)), mem_pall.2 ⟨⟨by show (0 : Int) ≤ (i : Int); omega, by show (i : Int) < (S : Int); omega⟩, by show (0 : Int) ≤ (j : Int); omega, by show (j : Int) < (S : Int); omega⟩, ?_⟩
  show N i j = true ∧ nextG t t N i j = false
  unfold nextG at hn ⊢
  cases h1 : N i j with
  | false => rw [h1] at hn; simp at hn
  | true =>
   rw [h1] at hn
   cases h2 : ansG t t N i j with
   | false => exact ⟨rfl, rfl⟩
   | true => rw [h2] at hn; simp at hn
theorem same_done {t : Lts} {N : PairSet} {S : Nat} (hS : (S : Int) = t.states) (ha : Above t t (allG t t) N) (h : ¬ ChTo t N S S 0) : Great t t (allG t t) N := by
 refine ha.done (fun x y => ?_)
 cases hn : N x y with
 | false => unfold nextG; rw [hn]; rfl
 | true =>
  have hr := allG_iff.1 (ha.low x y hn)
  have e1 : ((x.toNat : Nat) : Int) = x := by omega
  have e2 : ((y.toNat : Nat) : Int) = y := by omega
  apply Classical.byContradiction
  intro hc
  refine h ⟨x.toNat, y.toNat, by omega, ?_⟩
  rw [e1, e2, hn]
  exact hc

set_option maxRecDepth 100000 in
set_option maxHeartbeats 4000000 in
theorem greatest_any (bt lo S : Nat) (t : Lts) (w : World) (hv : Valid t) (hS : (S : Int) = t.states) (hp : LtsPtr lo w bt t) :
  Calls Tryz.prog 32 #[.pointer (some ⟨bt, 0, none⟩), .pointer (some ⟨bt, 0, none⟩), .int .i64 0] w fun e w' => ∃ (tb : Nat) (N : PairSet) (rv : Value) (vs : List Value), e = .returned (.pointer (some ⟨tb, 0, none⟩)) ∧ Below w.heap.size w w' ∧ TabAt w.heap.size w' tb bt S N rv vs ∧ Great t t (allG t t) N := by
 have HV := Lib.hid hv
 have HP := Lib.hid hp
 have HSS := Lib.hid hS
 have hS40 : S ≤ 40 := by have := hv.st1; omega
 have HFI := Lib.hid (first_any bt lo S t w hv hS hp)
 clear hv hp hS
 go_enter Tryz.func32, Tryz.ntmps32
 go_wp2_with fail
 refine Calls.mono HFI.out ?_
 rintro e w1 ⟨nb, rv, vs, rfl, hb1, htab⟩
 have HB1 := Lib.hid hb1
 have HT1 := Lib.hid htab
 clear hb1 htab HFI
 go_wp2
 go_loopg [7] 1601 (fun gk v7 wr => ∃ (tb : Nat) (N : PairSet) (rv : Value) (vs : List Value), v7 = .pointer (some ⟨tb, 0, none⟩) ∧ Above t t (allG t t) N ∧ cntG S N ≤ gk ∧ Below w.heap.size w wr ∧ TabAt w.heap.size wr tb bt S N rv vs)
 case atStart => exact ⟨nb, allG t t, rv, vs, rfl, Above.start t t _, Nat.le_succ_of_le (cntG_le S _ hS40), HB1.out, HT1.out⟩
 case round =>
  clear HB1 HT1
  obtain ⟨tb, N, rv2, vs2, rfl, hab, hgk, hbl, htab⟩ := hrel
  obtain ⟨wC, rfl⟩ : ∃ wC : World, wC = wr := ⟨_, rfl⟩
  have HAB := Lib.hid hab
  have HGK := Lib.hid hgk
  have HBL := Lib.hid hbl
  have HTB := Lib.hid htab
  have hszC := hbl.size
  have HNX := Lib.hid (next_any tb bt lo w.heap.size S t N rv2 vs2 wC HV.out HSS.out (HP.out.below hbl) htab)
  clear hab hgk hbl htab
  go_wp2_with fail
  refine Calls.mono HNX.out ?_
  rintro e w5 ⟨nb5, ch, rv5, vs5, rfl, hb5, htab5, hch⟩
  have HB5 := Lib.hid (HBL.out.trans (hb5.mono hszC))
  have HT5 : Hid (TabAt w.heap.size w5 nb5 bt S (nextG t t N) rv5 vs5) := ⟨htab5.blk, htab5.rows.lower hszC⟩
  have HTO := Lib.hid (HTB.out.below hb5)
  have HCH := Lib.hid hch
  clear hb5 htab5 hch HNX
  cases ch
  ·have hgr : Great t t (allG t t) N := same_done HSS.out HAB.out (fun h => by have := HCH.out.2 h; cases this)
   have HGR := Lib.hid hgr
   clear hgr
   go_wp2
   go_ret
   exact ⟨tb, N, rv2, vs2, rfl, HB5.out, HTO.out, HGR.out⟩
  ·have HLT := Lib.hid (cntG_next (HCH.out.1 rfl))
   have HAN := Lib.hid HAB.out.next
   go_wp2
   go_roundg (cntG S (nextG t t N))
   case measure => have := HGK.out; have := HLT.out; omega
   case rel => exact ⟨nb5, nextG t t N, rv5, vs5, rfl, HAN.out, Nat.le_refl _, HB5.out, HT5.out⟩

end Go.Proofs.YtbjbjbnbapeajaaGreatDoor
