/-
  The reference's table of truths for two systems and any kind, and whether all edges of a pair are answered within it.
  The reference's next table of truths for two systems and any kind, and whether something has changed.
  The library's slices.Equal at texts.
  A pile of rows of the call's own, no two in one block; a slice of such rows.
  Lists of texts and lists of such lists of the call's own: how they lie in memory.
-/
import Derived.Test.YtbjbjbnbapeajaaGreatDoorQ7
import Derived.Test.YtbjbjbnbapeajaaGreatDoorQ6
import Derived.Maps.AppendAt
import Derived.Handy
import Derived.Deep.AppendLies
import Derived.Test.YtbjbjbnbapeajaaGreatDoorProg
import Derived.Test.YtbjbjbnbapeajaaGreatDoorQ1
namespace Go.Proofs.YtbjbjbnbapeajaaGreatDoor
open Go Go.RowKit

theorem l17Targets_all (bt lo N y : Nat) (κ : Int) (t : Lts) (l : ByteArray) (w : World) (hv : Valid t) (hN : (N : Int) = t.states) (hy : y < N) (hp : LtsPtr lo w bt t) :
  Calls Tryz.prog 99 #[.pointer (some ⟨bt, 0, none⟩), .int .i64 y, .string l, .int .i64 κ] w fun e w' => ∃ g, e = .returned (.slice (some ⟨g, 0, none⟩) N N) ∧ Below w.heap.size w w' ∧ w'.ownsRow w.heap.size 4 1 (.slice (some ⟨g, 0, none⟩) N N) N (rowT N (tgtK κ t y l)) := by
 by_cases h : κ = 2
 ·subst h
  exact l17Targets_weak bt lo N y t l w hv hN hy hp
 ·exact l17Targets_strong bt lo N κ t y l w (by simpa using h) hv hN hp

/-- A table in memory: two systems, the kind, the rows. -/
structure TabK (lo : Nat) (w : World) (tb ba bb : Nat) (κ : Int) (S P : Nat) (N : PairSet) (rv : Value) (vs : List Value) : Prop where
 blk : Blk w tb [.pointer (some ⟨ba, 0, none⟩), .pointer (some ⟨bb, 0, none⟩), .int .i64 κ, rv] 60
 rows : OwnVss 57 4 lo w rv vs (tabG S P N)
theorem TabK.below {lo : Nat} {w w' : World} {tb ba bb S P : Nat} {κ : Int} {N : PairSet} {rv : Value} {vs : List Value} (h : TabK lo w tb ba bb κ S P N rv vs) (hb : Below w.heap.size w w') : TabK lo w' tb ba bb κ S P N rv vs := ⟨h.blk.below hb, h.rows.below hb⟩
theorem TabK.cell {lo : Nat} {w : World} {tb ba bb S P : Nat} {κ : Int} {N : PairSet} {rv : Value} {vs : List Value} (h : TabK lo w tb ba bb κ S P N rv vs) {i j : Nat} (hi : i < S) (hj : j < P) :
  ∃ b c b2 c2, rv = .slice (some ⟨b, 0, none⟩) S c ∧ b < w.heap.size ∧ w.cell? ⟨b, i, none⟩ = some (.slice (some ⟨b2, 0, none⟩) P c2) ∧ b2 < w.heap.size ∧ w.cell? ⟨b2, j, none⟩ = some (.bool (N i j)) := by
 have hi' : i < (tabG S P N).length := by rw [tabG_len]; exact hi
 have hg : (tabG S P N)[i] = rowG P N i := tabG_get hi'
 have hj' : j < (tabG S P N)[i].length := by rw [hg, rowG_len]; exact hj
 obtain ⟨b, c, b2, c2, h1, h2, h3, h4, h5⟩ := h.rows.cellAt hi' hj'
 have hl : vs.length = S := by rw [h.rows.1, tabG_len]
 simp only [hg, rowG_len] at h3
 have h6 : (tabG S P N)[i][j] = .bool (N i j) := by simp [tabG, rowG]
 rw [h6] at h5
 exact ⟨b, c, b2, c2, by rw [h1, hl], h2, h3, h4, h5⟩
noncomputable def foundK (κ : Int) (b : Lts) (y : Int) (l : ByteArray) (N : PairSet) (v : Int) (n : Nat) : Bool := (List.range n).any fun (w : Nat) => tgtK κ b y l w && N v w
theorem foundK_succ (κ : Int) (b : Lts) (y : Int) (l : ByteArray) (N : PairSet) (v : Int) (n : Nat) : foundK κ b y l N v (n + 1) = (foundK κ b y l N v n || (tgtK κ b y l n && N v n)) := by
 unfold foundK
 rw [List.range_succ, List.any_append]
 simp

set_option maxRecDepth 100000 in
set_option maxHeartbeats 4000000 in
theorem holdsK_any (tb bt bb lo lo2 S P y : Nat) (κ : Int) (t b : Lts) (N : PairSet) (rv : Value) (vs : List Value) (x : Int) (w : World) (hv : Valid t) (hvb : Valid b) (hS : (S : Int) = t.states) (hP : (P : Int) = b.states) (hy : y < P) (hp : LtsPtr lo w bt t) (hpb : LtsPtr lo w bb b) (hT : TabK lo2 w tb bt bb κ S P N rv vs) :
  Calls Tryz.prog 79 #[.pointer (some ⟨tb, 0, none⟩), .int .i64 x, .int .i64 y] w fun e w' => e = .returned (.bool (ansK κ t b N x y)) ∧ Below w.heap.size w w' := by
 have HV := Lib.hid hv
 have HP := Lib.hid hp
 have HVB := Lib.hid hvb
 have HPB := Lib.hid hpb
 have HPS := Lib.hid hP
 have HT := Lib.hid hT
 have HSS := Lib.hid hS
 have HOU := Lib.hid (l11Out_any bt lo t x w (by have := hv.most; omega) hp)
 have t0 := hT.blk.cell 0 rfl
 have hS0 : 0 < S := by have := hv.st0; omega
 have hS40 : S ≤ 40 := by have := hv.st1; omega
 have hP40 : P ≤ 40 := by have := hvb.st1; omega
 obtain ⟨rb, rc, rb2, rc2, hrv, -, -, -, -⟩ := hT.cell hS0 (show y < P from hy)
 subst hrv
 obtain ⟨lv, ev, hpl, -, -, q2, -, hls, -⟩ := hp
 have HQ2 := Lib.hid q2
 obtain ⟨al, cl, rfl, hln, hlc, hlrow⟩ := hls
 have HLR := Lib.hid hlrow
 obtain ⟨LN, hLN⟩ : ∃ LN, LN = t.labels.length := ⟨_, rfl⟩
 rw [← hLN] at HQ2 hln
 have HLN := Lib.hid hLN
 clear hv hvb hT hS hP hpb q2 hlrow hLN
 go_enter Tryz.func79, Tryz.ntmps79
 go_wp2_with fail
 refine Calls.mono HOU.out ?_
 rintro e w1 ⟨v, rfl, hb1, ho1⟩
 have HB1 := Lib.hid hb1
 obtain ⟨O, hO⟩ : ∃ O, O = outOf t x := ⟨_, rfl⟩
 rw [← hO] at ho1
 have HOO := Lib.hid hO
 have HO1 := Lib.hid ho1
 obtain ⟨oa, oc, rfl, -, -⟩ := owns_slice ho1
 have HP1 := Lib.hid (HP.out.below hb1)
 have HPB1 := Lib.hid (HPB.out.below hb1)
 have HT1 := Lib.hid (HT.out.below hb1)
 have hs1 : w.heap.size ≤ w1.heap.size := hb1.size
 obtain ⟨OL, hOL⟩ : ∃ OL, OL = O.length := ⟨_, rfl⟩
 rw [← hOL] at HO1
 rw [← hOL]
 have HOL := Lib.hid hOL
 have hol : OL ≤ 1048576 := by
  have h1 : O.length ≤ t.edges.length := by rw [hO]; exact List.length_filter_le _ _
  have := HV.out.most
  omega
 have HBW := Lib.hid hb1
 clear hb1 ho1 hO hOL t0 HOU HP HT HPB
 go_wp2
 go_loopw [8] (fun v8 wr => ∃ k : Nat, k ≤ OL ∧ v8 = .int .i64 k ∧ Below w1.heap.size w1 wr ∧ ∀ e ∈ O.take k, ansE2 κ t b N y e = true) (fun v8 _ => OL - (intOf v8).toNat)
 case atStart => exact ⟨0, Nat.zero_le _, rfl, Below.refl _ _, fun e he => by simp at he⟩
 case round =>
  obtain ⟨k, hk, rfl, hbl, hall⟩ := hrel
  obtain ⟨wC, rfl⟩ : ∃ wC : World, wC = wr := ⟨_, rfl⟩
  have HBL := Lib.hid hbl
  have HALL := Lib.hid hall
  have hszC := hbl.size
  clear hbl hall
  by_cases hlt : k < OL
  ·have hkO : k < O.length := by rw [← HOL.out]; exact hlt
   have HPC := Lib.hid (HPB1.out.below HBL.out)
   have HTC := Lib.hid (HT1.out.below HBL.out)
   have hoC := owns_below HO1.out HBL.out
   obtain ⟨ob, e1, hobl⟩ : ∃ ob, oa = some ⟨ob, 0, none⟩ ∧ ob < wC.heap.size := by
    rcases hoC.2 with ⟨h, h0⟩ | ⟨g, c, u, h, -⟩
    ·omega
    ·simp only [Value.slice.injEq, true_and] at h
     obtain ⟨rfl, rfl⟩ := h
     exact ⟨g, rfl, (hoC.lt g rfl).2⟩
   subst e1
   have hrow : RowK 3 encE w.heap.size wC (some ⟨ob, 0, none⟩) O := by
    obtain ⟨a, c, he, -, -, hr⟩ := SliceK.of_owns (enc := encE) encE_len HOL.out hoC
    simp only [Value.slice.injEq] at he
    rw [he.1]
    exact hr
   obtain ⟨ob', of', hq, -, -, e1, e2, e3⟩ := hrow.edge hkO
   simp only [Option.some.injEq, Addr.mk.injEq, and_true] at hq
   obtain ⟨rfl, rfl⟩ := hq
   rw [Nat.zero_add] at e1 e2 e3
   obtain ⟨q, hq⟩ : ∃ q, q = O[k] := ⟨_, rfl⟩
   rw [← hq] at e1 e2 e3
   have hqm : q ∈ t.edges := by
    have : q ∈ outOf t x := by rw [← HOO.out, hq]; exact List.getElem_mem hkO
    exact (List.mem_filter.1 this).1
   obtain ⟨qi, hqi, hqe⟩ := List.mem_iff_getElem.1 hqm
   have hok := HV.out.edge qi hqi
   rw [hqe] at hok
   obtain ⟨el, hel⟩ : ∃ el : Nat, (el : Int) = q.lab := ⟨q.lab.toNat, by have := hok.l0; omega⟩
   obtain ⟨dn, hdn⟩ : ∃ dn : Nat, (dn : Int) = q.dst := ⟨q.dst.toNat, by have := hok.d0; omega⟩
   have hdS : dn < S := by have := hok.d1; have := HSS.out; omega
   have helL : el < t.labels.length := by have := hok.l1; omega
   have helN : el < LN := by rw [HLN.out]; exact helL
   obtain ⟨bl, ol, rfl, -, hbl0, hlc1⟩ := HLR.out.one helL
   obtain ⟨l, hl⟩ : ∃ l, l = t.labels[el] := ⟨_, rfl⟩
   simp only [encS, List.getElem?_cons_zero] at hlc1
   rw [← hl] at hlc1
   have hlab : labAt t q = l := by
    unfold labAt
    rw [show q.lab.toNat = el from by omega, List.getD_eq_getElem?_getD, List.getElem?_eq_getElem helL, hl]
    rfl
   have h0C : Below w.heap.size w wC := HBW.out.trans (HBL.out.mono hs1)
   rw [← hel] at e2
   rw [← hdn] at e3
   have T0 := HTC.out.blk.cell 0 rfl
   have T1 := HTC.out.blk.cell 1 rfl
   have T2 := HTC.out.blk.cell 2 rfl
   have htl := HTC.out.blk.lt
   have Q2 := keeps h0C hpl HQ2.out
   have hplC : bt < wC.heap.size := Nat.lt_of_lt_of_le hpl h0C.size
   have LC := keeps h0C hbl0 hlc1
   have hblC : bl < wC.heap.size := Nat.lt_of_lt_of_le hbl0 h0C.size
   have l0 := later_cell htl T0
   have l1 := later_cell htl T1
   have l2 := later_cell htl T2
   have l3 := later_cell hplC Q2
   have l4 := later_cell hobl e2
   have l5 := later_cell hblC LC
   have E3 := Lib.hid e3
   have HQQ := Lib.hid hq
   have HLAB := Lib.hid hlab
   have HDN := Lib.hid hdn
   have heli : (el : Int) < (LN : Int) := by omega
   have hki : (k : Int) < (OL : Int) := by omega
   clear hrow hq hqm hqe hok hel hdn helL hl hlab T0 T1 T2 Q2 LC e1 e2 e3 hoC hlc1
   go_wp2
   refine wp_region_later_tail 23 (by kernel_rfl) (by kernel_rfl) ?_
   simp only [List.take_succ_cons, List.take_zero, List.drop_succ_cons, List.drop_zero]
   repeat (go_big_quiet_step ((fail)))
   refine wpQuiet_nil ?_
   intro _ hw9
   obtain ⟨nl, hw8⟩ := hw9
   subst hw8
   have HPN := Lib.hid (HPC.out.below nl.h)
   have HTG := Lib.hid (l17Targets_all bb lo P y κ b l nl.w HVB.out HPS.out hy HPN.out)
   have HBN := Lib.hid (HBL.out.trans (nl.h.mono hszC))
   have HTN := Lib.hid (HTC.out.below nl.h)
   have E3N := Lib.hid (keeps nl.h hobl E3.out)
   have hobN : ob < nl.w.heap.size := Nat.lt_of_lt_of_le hobl nl.h.size
   have hsN : w1.heap.size ≤ nl.w.heap.size := HBN.out.size
   clear l0 l1 l2 l3 l4 l5 E3
   go_wp2_with fail
   refine Calls.mono HTG.out ?_
   rintro e w5 ⟨g, rfl, hb5, ho5⟩
   have HB5 := Lib.hid (HBN.out.trans (hb5.mono hsN))
   have HO5 := Lib.hid ho5
   have HT5 := Lib.hid (HTN.out.below hb5)
   have E35 := Lib.hid (keeps hb5 hobN E3N.out)
   have hob5 : ob < w5.heap.size := Nat.lt_of_lt_of_le hobN hb5.size
   have hs5 : w1.heap.size ≤ w5.heap.size := HB5.out.size
   clear hb5 ho5 HTG HTN E3N
   go_wp2
   go_loopw [10, 11] (fun v10 v11 wr => ∃ m : Nat, m ≤ P ∧ v11 = .int .i64 m ∧ v10 = .bool (foundK κ b y l N dn m) ∧ Below w5.heap.size w5 wr) (fun _ v11 _ => P - (intOf v11).toNat)
   case atStart => exact ⟨0, Nat.zero_le _, rfl, rfl, Below.refl _ _⟩
   case round =>
    obtain ⟨m, hm, rfl, rfl, hbl6⟩ := hrel
    obtain ⟨wF, rfl⟩ : ∃ wF : World, wF = wr := ⟨_, rfl⟩
    have HB6 := Lib.hid hbl6
    have hsF := hbl6.size
    clear hbl6
    by_cases hml : m < P
    ·have HTF := HT5.out.below HB6.out
     obtain ⟨b1, c, b2, c2, hq, hb, hc1, hb2, hc2⟩ := HTF.cell hdS hml
     simp only [Value.slice.injEq, Option.some.injEq, Addr.mk.injEq, and_true, true_and] at hq
     obtain ⟨rfl, rfl⟩ := hq
     have hoF := owns_below HO5.out HB6.out
     have htc : wF.cell? ⟨g, m, none⟩ = some (.bool (tgtK κ b y l m)) := by
      rw [hoF.cellAt m (by omega), rowT_get hml]
     have hgl : g < wF.heap.size := (hoF.lt g rfl).2
     have E3F := keeps HB6.out hob5 E35.out
     have hobF : ob < wF.heap.size := Nat.lt_of_lt_of_le hob5 hsF
     have l0 := later_cell HTF.blk.lt (HTF.blk.cell 3 rfl)
     have l1 := later_cell hb hc1
     have l2 := later_cell hb2 hc2
     have l3 := later_cell hgl htc
     have l4 := later_cell hobF E3F
     have HFS := Lib.hid (foundK_succ κ b y l N dn m)
     obtain ⟨fb, hfb⟩ : ∃ fb, fb = foundK κ b y l N dn m := ⟨_, rfl⟩
     obtain ⟨tb', htb⟩ : ∃ tb', tb' = tgtK κ b y l m := ⟨_, rfl⟩
     obtain ⟨nb, hnb⟩ : ∃ nb, nb = N dn m := ⟨_, rfl⟩
     rw [← hfb, ← htb, ← hnb] at HFS
     rw [← htb] at l3
     rw [← hnb] at l2
     rw [← hfb]
     have hmi : (m : Int) < (P : Int) := by omega
     have hdi : (dn : Int) < (S : Int) := by omega
     clear HTF hb hc1 hb2 hc2 hoF htc hgl E3F hobF hfb htb hnb
     cases fb
     ·cases tb'
      ·go_wp2
       refine wp_region_later (by kernel_rfl) (by kernel_rfl) ?_
       repeat (go_big_quiet_step ((fail)))
       refine wpQuiet_nil ?_
       intro _ hw9
       obtain ⟨nl, hw8⟩ := hw9
       subst hw8
       go_wp2
       go_roundw
       case rel => exact ⟨m + 1, by omega, by go_num, by rw [HFS.out]; rfl, HB6.out.trans (nl.h.mono hsF)⟩
       case measure => simp [intOf]; omega
      ·go_wp2
       refine wp_region_later (by kernel_rfl) (by kernel_rfl) ?_
       repeat (go_big_quiet_step ((fail)))
       refine wpQuiet_nil ?_
       intro _ hw9
       obtain ⟨nl, hw8⟩ := hw9
       subst hw8
       go_wp2
       go_roundw
       case rel => exact ⟨m + 1, by omega, by go_num, by rw [HFS.out]; simp, HB6.out.trans (nl.h.mono hsF)⟩
       case measure => simp [intOf]; omega
     ·go_wp2
      refine wp_region_later (by kernel_rfl) (by kernel_rfl) ?_
      repeat (go_big_quiet_step ((fail)))
      refine wpQuiet_nil ?_
      intro _ hw9
      obtain ⟨nl, hw8⟩ := hw9
      subst hw8
      go_wp2
      go_roundw
      case rel => exact ⟨m + 1, by omega, by go_num, by rw [HFS.out]; rfl, HB6.out.trans (nl.h.mono hsF)⟩
      case measure => simp [intOf]; omega
    ·have hmS : m = P := by omega
     have hfa : foundK κ b y l N dn m = ansE2 κ t b N y q := by
      have hpn : b.states.toNat = P := by have := HPS.out; omega
      unfold ansE2 foundK
      rw [hmS, HLAB.out, HDN.out, hpn]
     have HFA := Lib.hid hfa
     obtain ⟨fb, hfb⟩ : ∃ fb, fb = foundK κ b y l N dn m := ⟨_, rfl⟩
     rw [← hfb] at HFA
     rw [← hfb]
     have HB1F := Lib.hid (HB5.out.trans (HB6.out.mono hs5))
     clear hmS hfa hfb
     cases fb
     ·have hres : ansK κ t b N x y = false := by
       unfold ansK
       rw [← HOO.out, List.all_eq_false]
       exact ⟨q, by rw [HQQ.out]; exact List.getElem_mem hkO, by rw [← HFA.out]; decide⟩
      have HRS := Lib.hid hres
      clear hres
      go_wp2
      go_ret
      exact ⟨by rw [HRS.out]; rfl, HB1.out.trans (HB1F.out.mono hs1)⟩
     ·go_wp2
      go_roundw
      case rel =>
       refine ⟨k + 1, by omega, by go_num, HB1F.out, fun e he => ?_⟩
       rw [List.take_succ_eq_append_getElem hkO, List.mem_append, List.mem_singleton] at he
       rcases he with he | he
       ·exact HALL.out e he
       ·rw [he, ← HQQ.out]; exact HFA.out.symm
      case measure => simp [intOf]; omega
  ·have HK : Hid (k = OL) := Lib.hid (show k = OL by omega)
   have hres : ansK κ t b N x y = true := by
    unfold ansK
    rw [← HOO.out, List.all_eq_true]
    intro e he
    have := HALL.out
    rw [HK.out, HOL.out, List.take_length] at this
    exact this e he
   have HRS := Lib.hid hres
   clear hres
   go_wp2
   go_ret
   exact ⟨by rw [HRS.out]; rfl, HB1.out.trans (HBL.out.mono hs1)⟩

end Go.Proofs.YtbjbjbnbapeajaaGreatDoor

namespace Go.Proofs.YtbjbjbnbapeajaaGreatDoor
open Go Go.RowKit

/-- A round. -/
def nextA (A : PairAsk) (N : PairSet) : PairSet := fun x y => N x y && A N x y
/-- Something has changed among the pairs ahead of (x, y). -/
def ChA (A : PairAsk) (N : PairSet) (P x y : Nat) : Prop := ∃ (i j : Nat), ((i < x ∧ j < P) ∨ (i = x ∧ j < y)) ∧ nextA A N i j ≠ N i j
theorem ChA.none (A : PairAsk) (N : PairSet) (P : Nat) : ¬ ChA A N P 0 0 := by rintro ⟨i, j, h, -⟩; omega
theorem ChA.row {A : PairAsk} {N : PairSet} {P x : Nat} : ChA A N P x P ↔ ChA A N P (x + 1) 0 := by
 constructor
 ·rintro ⟨i, j, h, hn⟩; exact ⟨i, j, by omega, hn⟩
 ·rintro ⟨i, j, h, hn⟩; exact ⟨i, j, by omega, hn⟩
theorem ChA.step {A : PairAsk} {N : PairSet} {P x y : Nat} : ChA A N P x (y + 1) ↔ ChA A N P x y ∨ nextA A N x y ≠ N x y := by
 constructor
 ·rintro ⟨i, j, h, hn⟩
  by_cases e : i = x ∧ j = y
  ·obtain ⟨rfl, rfl⟩ := e; exact .inr hn
  ·exact .inl ⟨i, j, by omega, hn⟩
 ·rintro (⟨i, j, h, hn⟩ | h)
  ·exact ⟨i, j, by omega, hn⟩
  ·exact ⟨x, y, by omega, h⟩
theorem info_boolsG : (Tryz.prog.info? 57).map (fun i => (i.zero, i.size, i.bytes)) = some (some (.slice none 0 0), 1, 24) := by kernel_rfl
theorem Blk.keptG {w w' : World} {b : Nat} {cs : List Value} {t : TypeId} {row : Option Nat} (h : Blk w b cs t) (hg : w.grownBy w' row) (hne : some b ≠ row) : Blk w' b cs t := (hg.block b h.lt hne).trans h
theorem blk_own_neG {w : World} {b : Nat} {cs : List Value} {t : TypeId} (h : Blk w b cs t) {base e size n : Nat} {v : Value} {xs : List Value} (ho : w.ownsRow base e size v n xs) (he : e ≠ t) : some b ≠ v.ownBlock := by
 rcases own_type_ne ho (show w.heap[b]? = some (.cells cs.toArray t (0, 0)) from h) he with h | h
 ·rw [h]; simp
 ·exact fun e => h e.symm
set_option maxRecDepth 100000 in
set_option maxHeartbeats 4000000 in
theorem nextK_any (tb bt bb lo lo2 S P : Nat) (κ : Int) (t b : Lts) (N : PairSet) (rv : Value) (vs : List Value) (w : World) (hv : Valid t) (hvb : Valid b) (hS : (S : Int) = t.states) (hP : (P : Int) = b.states) (hp : LtsPtr lo w bt t) (hpb : LtsPtr lo w bb b) (hT : TabK lo2 w tb bt bb κ S P N rv vs) :
  Calls Tryz.prog 59 #[.pointer (some ⟨tb, 0, none⟩)] w fun e w' => ∃ (nb : Nat) (ch : Bool) (rv' : Value) (vs' : List Value), e = .returned (.tuple #[.pointer (some ⟨nb, 0, none⟩), .bool ch]) ∧ Below w.heap.size w w' ∧ TabK w.heap.size w' nb bt bb κ S P (nextA (ansK κ t b) N) rv' vs' ∧ (ch = true ↔ ChA (ansK κ t b) N P S 0) := by
 have HV := Lib.hid hv
 have HP := Lib.hid hp
 have HVB := Lib.hid hvb
 have HPB := Lib.hid hpb
 have HPS := Lib.hid hP
 have hP0 : 0 < P := by have := hvb.st0; omega
 have hP40 : P ≤ 40 := by have := hvb.st1; omega
 have HT := Lib.hid hT
 have HSS := Lib.hid hS
 have hS0 : 0 < S := by have := hv.st0; omega
 have hS40 : S ≤ 40 := by have := hv.st1; omega
 obtain ⟨rb, rc, rb2, rc2, hrv, -, -, -, -⟩ := hT.cell hS0 hP0
 subst hrv
 have l0 := later_cell hT.blk.lt (hT.blk.cell 0 rfl)
 have l1 := later_cell hT.blk.lt (hT.blk.cell 1 rfl)
 have l2 := later_cell hT.blk.lt (hT.blk.cell 2 rfl)
 clear hv hvb hp hpb hT hS hP
 go_enter Tryz.func59, Tryz.ntmps59
 go_wp2
 refine wp_region_later_tail 12 (by kernel_rfl) (by kernel_rfl) ?_
 simp only [List.take_succ_cons, List.take_zero, List.drop_succ_cons, List.drop_zero]
 repeat (go_big_quiet_step ((fail)))
 refine wpQuiet_nil ?_
 intro _ hw9
 obtain ⟨nl, hw8⟩ := hw9
 subst hw8
 have HP1 := Lib.hid (HP.out.below nl.h)
 have HPB1 := Lib.hid (HPB.out.below nl.h)
 have HT1 := Lib.hid (HT.out.below nl.h)
 have HBN := Lib.hid nl.h
 obtain ⟨w1, hw1⟩ : ∃ w1, w1 = nl.w := ⟨_, rfl⟩
 rw [← hw1] at HP1 HPB1 HT1 HBN ⊢
 obtain ⟨W, hW⟩ : ∃ W, W = w1.alloc (.cells #[.pointer (some ⟨bt, 0, none⟩), .pointer (some ⟨bb, 0, none⟩), .int .i64 κ, .slice none 0 0] 60) := ⟨_, rfl⟩
 obtain ⟨nb, hnb⟩ : ∃ nb, nb = w1.heap.size := ⟨_, rfl⟩
 have hbW : Below w1.heap.size w1 W := by rw [hW]; exact (Below.refl _ _).alloc (Nat.le_refl _) _
 have hNB : Blk W nb [.pointer (some ⟨bt, 0, none⟩), .pointer (some ⟨bb, 0, none⟩), .int .i64 κ, .slice none 0 0] 60 := by rw [hW, hnb]; exact Blk.new w1 _ _
 have hsw1 : w.heap.size ≤ w1.heap.size := HBN.out.size
 have HB0 := Lib.hid (HBN.out.trans (hbW.mono hsw1))
 have HNB := Lib.hid hNB
 have HWW := Lib.hid hW
 have HNBE := Lib.hid hnb
 have hnbw : w.heap.size ≤ nb := by rw [hnb]; exact hsw1
 have htn : tb ≠ nb := by have := HT1.out.blk.lt; omega
 obtain ⟨ib, hib, hzb0, hzb1, hzb2⟩ := info_parts info_boolG
 obtain ⟨ir, hir, hzr0, hzr1, hzr2⟩ := info_parts info_boolsG
 have HTW := Lib.hid (HT1.out.below hbW)
 have HPW := Lib.hid (HP1.out.below hbW)
 have HPBW := Lib.hid (HPB1.out.below hbW)
 clear hw1 l0 l1 l2 hbW hNB hW hnb HT1 HP1 HPB1
 go_wp2
 rw [← HWW.out, ← HNBE.out]
 go_loopw [5, 6] (fun v5 v6 wr => ∃ (x : Nat) (ch : Bool) (rv' : Value) (vs' : List Value), v6 = .int .i64 x ∧ x ≤ S ∧ v5 = .bool ch ∧ (ch = true ↔ ChA (ansK κ t b) N P x 0) ∧ Below w.heap.size w wr ∧ TabK lo2 wr tb bt bb κ S P N (.slice (some ⟨rb, 0, none⟩) S rc) vs ∧ LtsPtr lo wr bt t ∧ LtsPtr lo wr bb b ∧ Blk wr nb [.pointer (some ⟨bt, 0, none⟩), .pointer (some ⟨bb, 0, none⟩), .int .i64 κ, rv'] 60 ∧ OwnVss 57 4 w.heap.size wr rv' vs' (tabG x P (nextA (ansK κ t b) N))) (fun _ v6 _ => S - (intOf v6).toNat)
 case atStart => exact ⟨0, false, .slice none 0 0, [], rfl, Nat.zero_le _, rfl, ⟨fun h => (by cases h), fun h => absurd h (ChA.none _ N P)⟩, HB0.out, HTW.out, HPW.out, HPBW.out, HNB.out, OwnVss.nothing _ _ _ _⟩
 case round =>
  clear HB0 HTW HPW HPBW HNB
  obtain ⟨x, ch, rv', vs', rfl, hx, rfl, hch, hbl, htab, hltp, hltpb, hnbk, hown⟩ := hrel
  obtain ⟨wC, rfl⟩ : ∃ wC : World, wC = wr := ⟨_, rfl⟩
  have HCH := Lib.hid hch
  have HBL := Lib.hid hbl
  have HTB := Lib.hid htab
  have HLP := Lib.hid hltp
  have HLPB := Lib.hid hltpb
  have HNB := Lib.hid hnbk
  have HOW := Lib.hid hown
  have hszC := hbl.size
  obtain ⟨ra, rcc, rfl, -, -⟩ := owns_slice hown.2.1
  obtain ⟨VL, hVL⟩ : ∃ VL, VL = vs'.length := ⟨_, rfl⟩
  rw [← hVL] at HNB HOW
  have HVL := Lib.hid hVL
  have hvx : VL = x := by rw [hVL, hown.1, tabG_len]
  have HVX := Lib.hid hvx
  have hVS : VL ≤ 40 := by omega
  have T3 := htab.blk.cell 3 rfl
  clear hch hbl htab hltp hltpb hnbk hown hVL hvx
  by_cases hlt : x < S
  ·-- one row
   obtain ⟨B, hB⟩ : ∃ B, B = wC.heap.size := ⟨_, rfl⟩
   have hwB : w.heap.size ≤ B := by rw [hB]; exact hszC
   have hal : Below wC.heap.size wC (wC.alloc (.cells #[] 4)) := (Below.refl _ _).alloc (Nat.le_refl _) _
   have HROW : Hid ((wC.alloc (.cells #[] 4)).ownsRow B 4 1 (.slice (some ⟨B, 0, none⟩) 0 0) 0 []) := by
    rw [hB]; exact World.ownsRow_lit (size := 1) wC #[] 0 (Nat.le_refl _) (by decide) rfl
   have HAL := Lib.hid hal
   have HBB := Lib.hid hB
   clear hB hal
   go_wp2
   rw [← HBB.out]
   go_loopw [5, 7, 8] (fun v5 v7 v8 wr => ∃ (y : Nat) (ch' : Bool), v8 = .int .i64 y ∧ y ≤ P ∧ v5 = .bool ch' ∧ (ch' = true ↔ ChA (ansK κ t b) N P x y) ∧ Below wC.heap.size wC wr ∧ wr.ownsRow B 4 1 v7 y (rowG y (nextA (ansK κ t b) N) x)) (fun _ _ v8 _ => P - (intOf v8).toNat)
   case atStart => exact ⟨0, ch, rfl, Nat.zero_le _, rfl, HCH.out, HAL.out, HROW.out⟩
   case round =>
    clear HAL HROW HCH
    obtain ⟨y, ch', rfl, hy, rfl, hch, hbl2, hrow⟩ := hrel
    obtain ⟨wD, rfl⟩ : ∃ wD : World, wD = wr := ⟨_, rfl⟩
    have HCH := Lib.hid hch
    have HB2 := Lib.hid hbl2
    have HRW := Lib.hid hrow
    obtain ⟨a7, c7, rfl, -, -⟩ := owns_slice hrow
    have hsD : wC.heap.size ≤ wD.heap.size := hbl2.size
    have htab := HTB.out.below hbl2
    have hltp := HLP.out.below hbl2
    have hltpb := HLPB.out.below hbl2
    by_cases hyl : y < P
    ·obtain ⟨b1, c, b2, c2, hq, hb, hc1, hb2, hc2⟩ := htab.cell hlt hyl
     simp only [Value.slice.injEq, Option.some.injEq, Addr.mk.injEq, and_true, true_and] at hq
     obtain ⟨rfl, rfl⟩ := hq
     have T3 := htab.blk.cell 3 rfl
     have htl := htab.blk.lt
     have HHO := Lib.hid (holdsK_any tb bt bb lo lo2 S P y κ t b N (.slice (some ⟨rb, 0, none⟩) S rc) vs x wD HV.out HVB.out HSS.out HPS.out hyl hltp hltpb htab)
     have HRS := Lib.hid (rowG_succ y (nextA (ansK κ t b) N) x)
     have HST := Lib.hid (ChA.step (A := ansK κ t b) (N := N) (P := P) (x := x) (y := y))
     obtain ⟨nv, hnv⟩ : ∃ nv, nv = N x y := ⟨_, rfl⟩
     obtain ⟨an, han⟩ : ∃ an, an = ansK κ t b N x y := ⟨_, rfl⟩
     have hnx : nextA (ansK κ t b) N x y = (nv && an) := by unfold nextA; rw [hnv, han]
     rw [hnx] at HRS HST
     rw [← hnv] at hc2 HST
     rw [← han] at HHO
     have hxi : (x : Int) < (S : Int) := by omega
     have hyi : (y : Int) < (P : Int) := by omega
     clear hch hbl2 hrow htab hltp hltpb hnv han hnx
     cases nv
     ·cases ch'
      ·skip
       have HRO : Hid (wD.ownsRow B 4 1 (.slice a7 y c7) y (rowG y (nextA (ansK κ t b) N) x)) := HRW.out
       have hsW : wC.heap.size ≤ wD.heap.size := HB2.out.size
       have hBW : B ≤ wD.heap.size := by rw [HBB.out]; exact hsW
       go_wp2_with (at_builtin; refine wpList_append_own_at _ rfl _ _ 57 rfl B 4 ib (.bool false) 1 1 Tryz.underlying57 hib hzb0 hzb1 hzb2 rfl (by decide) _ _ _ rfl (HRO.out.alloc _) ⟨wD.heap.size, 0, none⟩ 1 1 [.bool false] rfl rfl ?c1_1 ?c2_1 ?c3_1 ?c4_1 ?c5_1 ?_)
       try (case c1_1 => exact (cell_one_new _ _ _))
       case c2_1 => first | rfl | (intro u hu; simp at hu; subst hu; rfl)
       case c3_1 => first | omega | (simp [maxLen]; omega)
       case c4_1 => first | omega | (simp; omega)
       case c5_1 => first | omega | (simp; omega)
       intro v8 w8 ho8 hg8 hz1 hz2
       clear hz1 hz2
       have hal8 : Below wD.heap.size wD (wD.alloc (.cells #[.bool false] 4)) := (Below.refl _ _).alloc (Nat.le_refl _) _
       have HB8 : Hid (Below wC.heap.size wC w8) := (HB2.out.trans (hal8.mono hsW)).grown hg8 (by simp; omega) (fun b e => by rw [← HBB.out]; exact (HRO.out.lt b e).1)
       have HO8 : Hid (w8.ownsRow B 4 1 v8 (y + 1) (rowG (y + 1) (nextA (ansK κ t b) N) x)) := by
        unfold Hid
        rw [HRS.out]
        simpa using ho8
       obtain ⟨a8, c8, rfl, -, -⟩ := owns_slice HO8.out
       clear ho8 hg8 hal8 HRO
       go_wp2
       go_roundw
       case rel => exact ⟨y + 1, false, by go_num, by omega, rfl, by rw [HST.out, ← HCH.out]; simp, HB8.out, HO8.out⟩
       case measure => simp [intOf]; omega
      ·skip
       have HRO : Hid (wD.ownsRow B 4 1 (.slice a7 y c7) y (rowG y (nextA (ansK κ t b) N) x)) := HRW.out
       have hsW : wC.heap.size ≤ wD.heap.size := HB2.out.size
       have hBW : B ≤ wD.heap.size := by rw [HBB.out]; exact hsW
       go_wp2_with (at_builtin; refine wpList_append_own_at _ rfl _ _ 57 rfl B 4 ib (.bool false) 1 1 Tryz.underlying57 hib hzb0 hzb1 hzb2 rfl (by decide) _ _ _ rfl (HRO.out.alloc _) ⟨wD.heap.size, 0, none⟩ 1 1 [.bool false] rfl rfl ?c1_2 ?c2_2 ?c3_2 ?c4_2 ?c5_2 ?_)
       try (case c1_2 => exact (cell_one_new _ _ _))
       case c2_2 => first | rfl | (intro u hu; simp at hu; subst hu; rfl)
       case c3_2 => first | omega | (simp [maxLen]; omega)
       case c4_2 => first | omega | (simp; omega)
       case c5_2 => first | omega | (simp; omega)
       intro v8 w8 ho8 hg8 hz1 hz2
       clear hz1 hz2
       have hal8 : Below wD.heap.size wD (wD.alloc (.cells #[.bool false] 4)) := (Below.refl _ _).alloc (Nat.le_refl _) _
       have HB8 : Hid (Below wC.heap.size wC w8) := (HB2.out.trans (hal8.mono hsW)).grown hg8 (by simp; omega) (fun b e => by rw [← HBB.out]; exact (HRO.out.lt b e).1)
       have HO8 : Hid (w8.ownsRow B 4 1 v8 (y + 1) (rowG (y + 1) (nextA (ansK κ t b) N) x)) := by
        unfold Hid
        rw [HRS.out]
        simpa using ho8
       obtain ⟨a8, c8, rfl, -, -⟩ := owns_slice HO8.out
       clear ho8 hg8 hal8 HRO
       go_wp2
       go_roundw
       case rel => exact ⟨y + 1, true, by go_num, by omega, rfl, by rw [HST.out, ← HCH.out]; simp, HB8.out, HO8.out⟩
       case measure => simp [intOf]; omega
     ·go_wp2_with fail
      refine Calls.mono HHO.out ?_
      rintro e w5 ⟨rfl, hb5⟩
      have HB5 := Lib.hid hb5
      have HB25 := Lib.hid (HB2.out.trans (hb5.mono hsD))
      have T3' := keeps hb5 htl T3
      have hc1' := keeps hb5 hb hc1
      have hc2' := keeps hb5 hb2 hc2
      clear hb5 T3 hc1 hc2 HHO
      cases an
      ·cases ch'
       ·skip
        have HRO : Hid (w5.ownsRow B 4 1 (.slice a7 y c7) y (rowG y (nextA (ansK κ t b) N) x)) := owns_below HRW.out HB5.out
        have hsW : wC.heap.size ≤ w5.heap.size := HB25.out.size
        have hBW : B ≤ w5.heap.size := by rw [HBB.out]; exact hsW
        go_wp2_with (at_builtin; refine wpList_append_own_at _ rfl _ _ 57 rfl B 4 ib (.bool false) 1 1 Tryz.underlying57 hib hzb0 hzb1 hzb2 rfl (by decide) _ _ _ rfl (HRO.out.alloc _) ⟨w5.heap.size, 0, none⟩ 1 1 [.bool false] rfl rfl ?c1_3 ?c2_3 ?c3_3 ?c4_3 ?c5_3 ?_)
        try (case c1_3 => exact (cell_one_new _ _ _))
        case c2_3 => first | rfl | (intro u hu; simp at hu; subst hu; rfl)
        case c3_3 => first | omega | (simp [maxLen]; omega)
        case c4_3 => first | omega | (simp; omega)
        case c5_3 => first | omega | (simp; omega)
        intro v8 w8 ho8 hg8 hz1 hz2
        clear hz1 hz2
        have hal8 : Below w5.heap.size w5 (w5.alloc (.cells #[.bool false] 4)) := (Below.refl _ _).alloc (Nat.le_refl _) _
        have HB8 : Hid (Below wC.heap.size wC w8) := (HB25.out.trans (hal8.mono hsW)).grown hg8 (by simp; omega) (fun b e => by rw [← HBB.out]; exact (HRO.out.lt b e).1)
        have HO8 : Hid (w8.ownsRow B 4 1 v8 (y + 1) (rowG (y + 1) (nextA (ansK κ t b) N) x)) := by
         unfold Hid
         rw [HRS.out]
         simpa using ho8
        obtain ⟨a8, c8, rfl, -, -⟩ := owns_slice HO8.out
        clear ho8 hg8 hal8 HRO
        go_wp2
        go_roundw
        case rel => exact ⟨y + 1, true, by go_num, by omega, rfl, by rw [HST.out, ← HCH.out]; simp, HB8.out, HO8.out⟩
        case measure => simp [intOf]; omega
       ·skip
        have HRO : Hid (w5.ownsRow B 4 1 (.slice a7 y c7) y (rowG y (nextA (ansK κ t b) N) x)) := owns_below HRW.out HB5.out
        have hsW : wC.heap.size ≤ w5.heap.size := HB25.out.size
        have hBW : B ≤ w5.heap.size := by rw [HBB.out]; exact hsW
        go_wp2_with (at_builtin; refine wpList_append_own_at _ rfl _ _ 57 rfl B 4 ib (.bool false) 1 1 Tryz.underlying57 hib hzb0 hzb1 hzb2 rfl (by decide) _ _ _ rfl (HRO.out.alloc _) ⟨w5.heap.size, 0, none⟩ 1 1 [.bool false] rfl rfl ?c1_4 ?c2_4 ?c3_4 ?c4_4 ?c5_4 ?_)
        try (case c1_4 => exact (cell_one_new _ _ _))
        case c2_4 => first | rfl | (intro u hu; simp at hu; subst hu; rfl)
        case c3_4 => first | omega | (simp [maxLen]; omega)
        case c4_4 => first | omega | (simp; omega)
        case c5_4 => first | omega | (simp; omega)
        intro v8 w8 ho8 hg8 hz1 hz2
        clear hz1 hz2
        have hal8 : Below w5.heap.size w5 (w5.alloc (.cells #[.bool false] 4)) := (Below.refl _ _).alloc (Nat.le_refl _) _
        have HB8 : Hid (Below wC.heap.size wC w8) := (HB25.out.trans (hal8.mono hsW)).grown hg8 (by simp; omega) (fun b e => by rw [← HBB.out]; exact (HRO.out.lt b e).1)
        have HO8 : Hid (w8.ownsRow B 4 1 v8 (y + 1) (rowG (y + 1) (nextA (ansK κ t b) N) x)) := by
         unfold Hid
         rw [HRS.out]
         simpa using ho8
        obtain ⟨a8, c8, rfl, -, -⟩ := owns_slice HO8.out
        clear ho8 hg8 hal8 HRO
        go_wp2
        go_roundw
        case rel => exact ⟨y + 1, true, by go_num, by omega, rfl, by rw [HST.out, ← HCH.out]; simp, HB8.out, HO8.out⟩
        case measure => simp [intOf]; omega
      ·cases ch'
       ·skip
        have HRO : Hid (w5.ownsRow B 4 1 (.slice a7 y c7) y (rowG y (nextA (ansK κ t b) N) x)) := owns_below HRW.out HB5.out
        have hsW : wC.heap.size ≤ w5.heap.size := HB25.out.size
        have hBW : B ≤ w5.heap.size := by rw [HBB.out]; exact hsW
        go_wp2_with (at_builtin; refine wpList_append_own_at _ rfl _ _ 57 rfl B 4 ib (.bool false) 1 1 Tryz.underlying57 hib hzb0 hzb1 hzb2 rfl (by decide) _ _ _ rfl (HRO.out.alloc _) ⟨w5.heap.size, 0, none⟩ 1 1 [.bool true] rfl rfl ?c1_5 ?c2_5 ?c3_5 ?c4_5 ?c5_5 ?_)
        try (case c1_5 => exact (cell_one_new _ _ _))
        case c2_5 => first | rfl | (intro u hu; simp at hu; subst hu; rfl)
        case c3_5 => first | omega | (simp [maxLen]; omega)
        case c4_5 => first | omega | (simp; omega)
        case c5_5 => first | omega | (simp; omega)
        intro v8 w8 ho8 hg8 hz1 hz2
        clear hz1 hz2
        have hal8 : Below w5.heap.size w5 (w5.alloc (.cells #[.bool true] 4)) := (Below.refl _ _).alloc (Nat.le_refl _) _
        have HB8 : Hid (Below wC.heap.size wC w8) := (HB25.out.trans (hal8.mono hsW)).grown hg8 (by simp; omega) (fun b e => by rw [← HBB.out]; exact (HRO.out.lt b e).1)
        have HO8 : Hid (w8.ownsRow B 4 1 v8 (y + 1) (rowG (y + 1) (nextA (ansK κ t b) N) x)) := by
         unfold Hid
         rw [HRS.out]
         simpa using ho8
        obtain ⟨a8, c8, rfl, -, -⟩ := owns_slice HO8.out
        clear ho8 hg8 hal8 HRO
        go_wp2
        go_roundw
        case rel => exact ⟨y + 1, false, by go_num, by omega, rfl, by rw [HST.out, ← HCH.out]; simp, HB8.out, HO8.out⟩
        case measure => simp [intOf]; omega
       ·skip
        have HRO : Hid (w5.ownsRow B 4 1 (.slice a7 y c7) y (rowG y (nextA (ansK κ t b) N) x)) := owns_below HRW.out HB5.out
        have hsW : wC.heap.size ≤ w5.heap.size := HB25.out.size
        have hBW : B ≤ w5.heap.size := by rw [HBB.out]; exact hsW
        go_wp2_with (at_builtin; refine wpList_append_own_at _ rfl _ _ 57 rfl B 4 ib (.bool false) 1 1 Tryz.underlying57 hib hzb0 hzb1 hzb2 rfl (by decide) _ _ _ rfl (HRO.out.alloc _) ⟨w5.heap.size, 0, none⟩ 1 1 [.bool true] rfl rfl ?c1_6 ?c2_6 ?c3_6 ?c4_6 ?c5_6 ?_)
        try (case c1_6 => exact (cell_one_new _ _ _))
        case c2_6 => first | rfl | (intro u hu; simp at hu; subst hu; rfl)
        case c3_6 => first | omega | (simp [maxLen]; omega)
        case c4_6 => first | omega | (simp; omega)
        case c5_6 => first | omega | (simp; omega)
        intro v8 w8 ho8 hg8 hz1 hz2
        clear hz1 hz2
        have hal8 : Below w5.heap.size w5 (w5.alloc (.cells #[.bool true] 4)) := (Below.refl _ _).alloc (Nat.le_refl _) _
        have HB8 : Hid (Below wC.heap.size wC w8) := (HB25.out.trans (hal8.mono hsW)).grown hg8 (by simp; omega) (fun b e => by rw [← HBB.out]; exact (HRO.out.lt b e).1)
        have HO8 : Hid (w8.ownsRow B 4 1 v8 (y + 1) (rowG (y + 1) (nextA (ansK κ t b) N) x)) := by
         unfold Hid
         rw [HRS.out]
         simpa using ho8
        obtain ⟨a8, c8, rfl, -, -⟩ := owns_slice HO8.out
        clear ho8 hg8 hal8 HRO
        go_wp2
        go_roundw
        case rel => exact ⟨y + 1, true, by go_num, by omega, rfl, by rw [HST.out, ← HCH.out]; simp, HB8.out, HO8.out⟩
        case measure => simp [intOf]; omega
    ·have HY : Hid (y = P) := Lib.hid (show y = P by omega)
     obtain ⟨b1, c, b2, c2, hq, hb, hc1, hb2, hc2⟩ := htab.cell hlt hP0
     simp only [Value.slice.injEq, Option.some.injEq, Addr.mk.injEq, and_true, true_and] at hq
     obtain ⟨rfl, rfl⟩ := hq
     have T3 := htab.blk.cell 3 rfl
     have HND := Lib.hid (HNB.out.below hbl2)
     have HOD := Lib.hid (HOW.out.below hbl2)
     have HTD := Lib.hid htab
     have HLD := Lib.hid hltp
     have HLBD := Lib.hid hltpb
     have HOR : Hid (wD.ownsRow w.heap.size 57 1 (.slice ra VL rcc) VL vs') := by
      have h := HOD.out.2.1
      rw [← HVL.out] at h
      exact h
     have n3 := HND.out.cell 3 rfl
     have nf := HND.out.frozen 3
     have hnl := HND.out.lt
     have hsw : w.heap.size ≤ wD.heap.size := Nat.le_trans hszC hsD
     have hnv : some nb ≠ (Value.slice ra VL rcc).ownBlock := blk_own_neG HND.out HOR.out (by decide)
     have hxi : (x : Int) < (S : Int) := by omega
     have hyn : ¬ ((y : Int) < (P : Int)) := by omega
     clear hch hbl2 hrow htab hltp hltpb hc2
     go_wp2_with (at_builtin; refine wpList_append_own_at _ rfl _ _ 58 rfl w.heap.size 57 ir (.slice none 0 0) 1 24 Tryz.underlying58 hir hzr0 hzr1 hzr2 rfl (by decide) _ _ _ rfl (HOR.out.alloc _) ⟨wD.heap.size, 0, none⟩ 1 1 [.slice a7 y c7] rfl rfl ?d1 ?d2 ?d3 ?d4 ?d5 ?_)
     try (case d1 => exact (cell_one_new _ _ _))
     case d2 => first | rfl | (intro u hu; simp at hu; subst hu; rfl)
     case d3 => first | omega | (simp [maxLen]; omega)
     case d4 => first | omega | (simp; omega)
     case d5 => first | omega | (simp; omega)
     intro v8 w8 ho8 hg8 hz1 hz2
     clear hz1 hz2
     have hal8 : Below wD.heap.size wD (wD.alloc (.cells #[.slice a7 y c7] 57)) := (Below.refl _ _).alloc (Nat.le_refl _) _
     obtain ⟨a8, c8, rfl, -, -⟩ := owns_slice ho8
     have z2 : w8.cell? ⟨nb, 3, none⟩ = some (.slice ra VL rcc) := (hg8.cell_far ⟨nb, 3, none⟩ (by simp; omega) hnv).trans (keeps hal8 hnl n3)
     have z1 : w8.frozen? ⟨nb, 3, none⟩ = false := (hg8.frozen_far ⟨nb, 3, none⟩ (by simp; omega) hnv).trans ((hal8.frozen (p := ⟨nb, 3, none⟩) hnl).trans nf)
     have HB8 : Hid (Below w.heap.size w w8) := ((HBL.out.trans (HB2.out.mono hszC)).trans (hal8.mono hsw)).grown hg8 (by simp; omega) (fun b e => (HOR.out.lt b e).1)
     have HN8 := Lib.hid (((HND.out.below hal8).keptG hg8 hnv).set 3 (.slice a8 (VL + 1) c8))
     have hr := owns_below HRW.out hal8
     have hr2 : (wD.alloc (.cells #[.slice a7 y c7] 57)).ownsRow B 4 1 (.slice a7 y c7) (rowG P (nextA (ansK κ t b) N) x).length (rowG P (nextA (ansK κ t b) N) x) := by
      have e1 : rowG P (nextA (ansK κ t b) N) x = rowG y (nextA (ansK κ t b) N) x := by rw [HY.out]
      rw [e1, rowG_len]
      exact hr
     have hpu := (HOD.out.below hal8).push (by decide) hr2 hwB hg8 (by rw [← HVL.out]; exact ho8)
     rw [← tabG_succ] at hpu
     have HPU := Lib.hid (hpu.set1 ((HND.out.below hal8).keptG hg8 hnv) (by decide) (by decide) 3 (.slice a8 (VL + 1) c8))
     have HCS : Hid (ch' = true ↔ ChA (ansK κ t b) N P (x + 1) 0) := by
      have h := HCH.out
      rw [HY.out, ChA.row] at h
      exact h
     clear ho8 hg8 hal8 hr hr2 hpu n3 nf
     go_wp2
     go_roundw
     case rel => exact ⟨x + 1, ch', _, _, by go_num, by omega, rfl, HCS.out, HB8.out.setCell hnbw _, HT.out.below (HB8.out.setCell hnbw _), HP.out.below (HB8.out.setCell hnbw _), HPB.out.below (HB8.out.setCell hnbw _), HN8.out, HPU.out⟩
     case measure => simp [intOf]; omega
  ·have HX : Hid (x = S) := Lib.hid (show x = S by omega)
   go_wp2
   go_ret2
   refine ⟨nb, ch, .slice ra VL rcc, vs', rfl, HBL.out, ⟨HNB.out, ?_⟩, ?_⟩
   ·rw [← HX.out]; rw [HX.out] at HOW ⊢; exact HOW.out
   ·have := HCH.out; rw [HX.out] at this; exact this

end Go.Proofs.YtbjbjbnbapeajaaGreatDoor

namespace Go.Proofs.YtbjbjbnbapeajaaGreatDoor
open Go Go.RowKit

theorem toList_injK {a b : ByteArray} (h : a.toList = b.toList) : a = b := data_inj (by rw [← Lib.toList_data, ← Lib.toList_data, h])
theorem list_same {xs ys : List ByteArray} (hl : xs.length = ys.length) (h : ∀ j (h1 : j < xs.length) (h2 : j < ys.length), xs[j].toList = ys[j].toList) : xs = ys :=
 List.ext_getElem hl fun j h1 h2 => toList_injK (h j h1 h2)
set_option maxRecDepth 100000 in
set_option maxHeartbeats 1000000 in
theorem EqualS_any (lo lo' : Nat) (va vb : Value) (xs ys : List ByteArray) (w : World) (hva : SliceK 1 encS lo w va xs) (hvb : SliceK 1 encS lo' w vb ys) (_hz : xs.length ≤ 1048576) (_hz2 : ys.length ≤ 1048576) :
  Calls Tryz.prog 61 #[va, vb] w fun e w' => ∃ b : Bool, e = .returned (.bool b) ∧ (b = true ↔ xs = ys) ∧ Below w.heap.size w w' := by
 obtain ⟨a, ca, rfl, hna, hca, ha⟩ := hva
 obtain ⟨b, cb, rfl, hnb, hcb, hb⟩ := hvb
 have HA := Lib.hid ha
 have HB := Lib.hid hb
 obtain ⟨N, hN⟩ : ∃ N, N = xs.length := ⟨_, rfl⟩
 obtain ⟨M, hM⟩ : ∃ M, M = ys.length := ⟨_, rfl⟩
 rw [← hN] at hna ⊢
 rw [← hM] at hnb ⊢
 have HN := Lib.hid hN
 have HM := Lib.hid hM
 clear ha hb hN hM hna hca hnb hcb
 by_cases hl : N = M
 ·have HL := Lib.hid hl
  have hlb : ((N : Int) == (M : Int)) = true := by rw [beq_iff_eq]; omega
  clear hl
  go_enter Tryz.func61, Tryz.ntmps61
  go_wp2
  go_loopw [13] (fun i wr => ∃ k : Nat, k ≤ N ∧ i = .int .i64 k ∧ Below w.heap.size w wr ∧ ∀ j (h1 : j < xs.length) (h2 : j < ys.length), j < k → xs[j].toList = ys[j].toList) (fun i _ => N - (intOf i).toNat)
  case atStart => exact ⟨0, Nat.zero_le _, rfl, Below.refl _ _, fun _ _ _ h => by omega⟩
  case round =>
   obtain ⟨k, hk, rfl, hbl, hx⟩ := hrel
   have HX := Lib.hid hx
   have HBL := Lib.hid hbl
   clear hx
   by_cases hlt : k < N
   ·have hl1 : k < xs.length := by have := HN.out; omega
    have hl2 : k < ys.length := by have := HM.out; have := HL.out; omega
    have hkM : k < M := by have := HL.out; omega
    obtain ⟨b1, o1, rfl, -, h1, c1⟩ := (HA.out.below hbl).one hl1
    obtain ⟨b2, o2, rfl, -, h2, c2⟩ := (HB.out.below hbl).one hl2
    simp only [encS, List.getElem?_cons_zero] at c1 c2
    obtain ⟨x, hx⟩ : ∃ x, x = xs[k] := ⟨_, rfl⟩
    obtain ⟨y, hy⟩ : ∃ y, y = ys[k] := ⟨_, rfl⟩
    rw [← hx] at c1
    rw [← hy] at c2
    have HXX := Lib.hid hx
    have HYY := Lib.hid hy
    clear hbl hx hy
    cases hxy : (x.toList == y.toList)
    ·have HF : Hid (¬ xs = ys) := fun e => by
      subst e
      rw [HXX.out, HYY.out, beq_self_eq_true] at hxy
      cases hxy
     go_wp2
     go_quiet (fail)
     go_wp2
     go_ret
     exact ⟨_, rfl, ⟨(fun h => by cases h), fun h => absurd h HF.out⟩, drews HBL.out _⟩
    ·have HF : Hid (xs[k].toList = ys[k].toList) := by
      rw [beq_iff_eq, HXX.out, HYY.out] at hxy
      exact hxy
     go_wp2
     go_quiet (fail)
     go_wp2
     go_roundw
     case rel => exact ⟨k + 1, by omega, by go_num, drews HBL.out _, fun j h1 h2 hj => by
      by_cases e : j = k
      ·subst e; exact HF.out
      ·exact HX.out j h1 h2 (by omega)⟩
     case measure => simp [intOf]; omega
   ·have HF : Hid (xs = ys) := list_same (by rw [← HN.out, ← HM.out, HL.out]) fun j h1 h2 => HX.out j h1 h2 (by have := HN.out; omega)
    clear hbl
    go_wp2
    go_ret
    exact ⟨_, rfl, ⟨fun _ => HF.out, fun _ => rfl⟩, HBL.out⟩
 ·have HL : Hid (¬ xs = ys) := fun e => hl (by rw [HN.out, HM.out, e])
  have hlb : ((N : Int) == (M : Int)) = false := by rw [beq_eq_false_iff_ne]; omega
  clear hl
  go_enter Tryz.func61, Tryz.ntmps61
  go_wp2
  go_ret
  exact ⟨_, rfl, ⟨(fun h => by cases h), fun h => absurd h HL.out⟩, Below.refl _ _⟩

end Go.Proofs.YtbjbjbnbapeajaaGreatDoor

namespace Go.Proofs.YtbjbjbnbapeajaaGreatDoor
open Go Go.RowKit

theorem own_type_far {w : World} {base e size n b : Nat} {v : Value} {xs : List Value} (ho : w.ownsRow base e size v n xs) {a : Array Value} {t : TypeId} {fr : Nat × Nat} (hb : w.heap[b]? = some (.cells a t fr)) (he : e ≠ t) : v.ownBlock = none ∨ v.ownBlock ≠ some b := by
 rcases ho.2 with ⟨rfl, -⟩ | ⟨g, c, u, rfl, -, hg, -⟩
 ·exact .inl rfl
 ·refine .inr fun e2 => ?_
  simp only [Value.ownBlock, Option.some.injEq] at e2
  subst e2
  rw [hg] at hb
  simp only [Option.some.injEq, Obj.cells.injEq] at hb
  exact he hb.2.1
/-- Blocks of types other than these are as they were. -/
def Only (Ts : List TypeId) (w w' : World) : Prop := ∀ (b : Nat) (a : Array Value) (T : TypeId) (fr : Nat × Nat), w.heap[b]? = some (.cells a T fr) → T ∉ Ts → w'.heap[b]? = some (.cells a T fr)
theorem Only.refl (Ts : List TypeId) (w : World) : Only Ts w w := fun _ _ _ _ h _ => h
theorem Only.trans {Ts Us : List TypeId} {a b c : World} (h : Only Ts a b) (k : Only Us b c) : Only (Ts ++ Us) a c := fun x y T fr hx hT => by
 rw [List.mem_append] at hT
 exact k x y T fr (h x y T fr hx (fun e => hT (.inl e))) (fun e => hT (.inr e))
theorem Only.step {Ts : List TypeId} {a b c : World} (h : Only Ts a b) (k : Only Ts b c) : Only Ts a c := fun x y T fr hx hT => k x y T fr (h x y T fr hx hT) hT
theorem Only.below {w w' : World} (Ts : List TypeId) (hb : Below w.heap.size w w') : Only Ts w w' := fun b _ _ _ h _ => (hb.block b (Array.getElem?_eq_some_iff.1 h).1).trans h
theorem Only.grown {base e size n : Nat} {w w' : World} {v : Value} {xs : List Value} (ho : w.ownsRow base e size v n xs) (hg : w.grownBy w' v.ownBlock) : Only [e] w w' := fun b a T fr h hT => by
 refine (hg.block b (Array.getElem?_eq_some_iff.1 h).1 ?_).trans h
 intro e2
 rcases own_type_far ho h (fun e3 => hT (by rw [e3]; simp)) with h1 | h1
 ·rw [h1] at e2; cases e2
 ·exact h1 e2.symm
theorem Only.own {Ts : List TypeId} {w w' : World} (h : Only Ts w w') {base e size n : Nat} {v : Value} {xs : List Value} (ho : w.ownsRow base e size v n xs) (he : e ∉ Ts) : w'.ownsRow base e size v n xs := by
 refine ⟨ho.1, ?_⟩
 rcases ho.2 with hn | ⟨g, cap, cur, rfl, hb, hgg, rest⟩
 ·exact .inl hn
 ·exact .inr ⟨g, cap, cur, rfl, hb, h g _ _ _ hgg he, rest⟩
theorem Only.blk {Ts : List TypeId} {w w' : World} (h : Only Ts w w') {b : Nat} {cs : List Value} {t : TypeId} (hb : Blk w b cs t) (he : t ∉ Ts) : Blk w' b cs t := h b _ _ _ hb he
theorem Only.mono {Ts Us : List TypeId} {w w' : World} (h : Only Ts w w') (hs : ∀ T ∈ Ts, T ∈ Us) : Only Us w w' := fun b a T fr hb hT => h b a T fr hb (fun e => hT (hs T e))
end Go.Proofs.YtbjbjbnbapeajaaGreatDoor

namespace Go.Proofs.YtbjbjbnbapeajaaGreatDoor
open Go Go.RowKit

def txts (xs : List ByteArray) : List Value := xs.map Value.string
/-- A list of texts of the call's own. -/
def OwnStrs (lo : Nat) (w : World) (v : Value) (xs : List ByteArray) : Prop := w.ownsRow lo 9 1 v xs.length (txts xs)
theorem OwnStrs.below {lo : Nat} {w w' : World} {v : Value} {xs : List ByteArray} (h : OwnStrs lo w v xs) (hb : Below w.heap.size w w') : OwnStrs lo w' v xs := owns_below h hb
theorem OwnStrs.lower {lo lo' : Nat} {w : World} {v : Value} {xs : List ByteArray} (h : OwnStrs lo w v xs) (hl : lo' ≤ lo) : OwnStrs lo' w v xs := own_lower h hl
theorem OwnStrs.turns {base lo hi : Nat} {w w' : World} {v : Value} {xs : List ByteArray} (h : OwnStrs base w v xs) (ht : Turns lo hi w w') (hb : hi ≤ base) : OwnStrs base w' v xs := owns_turns h ht (fun b e => .inr (Nat.le_trans hb (World.ownsRow.lt h b e).1))
theorem OwnStrs.at {lo : Nat} {w : World} {v : Value} {xs : List ByteArray} (h : OwnStrs lo w v xs) : SliceK 1 encS lo w v xs := SliceK.of_owns (e := 9) encS_len rfl (by rw [flat_encS]; exact h)
end Go.Proofs.YtbjbjbnbapeajaaGreatDoor
