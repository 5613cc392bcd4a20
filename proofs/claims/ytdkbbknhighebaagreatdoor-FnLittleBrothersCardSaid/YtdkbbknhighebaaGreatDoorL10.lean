/-
  The program's part: the system of some states.
  A round of the greatest simulation, as the program asks for it. Plain.
  Sets of pairs as lists: the program's rounds. Plain.
  Greatest sets of pairs for any test of a pair; the program's rounds, key by key. Plain.
  A map that holds a set: each key leads to true; ranging over it.
  Ranging over a set that is a map: the laws at the operations.
  Pairs of states as keys of a map.
  Ranging over a set of pairs: the step with the pair written out; the number of pairs.
  The library's slices.IndexFunc and slices.ContainsFunc at a slice of numbers, with a function that may lay blocks of its own.
-/
import Derived.Test.YtdkbbknhighebaaGreatDoorL1
import Derived.Test.YtdkbbknhighebaaGreatDoorL9
import Derived.Test.YtdkbbknhighebaaGreatDoorL5
import Derived.Test.YtdkbbknhighebaaGreatDoorL2
import Derived.Test.YtdkbbknhighebaaGreatDoorL8
import Derived.Maps.RangeRun
import Derived.Maps.RangeWalk
import Derived.Test.YtdkbbknhighebaaGreatDoorProg
import Derived.DeepKeys4
namespace Go.Proofs.YtdkbbknhighebaaGreatDoor
open Go Go.RowKit


theorem part_results {w : World} {b : Nat} {v0 v1 v2 v3 : Value} {tmps : Array Value} (hc : tmps.getD 4 undef = .pointer (some ⟨b, 0, none⟩)) (hb : Blk w b [v0, v1, v2, v3] 27) :
  (results Tryz.f14 tmps).run Tryz.prog w = .ok (.agg #[v0, v1, v2, v3]) w := by
 have h0 := hb.cell 0 rfl
 have h1 := hb.cell 1 rfl
 have h2 := hb.cell 2 rfl
 have h3 := hb.cell 3 rfl
 simp only [Array.getD_eq_getD_getElem?] at hc
 simp [results, Tryz.results14, go_sem, hc, h0, h1, h2, h3, Result.andThen]

theorem LtsSt.laterP {W c0 o : Nat} {n i : Int} {Ls : List ByteArray} {Es : List Edge} {lv ev : Value} {w0 w w2 : World} (h : LtsSt W c0 o n i Ls Es lv ev w0 w) (hb : Below w.heap.size w w2) (hW : W ≤ w.heap.size) : LtsSt W c0 o n i Ls Es lv ev w0 w2 :=
 ⟨h.res.below hb, h.out.below hb, owns_below h.labels hb, owns_below h.edges hb, h.below.trans (hb.mono hW)⟩

def RetPart (t : Lts) (L : List Int) (w : World) (e : Ending) (w' : World) : Prop :=
 ∃ lv ev, e = .returned (.agg #[.int .i64 (partT t L).states, .int .i64 (partT t L).initial, lv, ev]) ∧ Below w.heap.size w w' ∧ OwnLts w.heap.size w' lv ev (partT t L)

set_option maxRecDepth 100000 in
set_option maxHeartbeats 4000000 in
theorem part_any (lo lo2 : Nat) (t : Lts) (L : List Int) (lv ev sv : Value) (w : World) (hv : Valid t) (_hL : L.length ≤ 1000) (hl : SliceK 1 encS lo w lv t.labels) (he : SliceK 3 encE lo w ev t.edges) (hs : SliceK 1 encI lo2 w sv L) :
  Calls Tryz.prog 14 #[.agg #[.int .i64 t.states, .int .i64 t.initial, lv, ev], sv] w (RetPart t L w) := by
 obtain ⟨l1, l3, rfl, -, -, -⟩ := id hl
 obtain ⟨s1, s3, rfl, -, -, -⟩ := id hs
 have hen3 : t.edges.length ≤ 300 := hv.most
 obtain ⟨ea, ec, rfl, hen, hec, herow⟩ := id he
 obtain ⟨i0, hi, hz0, hz1, hz2⟩ := info_parts info_edge2
 obtain ⟨tb, htb⟩ : ∃ tb, tb = w.heap.size := ⟨_, rfl⟩
 obtain ⟨sb, hsb⟩ : ∃ sb, sb = w.heap.size + 1 := ⟨_, rfl⟩
 obtain ⟨rc, hrc⟩ : ∃ rc, rc = w.heap.size + 1 + 1 := ⟨_, rfl⟩
 obtain ⟨EN, hEN⟩ : ∃ EN, EN = t.edges.length := ⟨_, rfl⟩
 obtain ⟨SN, hSN⟩ : ∃ SN, SN = L.length := ⟨_, rfl⟩
 obtain ⟨LN, hLN⟩ : ∃ LN, LN = t.labels.length := ⟨_, rfl⟩
 rw [← hEN] at hen hen3 he ⊢
 rw [← hSN] at hs _hL ⊢
 rw [← hLN] at hl ⊢
 obtain ⟨W, hW⟩ : ∃ W, W = ((w.alloc (.cells #[.int .i64 t.states, .int .i64 t.initial, .slice l1 LN l3, .slice ea EN ec] 27)).alloc (.cells #[.slice s1 SN s3] 35)).alloc (.cells #[.int .i64 0, .int .i64 0, .slice none 0 0, .slice none 0 0] 27) := ⟨_, rfl⟩
 have hb : Below w.heap.size w W := by rw [hW]; exact (((Below.refl _ _).alloc (Nat.le_refl _) _).alloc (by simp) _).alloc (by simp; omega) _
 have hT : Blk W tb [.int .i64 t.states, .int .i64 t.initial, .slice l1 LN l3, .slice ea EN ec] 27 := by rw [hW, htb]; exact ((Blk.new w _ _).alloc _).alloc _
 have hSB : Blk W sb [.slice s1 SN s3] 35 := by
  have h := (Blk.new (w.alloc (.cells #[.int .i64 t.states, .int .i64 t.initial, .slice l1 LN l3, .slice ea EN ec] 27)) [.slice s1 SN s3] 35).alloc (.cells #[.int .i64 0, .int .i64 0, .slice none 0 0, .slice none 0 0] 27)
  rw [World.size_alloc, ← hsb] at h
  rw [hW]
  exact h
 have hR : Blk W rc [.int .i64 0, .int .i64 0, .slice none 0 0, .slice none 0 0] 27 := by
  have h := Blk.new ((w.alloc (.cells #[.int .i64 t.states, .int .i64 t.initial, .slice l1 LN l3, .slice ea EN ec] 27)).alloc (.cells #[.slice s1 SN s3] 35)) [.int .i64 0, .int .i64 0, .slice none 0 0, .slice none 0 0] 27
  rw [World.size_alloc, World.size_alloc, ← hrc] at h
  rw [hW]
  exact h
 have hle : w.heap.size ≤ rc := by omega
 have hD : Below W.heap.size W W.drew := (Below.refl _ _).drew
 have HPT : Hid (∀ (w' : World) (x : Int), Below W.heap.size W w' → Calls Tryz.prog 34 #[.int .i64 x, .pointer (some ⟨sb, 0, none⟩)] w' fun e w'' => e = .returned (.int .i64 (placeI L x)) ∧ w' = w'') := fun w' x hb' => part1_any lo2 sb _ L x w' ((hSB.below hb').cell 0 rfl) ((by rw [hSN] at hs; rw [hSN]; exact (hs.below hb).below hb'))
 have HCS : Hid (∀ w', Below W.heap.size W w' → Calls Tryz.prog 36 #[.slice l1 LN l3] w' fun e w'' => ∃ v', e = .returned v' ∧ w''.ownsRow w'.heap.size 9 1 v' LN (t.labels.map Value.string) ∧ Below w'.heap.size w' w'') := fun w' hb' => by
  have h := CloneS_own lo (.slice l1 LN l3) t.labels w' ((hl.below hb).below hb') (by have := hv.labels.most; omega)
  rw [← hLN] at h
  exact h
 have HSW : Hid (∀ w', Below W.heap.size W w' → w'.cell? ⟨tb, 1, none⟩ = some (.int .i64 t.initial) ∧ w'.cell? ⟨tb, 2, none⟩ = some (.slice l1 LN l3) ∧ w'.cell? ⟨sb, 0, none⟩ = some (.slice s1 SN s3)) := fun w' hb' =>
  ⟨(hT.below hb').cell 1 rfl, (hT.below hb').cell 2 rfl, (hSB.below hb').cell 0 rfl⟩
 have hD2 : Below W.heap.size W (W.alloc (.cells #[.int .i64 0, .int .i64 0, .slice none 0 0, .slice none 0 0] 27)).drew := ((Below.refl _ _).alloc (Nat.le_refl _) _).drew
 have hO2 : Blk (W.alloc (.cells #[.int .i64 0, .int .i64 0, .slice none 0 0, .slice none 0 0] 27)).drew W.heap.size [.int .i64 0, .int .i64 0, .slice none 0 0, .slice none 0 0] 27 := Blk.new W _ _
 have HO2 := Lib.hid hO2
 have HD2 := Lib.hid hD2
 have HV := Lib.hid hv
 have HER := Lib.hid (herow.below hb)
 have HD := Lib.hid hD
 have HB := Lib.hid hb
 have HT := Lib.hid hT
 have HR := Lib.hid hR
 have HW := Lib.hid hW
 have HTB := Lib.hid htb
 have HSB := Lib.hid hsb
 have HRC := Lib.hid hrc
 have HEN := Lib.hid hEN
 have HSN := Lib.hid hSN
 have HLN := Lib.hid hLN
 have hsW : w.heap.size ≤ W.heap.size := hb.size
 clear hv hl he hs hb hT hSB hR hD hD2 hO2 hW htb hsb hrc hEN hSN hLN herow
 go_enter Tryz.func14, Tryz.ntmps14
 go_upto_region 2 with fail
 rw [← HW.out]
 rw [← HRC.out, ← HSB.out, ← HTB.out]
 go_cut [6] from 12 (fun v6 wx => ∃ (ob : Nat) (l2 : Option Addr) (c2 : Nat), v6 = .pointer (some ⟨ob, 0, none⟩) ∧ W.heap.size ≤ ob ∧ LtsSt W.heap.size rc ob SN (placeI L t.initial) t.labels [] (.slice l2 LN c2) (.slice none 0 0) W wx)
 case first =>
    go_region_held3 (fun w' => w'.cell? ⟨tb, 1, none⟩ = some (.int .i64 t.initial) ∧ w'.cell? ⟨tb, 2, none⟩ = some (.slice l1 LN l3) ∧ w'.cell? ⟨sb, 0, none⟩ = some (.slice s1 SN s3))
   (first
    | exact HSW.out _ HD.out
    | exact HSW.out _ hq1
    | exact HSW.out _ hq2
    | exact HSW.out _ (hq2.alloc hq2.size _)
    | exact HSW.out _ HD2.out
    | exact HSW.out _ (below_put4 hq2 (Nat.le_refl _))
    | go_keep)
   (first
    | (go_at_call 34; refine Calls.mono (HPT.out _ _ HD.out) ?_; rintro e w1 ⟨rfl, rfl⟩)
    | (go_at_call 36; refine Calls.mono (HCS.out _ HD.out) ?_; rintro e w2 ⟨v2, rfl, ho2, hb2⟩; obtain ⟨a2, c2, rfl, -, -⟩ := owns_slice ho2; have hq2 : Below W.heap.size W w2 := HD.out.trans (hb2.mono (by simp)))
    | (go_at_call 34; refine Calls.mono (HPT.out _ _ HD2.out) ?_; rintro e w1 ⟨rfl, rfl⟩)
    | (go_at_call 36; refine Calls.mono (HCS.out _ HD2.out) ?_; rintro e w2 ⟨v2, rfl, ho2, hb2⟩; obtain ⟨a2, c2, rfl, -, -⟩ := owns_slice ho2; have hq2 : Below W.heap.size W w2 := HD2.out.trans (hb2.mono HD2.out.size); have hr2 := HO2.out.below hb2; have r0 := hr2.cell 0 rfl; have r1 := hr2.cell 1 rfl; have r2 := hr2.cell 2 rfl; have r3 := hr2.cell 3 rfl; have s0 := hr2.frozen 0; have s1 := hr2.frozen 1; have s2 := hr2.frozen 2; have s3 := hr2.frozen 3)
    | fail)
    all_goals (
   go_wp2_with fail
   go_meet
   first
    | exact ⟨_, _, _, rfl, hq2.size, (HR.out.below hq2).alloc _, Blk.new w2 _ _, owns_below (by rw [← HLN.out]; exact own_lower ho2 (by simp)) ((Below.refl _ _).alloc (Nat.le_refl _) _), World.ownsRow_nil _ _ _ _, hq2.alloc hq2.size _⟩
    | exact ⟨_, _, _, rfl, Nat.le_refl _, blk_put4 (HR.out.below hq2) (Nat.ne_of_lt HR.out.lt), put4 hr2, own_put4 hr2 (by rw [← HLN.out]; exact own_lower ho2 (by simp)) (by decide), World.ownsRow_nil _ _ _ _, below_put4 hq2 (Nat.le_refl _)⟩)
 case rest =>
  clear HD HD2 HO2 HCS
  obtain ⟨ob, l2, c2, rfl, hob, hst⟩ := hcut
  have HST := Lib.hid hst
  have hrl := HR.out.lt
  have hne : rc ≠ ob := by omega
  have htl := HT.out.lt
  have t3 := (HT.out.belowB hst.below htl).cell 3 rfl
  clear hst
  go_wp2_with fail
  go_loopw [25] (fun v25 wr => ∃ (k : Nat) (ev : Value), k ≤ EN ∧ v25 = .int .i64 k ∧ LtsSt W.heap.size rc ob SN (placeI L t.initial) t.labels (prtL L (t.edges.take k)) (.slice l2 LN c2) ev W wr) (fun v25 _ => EN - (intOf v25).toNat)
  case atStart => exact ⟨0, _, Nat.zero_le _, rfl, HST.out⟩
  case round =>
   clear HST t3
   obtain ⟨k, ev, hk, rfl, hst⟩ := hrel
   obtain ⟨wC, rfl⟩ : ∃ wC : World, wC = wr := ⟨_, rfl⟩
   have HS := Lib.hid hst
   have hsz : W.heap.size ≤ wC.heap.size := hst.below.size
   obtain ⟨ae, ce, rfl, -, -⟩ := owns_slice hst.edges
   by_cases hlt : k < EN
   ·have hkE : k < t.edges.length := by rw [← HEN.out]; exact hlt
    obtain ⟨be, oe, rfl, -, hbe, e1, e2, e3⟩ := (HER.out.below hst.below).edge hkE
    have hno := prtL_no (L := L) hkE
    have hyes := prtL_yes (L := L) hkE
    obtain ⟨x, hx⟩ : ∃ x, x = t.edges[k] := ⟨_, rfl⟩
    rw [← hx] at e1 e2 e3 hno hyes
    obtain ⟨p, hp⟩ : ∃ p, p = placeI L x.src := ⟨_, rfl⟩
    obtain ⟨q, hq⟩ : ∃ q, q = placeI L x.dst := ⟨_, rfl⟩
    rw [← hp, ← hq] at hno hyes
    have HNO := Lib.hid hno
    have HYES := Lib.hid hyes
    obtain ⟨Es, hEs⟩ : ∃ Es, Es = prtL L (t.edges.take k) := ⟨_, rfl⟩
    obtain ⟨F, hF⟩ : ∃ F, F = Es.length := ⟨_, rfl⟩
    have hFl : F ≤ k := by rw [hF, hEs]; exact Nat.le_trans (List.length_filterMap_le _ _) (List.length_take_le _ _)
    rw [← hEs] at HS hst HNO HYES
    rw [← hF] at HS hst
    have HFE := Lib.hid hF
    obtain ⟨W2, hW2⟩ : ∃ W2, W2 = wC.alloc (.cells #[.int .i64 x.src, .int .i64 x.lab, .int .i64 x.dst] 47) := ⟨_, rfl⟩
    obtain ⟨eb, heb⟩ : ∃ eb, eb = wC.heap.size := ⟨_, rfl⟩
    have hb2 : Below wC.heap.size wC W2 := by rw [hW2]; exact (Below.refl _ _).alloc (Nat.le_refl _) _
    have hE : Blk W2 eb [.int .i64 x.src, .int .i64 x.lab, .int .i64 x.dst] 47 := by rw [hW2, heb]; exact Blk.new wC _ _
    have g0 := later_cell hE.lt (hE.cell 0 rfl)
    have g2 := later_cell hE.lt (hE.cell 2 rfl)
    have HP2 : Hid (∀ (g : Later W2) (y : Int), Calls Tryz.prog 34 #[.int .i64 y, .pointer (some ⟨sb, 0, none⟩)] g.w fun e w'' => e = .returned (.int .i64 (placeI L y)) ∧ g.w = w'') := fun g y => HPT.out g.w y (hst.below.trans ((hb2.trans (g.h.mono hb2.size)).mono hsz))
    have HE := Lib.hid hE
    have HB2 := Lib.hid hb2
    have HW2 := Lib.hid hW2
    have HEB := Lib.hid heb
    have HPE := Lib.hid hp
    have HQE := Lib.hid hq
    clear hno hyes hx hp hq hEs hF hW2 heb hb2 hE hst
    go_wp2_with fail
    rw [← HW2.out]
    try rw [← HEB.out]
    refine wp_region_later (by kernel_rfl) (by kernel_rfl) ?_
    repeat (go_big_quiet_step (((go_at_call 34; exact later_same (HP2.out _ _)))))
    refine wpQuiet_nil ?_
    intro _ hw9
    obtain ⟨nl, hw8⟩ := hw9
    subst hw8
    obtain ⟨w6, hw6⟩ : ∃ w6, w6 = nl.w := ⟨_, rfl⟩
    have hb6 : Below wC.heap.size wC w6 := by rw [hw6]; exact HB2.out.trans (nl.h.mono HB2.out.size)
    have hE6 : Blk w6 eb [.int .i64 x.src, .int .i64 x.lab, .int .i64 x.dst] 47 := by rw [hw6]; exact HE.out.below nl.h
    rw [← hw6, ← HPE.out, ← HQE.out]
    have HS6 := Lib.hid (HS.out.laterP hb6 hsz)
    have HB6 := Lib.hid hb6
    have x1 := hE6.cell 1 rfl
    have hs6 : W.heap.size ≤ w6.heap.size := Nat.le_trans hsz hb6.size
    clear hb6 hE6 hw6 nl g0 g2 e1 e2 e3
    by_cases hp0 : 0 ≤ p
    ·by_cases hq0 : 0 ≤ q
     ·have HT := Lib.hid (HYES.out ⟨hp0, hq0⟩)
      have HO6 : Hid (w6.ownsRow W.heap.size 47 3 (.slice ae F ce) F (Es.flatMap encE)) := by
       have h := HS6.out.edges
       rw [← HFE.out] at h
       exact h
      have o3 := HS6.out.out.cell 3 rfl
      have hol := HS6.out.out.lt
      go_wp2_with (at_builtin; refine wpList_append_own _ rfl _ _ 25 rfl W.heap.size 47 i0 (.agg #[.int .i64 0, .int .i64 0, .int .i64 0]) 3 24 Tryz.underlying25 hi hz0 hz1 hz2 rfl (by decide) _ _ _ rfl (HO6.out.alloc _) ⟨w6.heap.size, 0, none⟩ 1 1 (encE ⟨p, x.lab, q⟩) rfl rfl ?c1 ?c2 ?c3 ?c4 ?c5 ?_)
      case c1 => have := three_new w6 ⟨p, x.lab, q⟩ 47; simpa using this
      case c2 => exact encE_one _
      case c3 => simp [maxLen]; omega
      case c4 => omega
      case c5 => simp; omega
      intro v' w4 ho4 hg4 _
      have hal : Below w6.heap.size w6 (w6.alloc (.cells #[.int .i64 p, .int .i64 x.lab, .int .i64 q] 47)) := (Below.refl _ _).alloc (Nat.le_refl _) _
      have HP4 : Hid (LtsSt W.heap.size rc ob SN (placeI L t.initial) t.labels (Es ++ [⟨p, x.lab, q⟩]) (.slice l2 LN c2) v' W (w4.setCell ⟨ob, 3, none⟩ v')) := HS.out.push hne hsz hob (HB6.out.trans (hal.mono HB6.out.size)) hg4 (by rw [← HFE.out]; exact ho4)
      have hot := own_type_ne (owns_below HO6.out hal) (HS6.out.out.below hal) (by decide)
      have HO4 : Hid (Blk w4 ob [.int .i64 SN, .int .i64 (placeI L t.initial), .slice l2 LN c2, .slice ae F ce] 27) := (hg4.block ob (HS6.out.out.below hal).lt (by rcases hot with h | h <;> intro e <;> rw [← e] at h <;> simp at h)).trans (HS6.out.out.below hal)
      obtain ⟨p4, c4, rfl, -, -⟩ := owns_slice ho4
      have o34 := HO4.out.cell 3 rfl
      have o35 := HO4.out.frozen 3
      clear ho4 hg4 hal hot x1 o3
      go_wp2
      go_roundw
      case rel => exact ⟨k + 1, _, by omega, by go_num, by rw [HT.out]; exact HP4.out⟩
      case measure => simp [intOf]; omega
     ·have HT := Lib.hid (HNO.out fun h => hq0 h.2)
      go_wp2
      go_roundw
      case rel => exact ⟨k + 1, _, by omega, by go_num, by rw [HT.out]; exact HS6.out⟩
      case measure => simp [intOf]; omega
    ·have HT := Lib.hid (HNO.out fun h => hp0 h.1)
     go_wp2
     go_roundw
     case rel => exact ⟨k + 1, _, by omega, by go_num, by rw [HT.out]; exact HS6.out⟩
     case measure => simp [intOf]; omega
   ·have hkE : k = EN := by omega
    obtain ⟨Es, hEs⟩ : ∃ Es, Es = prtL L (t.edges.take k) := ⟨_, rfl⟩
    rw [← hEs] at HS hst
    have hEs2 : Es = prtL L t.edges := by rw [hEs, hkE, HEN.out, List.take_length]
    have HES := Lib.hid hEs2
    have hEl : Es.length ≤ 300 := by rw [hEs2]; exact Nat.le_trans (List.length_filterMap_le _ _) (by rw [← HEN.out]; exact hen3)
    have HSO := Lib.hid (SortEs_own W.heap.size _ Es wC hst.edges (by omega))
    have HED := Lib.hid hst.edges
    have o3 := hst.out.cell 3 rfl
    clear hEs hEs2 hst
    go_wp2_with fail
    refine Calls.mono HSO.out ?_
    rintro e w5 ⟨rfl, ho5, hg5⟩
    have hX5 : Blk w5 ob _ _ := (hg5.block ob HS.out.out.lt (blk_own_neL HS.out.out HED.out (by decide))).trans HS.out.out
    have hR5 : Blk w5 rc _ _ := (hg5.block rc HS.out.res.lt (blk_own_neL HS.out.res HED.out (by decide))).trans HS.out.res
    have hL5 := HS.out.labels.kept hg5 (own_types HS.out.labels HED.out (by decide))
    have HB5 : Hid (Below w.heap.size w w5) := HB.out.trans ((HS.out.below.grown hg5 hsz (fun b e => (HED.out.lt b e).1)).mono hsW)
    have q0 := hX5.cell 0 rfl
    have q1 := hX5.cell 1 rfl
    have q2 := hX5.cell 2 rfl
    have q3 := hX5.cell 3 rfl
    have r0 := hR5.cell 0 rfl
    have r1 := hR5.cell 1 rfl
    have r2 := hR5.cell 2 rfl
    have r3 := hR5.cell 3 rfl
    have s0 := hR5.frozen 0
    have s1 := hR5.frozen 1
    have s2 := hR5.frozen 2
    have s3 := hR5.frozen 3
    have HR5 := Lib.hid hR5
    have HL5 := Lib.hid (own_lower hL5 hsW)
    have HE5 := Lib.hid (own_lower ho5 hsW)
    clear hX5 hR5 hL5 ho5 hg5 o3 HSO
    go_wp2
    refine bodyPost_ret (part_results rfl (put4 HR5.out)) rfl ?_
    have hsl : (partT t L).edges = sortEs Es := by rw [HES.out]; rfl
    refine ⟨_, _, by rw [HSN.out]; rfl, below_put4 HB5.out hle, ?_, ?_⟩
    ·exact own_put4 HR5.out HL5.out (by decide)
    ·rw [hsl, sortEs_len]
     exact own_put4 HR5.out HE5.out (by decide)

end Go.Proofs.YtdkbbknhighebaaGreatDoor

namespace Go.Proofs.YtdkbbknhighebaaGreatDoor
open Go Go.RowKit


/-- An edge to v by a label is answered from y. -/
def strongB (b : Lts) (N : PairSet) (y : Int) (l : ByteArray) (v : Int) : Bool := (followL b [y] l).any fun w => N v w
theorem strongB_eq (b : Lts) (N : PairSet) (y : Int) (l : ByteArray) (v : Int) : strongB b N y l v = b.edges.any fun f => f.src == y && ((labAt b f).toList == l.toList) && N v f.dst := by
 unfold strongB
 rw [Bool.eq_iff_iff, List.any_eq_true, List.any_eq_true]
 have hm := (sort_compact_is (followR b [y] l)).mem
 constructor
 ·rintro ⟨w, hw, hn⟩
  obtain ⟨f, hf, h1, h2, h3⟩ := mem_followR.1 ((hm w).1 hw)
  refine ⟨f, hf, ?_⟩
  rw [List.mem_singleton] at h1
  rw [h1, h2, h3, hn]
  simp
 ·rintro ⟨f, hf, hb⟩
  rw [Bool.and_eq_true, Bool.and_eq_true] at hb
  obtain ⟨⟨h1, h2⟩, h3⟩ := hb
  refine ⟨f.dst, (hm _).2 (mem_followR.2 ⟨f, hf, ?_, ?_, rfl⟩), h3⟩
  ·rw [List.mem_singleton]; exact eq_of_beq h1
  ·exact eq_of_beq h2
theorem answered_eq (a b : Lts) (N : PairSet) (x y : Int) : ((outOf a x).all fun e => strongB b N y (labAt a e) e.dst) = ansG a b N x y := by
 unfold ansG outOf
 rw [List.all_filter]
 congr 1
 funext e
 rw [strongB_eq]

end Go.Proofs.YtdkbbknhighebaaGreatDoor

namespace Go.Proofs.YtdkbbknhighebaaGreatDoor
open Go Go.RowKit


def setOf (ps : List (Int × Int)) : PairSet := fun x y => decide ((x, y) ∈ ps)
theorem setOf_iff {ps : List (Int × Int)} {x y : Int} : setOf ps x y = true ↔ (x, y) ∈ ps := by unfold setOf; rw [decide_eq_true_eq]
theorem nodup_sub_len {α : Type} [BEq α] [LawfulBEq α] : ∀ {a b : List α}, a.Nodup → (∀ x ∈ a, x ∈ b) → a.length ≤ b.length
 | [], b, _, _ => Nat.zero_le _
 | x :: a, b, hd, hs => by
  rw [List.nodup_cons] at hd
  have h1 : x ∈ b := hs x (by simp)
  have h2 := nodup_sub_len (a := a) (b := b.erase x) hd.2 (fun y hy => by
   have : y ≠ x := fun e => hd.1 (e ▸ hy)
   exact (List.mem_erase_of_ne this).2 (hs y (by simp [hy])))
  have h3 := List.length_erase_of_mem h1
  have h4 := List.length_pos_of_mem h1
  simp only [List.length_cons]
  omega
/-- All pairs with a first number below x, .. and the second ones of a row. -/
def prow (x y : Nat) : List (Int × Int) := (List.range y).map fun (j : Nat) => ((x : Int), (j : Int))
def pall (P x : Nat) : List (Int × Int) := (List.range x).flatMap fun i => prow i P
theorem prow_succ (x y : Nat) : prow x (y + 1) = prow x y ++ [((x : Int), (y : Int))] := by unfold prow; rw [List.range_succ, List.map_append]; rfl
theorem pall_succ (P x : Nat) : pall P (x + 1) = pall P x ++ prow x P := by unfold pall; rw [List.range_succ, List.flatMap_append]; simp
theorem mem_prow {x y : Nat} {q : Int × Int} : q ∈ prow x y ↔ q.1 = x ∧ 0 ≤ q.2 ∧ q.2 < y := by
 unfold prow
 rw [List.mem_map]
 constructor
 ·rintro ⟨j, hj, rfl⟩
  have := List.mem_range.1 hj
  exact ⟨rfl, by show (0 : Int) ≤ (j : Int); omega, by show (j : Int) < y; omega⟩
 ·rintro ⟨h1, h2, h3⟩
  refine ⟨q.2.toNat, List.mem_range.2 (by omega), ?_⟩
  obtain ⟨u, v⟩ := q
  simp only at h1 h2 h3
  rw [h1, show ((v.toNat : Nat) : Int) = v from by omega]
theorem mem_pall {P x : Nat} {q : Int × Int} : q ∈ pall P x ↔ (0 ≤ q.1 ∧ q.1 < x) ∧ 0 ≤ q.2 ∧ q.2 < P := by
 unfold pall
 rw [List.mem_flatMap]
 constructor
 ·rintro ⟨i, hi, hq⟩
  have := List.mem_range.1 hi
  rw [mem_prow] at hq
  omega
 ·rintro ⟨⟨h1, h2⟩, h3⟩
  exact ⟨q.1.toNat, List.mem_range.2 (by omega), mem_prow.2 ⟨by omega, h3⟩⟩
theorem pall_len (P x : Nat) : (pall P x).length = x * P := by
 induction x with
 | zero => simp [pall]
 | succ x ih => rw [pall_succ, List.length_append, ih]; unfold prow; rw [List.length_map, List.length_range, Nat.succ_mul]
theorem setOf_all {a b : Lts} {S P : Nat} (hS : (S : Int) = a.states) (hP : (P : Int) = b.states) : setOf (pall P S) = allG a b := by
 funext x y
 rw [Bool.eq_iff_iff, setOf_iff, mem_pall, allG_iff, hS, hP]

end Go.Proofs.YtdkbbknhighebaaGreatDoor

namespace Go.Proofs.YtdkbbknhighebaaGreatDoor
open Go Go.RowKit


/-- A test of pairs, within a set of pairs. -/
abbrev PairAsk := PairSet → Int → Int → Bool
def MonoA (A : PairAsk) : Prop := ∀ N M : PairSet, (∀ x y, N x y = true → M x y = true) → ∀ x y, A N x y = true → A M x y = true
structure GreatA (A : PairAsk) (st N : PairSet) : Prop where
 low : ∀ x y, N x y = true → st x y = true
 ans : ∀ x y, N x y = true → A N x y = true
 all : ∀ M : PairSet, (∀ x y, M x y = true → st x y = true) → (∀ x y, M x y = true → A M x y = true) → ∀ x y, M x y = true → N x y = true
theorem GreatA.great {a b : Lts} {st N : PairSet} (h : GreatA (ansG a b) st N) : Great a b st N := ⟨⟨h.low, h.ans⟩, fun M hM => h.all M hM.low hM.ans⟩
theorem ansG_monoA (a b : Lts) : MonoA (ansG a b) := fun _ _ h _ _ hn => ansG_mono h hn
structure AboveA (A : PairAsk) (st N : PairSet) : Prop where
 low : ∀ x y, N x y = true → st x y = true
 all : ∀ M : PairSet, (∀ x y, M x y = true → st x y = true) → (∀ x y, M x y = true → A M x y = true) → ∀ x y, M x y = true → N x y = true
theorem AboveA.start (A : PairAsk) (st : PairSet) : AboveA A st st := ⟨fun _ _ h => h, fun _ hl _ x y h => hl x y h⟩

/-- What a round keeps. -/
def KeptA (A : PairAsk) (ps qs : List (Int × Int)) : Prop := ∀ q, q ∈ qs ↔ q ∈ ps ∧ A (setOf ps) q.1 q.2 = true
theorem KeptA.next {A : PairAsk} (hA : MonoA A) {st : PairSet} {ps qs : List (Int × Int)} (h : KeptA A ps qs) (ha : AboveA A st (setOf ps)) : AboveA A st (setOf qs) := by
 refine ⟨fun x y hn => ?_, fun M hl hm x y hxy => ?_⟩
 ·exact ha.low x y (setOf_iff.2 ((h (x, y)).1 (setOf_iff.1 hn)).1)
 ·have h1 := ha.all M hl hm
  exact setOf_iff.2 ((h (x, y)).2 ⟨setOf_iff.1 (h1 x y hxy), hA M _ h1 x y (hm x y hxy)⟩)
theorem KeptA.len {A : PairAsk} {ps qs : List (Int × Int)} (h : KeptA A ps qs) (hq : qs.Nodup) : qs.length ≤ ps.length := nodup_sub_len hq (fun x hx => ((h x).1 hx).1)
theorem KeptA.done {A : PairAsk} {st : PairSet} {ps qs : List (Int × Int)} (h : KeptA A ps qs) (hq : qs.Nodup) (ha : AboveA A st (setOf ps)) (hl : qs.length = ps.length) : GreatA A st (setOf ps) := by
 refine ⟨ha.low, fun x y hn => ?_, ha.all⟩
 have hm := setOf_iff.1 hn
 apply Classical.byContradiction
 intro hn2
 have hnq : (x, y) ∉ qs := fun hc => hn2 ((h (x, y)).1 hc).2
 have h1 := nodup_sub_len (a := (x, y) :: qs) (b := ps) (by rw [List.nodup_cons]; exact ⟨hnq, hq⟩) (fun z hz => by
  rcases List.mem_cons.1 hz with rfl | hz
  ·exact hm
  ·exact ((h z).1 hz).1)
 simp only [List.length_cons] at h1
 omega

/-- In the midst of a round: of the pairs handed out, those that pass the test are kept. -/
structure KeptSo (T : Int × Int → Bool) (ps qs : List (Int × Int)) (seen : Array Nat) : Prop where
 nodup : seen.toList.Nodup
 less : ∀ i ∈ seen, i < ps.length
 kept : ∀ q, q ∈ qs ↔ (∃ i, ∃ h : i < ps.length, i ∈ seen ∧ ps[i] = q) ∧ T q = true
theorem KeptSo.start (T : Int × Int → Bool) (ps : List (Int × Int)) : KeptSo T ps [] #[] := ⟨by simp, fun i h => by simp at h, fun q => by simp⟩
theorem KeptSo.size {T : Int × Int → Bool} {ps qs : List (Int × Int)} {seen : Array Nat} (h : KeptSo T ps qs seen) : seen.size ≤ ps.length := by
 have := nodup_sub_len (a := seen.toList) (b := List.range ps.length) h.nodup (fun i hi => List.mem_range.2 (h.less i (by simpa using hi)))
 simpa using this
theorem KeptSo.fresh {T : Int × Int → Bool} {ps qs : List (Int × Int)} {seen : Array Nat} (h : KeptSo T ps qs seen) (hd : ps.Nodup) {i : Nat} (hi : i < ps.length) (hn : i ∉ seen) : ps[i] ∉ qs := by
 intro hc
 obtain ⟨⟨j, hj, hjs, e⟩, -⟩ := (h.kept _).1 hc
 have := nodup_get hd hj hi e
 subst this
 exact hn hjs
theorem KeptSo.seenPush {T : Int × Int → Bool} {ps qs : List (Int × Int)} {seen : Array Nat} (h : KeptSo T ps qs seen) {i : Nat} (hi : i < ps.length) (hn : i ∉ seen) : (seen.push i).toList.Nodup ∧ ∀ j ∈ seen.push i, j < ps.length := by
 constructor
 ·rw [Array.toList_push, List.nodup_append]
  refine ⟨h.nodup, by simp, ?_⟩
  intro a ha b hb e
  rw [List.mem_singleton] at hb
  subst hb
  subst e
  exact hn (by simpa using ha)
 ·intro j hj
  rw [Array.mem_push] at hj
  rcases hj with hj | rfl
  ·exact h.less j hj
  ·exact hi
theorem KeptSo.yes {T : Int × Int → Bool} {ps qs : List (Int × Int)} {seen : Array Nat} (h : KeptSo T ps qs seen) {i : Nat} (hi : i < ps.length) (hn : i ∉ seen) (hT : T ps[i] = true) : KeptSo T ps (qs ++ [ps[i]]) (seen.push i) := by
 obtain ⟨h1, h2⟩ := h.seenPush hi hn
 refine ⟨h1, h2, fun q => ?_⟩
 rw [List.mem_append, List.mem_singleton, h.kept q]
 constructor
 ·rintro (⟨⟨j, hj, hjs, e⟩, ht⟩ | rfl)
  ·exact ⟨⟨j, hj, Array.mem_push_of_mem _ hjs, e⟩, ht⟩
  ·exact ⟨⟨i, hi, Array.mem_push_self, rfl⟩, hT⟩
 ·rintro ⟨⟨j, hj, hjs, e⟩, ht⟩
  rw [Array.mem_push] at hjs
  rcases hjs with hjs | rfl
  ·exact .inl ⟨⟨j, hj, hjs, e⟩, ht⟩
  ·exact .inr e.symm
theorem KeptSo.no {T : Int × Int → Bool} {ps qs : List (Int × Int)} {seen : Array Nat} (h : KeptSo T ps qs seen) {i : Nat} (hi : i < ps.length) (hn : i ∉ seen) (hT : T ps[i] = false) : KeptSo T ps qs (seen.push i) := by
 obtain ⟨h1, h2⟩ := h.seenPush hi hn
 refine ⟨h1, h2, fun q => ?_⟩
 rw [h.kept q]
 constructor
 ·rintro ⟨⟨j, hj, hjs, e⟩, ht⟩
  exact ⟨⟨j, hj, Array.mem_push_of_mem _ hjs, e⟩, ht⟩
 ·rintro ⟨⟨j, hj, hjs, e⟩, ht⟩
  rw [Array.mem_push] at hjs
  rcases hjs with hjs | rfl
  ·exact ⟨⟨j, hj, hjs, e⟩, ht⟩
  ·rw [← e, hT] at ht; cases ht
theorem KeptSo.all {T : Int × Int → Bool} {ps qs : List (Int × Int)} {seen : Array Nat} (h : KeptSo T ps qs seen) (hs : ∀ i, i < ps.length → i ∈ seen) : ∀ q, q ∈ qs ↔ q ∈ ps ∧ T q = true := by
 intro q
 rw [h.kept q]
 constructor
 ·rintro ⟨⟨j, hj, -, e⟩, ht⟩
  exact ⟨e ▸ List.getElem_mem hj, ht⟩
 ·rintro ⟨hm, ht⟩
  obtain ⟨j, hj, e⟩ := List.mem_iff_getElem.1 hm
  exact ⟨⟨j, hj, hs j hj, e⟩, ht⟩
theorem KeptSo.yesAt {T : Int × Int → Bool} {ps qs : List (Int × Int)} {seen : Array Nat} (h : KeptSo T ps qs seen) {i : Nat} (hi : i < ps.length) (hn : i ∉ seen) {q : Int × Int} (hq : ps[i] = q) (hT : T q = true) : KeptSo T ps (qs ++ [q]) (seen.push i) := by
 have := h.yes hi hn (by rw [hq]; exact hT)
 rwa [hq] at this
theorem KeptSo.noAt {T : Int × Int → Bool} {ps qs : List (Int × Int)} {seen : Array Nat} (h : KeptSo T ps qs seen) {i : Nat} (hi : i < ps.length) (hn : i ∉ seen) {q : Int × Int} (hq : ps[i] = q) (hT : T q = false) : KeptSo T ps qs (seen.push i) := h.no hi hn (by rw [hq]; exact hT)
theorem KeptSo.freshAt {T : Int × Int → Bool} {ps qs : List (Int × Int)} {seen : Array Nat} (h : KeptSo T ps qs seen) (hd : ps.Nodup) {i : Nat} (hi : i < ps.length) (hn : i ∉ seen) {q : Int × Int} (hq : ps[i] = q) : q ∉ qs := by
 rw [← hq]
 exact h.fresh hd hi hn
theorem KeptSo.few {T : Int × Int → Bool} {ps qs : List (Int × Int)} {seen : Array Nat} (h : KeptSo T ps qs seen) (hq : qs.Nodup) : qs.length ≤ ps.length := nodup_sub_len hq (fun q hm => by
 obtain ⟨⟨i, hi, -, e⟩, -⟩ := (h.kept q).1 hm
 exact e ▸ List.getElem_mem hi)
theorem KeptSo.push_size {T : Int × Int → Bool} {ps qs : List (Int × Int)} {seen : Array Nat} {i : Nat} (h : KeptSo T ps qs (seen.push i)) : seen.size + 1 ≤ ps.length := by
 have := h.size
 simpa using this

end Go.Proofs.YtdkbbknhighebaaGreatDoor

namespace Go.Proofs.YtdkbbknhighebaaGreatDoor
open Go Go.RowKit Go.ChangeMaps Go.MapKept
open Go.Maps (Keyed)

def entG (ks : List Value) : Array MapEntry := (ks.mapIdx fun i k => (⟨k, .bool true, i⟩ : MapEntry)).toArray
/-- The block of a map that holds the keys, each with true. -/
def SetMap (w : World) (b : Nat) (ks : List Value) : Prop := w.heap[b]? = some (.map (entG ks) ks.length)
theorem SetMap.made (w : World) : SetMap (w.alloc (.map #[] 0)) w.heap.size [] := (MapKept.heap_alloc w _).1
theorem SetMap.lt {w : World} {b : Nat} {ks : List Value} (h : SetMap w b ks) : b < w.heap.size := (Array.getElem?_eq_some_iff.1 h).1
theorem SetMap.kept {w w' : World} {b : Nat} {ks : List Value} {row : Option Nat} (h : SetMap w b ks) (hg : w.grownBy w' row) (hne : some b ≠ row) : SetMap w' b ks := (hg.block b h.lt hne).trans h
theorem SetMap.below {w w' : World} {b : Nat} {ks : List Value} (h : SetMap w b ks) (hb : Below w.heap.size w w') : SetMap w' b ks := (hb.block b h.lt).trans h
theorem entG_key {ks : List Value} {e : MapEntry} (h : e ∈ (entG ks).toList) : ∃ i, ∃ hi : i < ks.length, e = ⟨ks[i], .bool true, i⟩ := by
 unfold entG at h
 simp only [List.mem_mapIdx] at h
 obtain ⟨i, hi, rfl⟩ := h
 exact ⟨i, hi, rfl⟩
theorem entG_mem {ks : List Value} {e : MapEntry} (h : e ∈ (entG ks).toList) : e.key ∈ ks := by
 obtain ⟨i, hi, rfl⟩ := entG_key h
 exact List.getElem_mem hi
theorem entG_size (ks : List Value) : (entG ks).size = ks.length := by unfold entG; simp
theorem entG_push (ks : List Value) (key : Value) : entG (ks ++ [key]) = (entG ks).push ⟨key, .bool true, ks.length⟩ := by
 unfold entG
 rw [List.mapIdx_append]
 simp

section
variable {P : Program} {k t e : TypeId} {w : World} {b : Nat} {ks : List Value}

theorem SetMap.found (h : SetMap w b ks) (K : Keyed P k) (ht : P.underlying t = some (.map k e)) (hks : ∀ v ∈ ks, ∃ l, keyOf P k v = some l) {key : Value} (hk : key ∈ ks) :
  (Instr.lookup t (.map (some b)) key false).run P w = .ok (.bool true) w := by
 obtain ⟨kl, hkey⟩ := hks _ hk
 rcases K.find w hkey (entG ks).toList (fun x hx => hks _ (entG_mem hx)) with ⟨_, h2⟩ | ⟨j, e0, h1, h2, h3⟩
 ·exfalso
  obtain ⟨i, hi, rfl⟩ := List.mem_iff_getElem.1 hk
  refine h2 ⟨ks[i], .bool true, i⟩ ?_ rfl
  unfold entG
  simp only [List.mem_mapIdx]
  exact ⟨i, hi, rfl⟩
 ·obtain ⟨i, hi, rfl⟩ := entG_key (List.mem_of_getElem? h2)
  have hb : w.heap[b]? = some (.map (entG ks) ks.length) := h
  simp [Instr.lookup, run_underlying ht, MapKept.run_getObj_map hb, K.check w _ hkey, h1, Result.andThen]

theorem SetMap.missing (h : SetMap w b ks) (K : Keyed P k) (ht : P.underlying t = some (.map k e)) (hks : ∀ v ∈ ks, ∃ l, keyOf P k v = some l) (hz : (zeroValue e).run P w = .ok (.bool false) w) {key : Value} {kl : Lit} (hkey : keyOf P k key = some kl) (hn : key ∉ ks) :
  (Instr.lookup t (.map (some b)) key false).run P w = .ok (.bool false) w := by
 rcases K.find w hkey (entG ks).toList (fun x hx => hks _ (entG_mem hx)) with ⟨h1, _⟩ | ⟨j, e0, _, h2, h3⟩
 ·have hb : w.heap[b]? = some (.map (entG ks) ks.length) := h
  simp [Instr.lookup, run_underlying ht, MapKept.run_getObj_map hb, K.check w _ hkey, h1, hz, Result.andThen]
 ·exact absurd (h3 ▸ entG_mem (List.mem_of_getElem? h2)) hn

theorem SetMap.store (h : SetMap w b ks) (K : Keyed P k) (ht : P.underlying t = some (.map k e)) (hks : ∀ v ∈ ks, ∃ l, keyOf P k v = some l) {key : Value} {kl : Lit} (hkey : keyOf P k key = some kl) (hn : key ∉ ks) (hroom : ks.length < maxLen) :
  ∃ w', (Instr.mapUpdate t (.map (some b)) key (.bool true)).run P w = .ok () w' ∧ SetMap w' b (ks ++ [key]) ∧ w.grownBy w' (some b) := by
 have hb : w.heap[b]? = some (.map (entG ks) ks.length) := h
 rcases K.find w hkey (entG ks).toList (fun x hx => hks _ (entG_mem hx)) with ⟨h1, _⟩ | ⟨j, e0, _, h2, h3⟩
 ·refine ⟨setBlock w b (.map ((entG ks).push ⟨key, .bool true, ks.length⟩) (ks.length + 1)), ?_, ?_, ?_⟩
  ·have hr : ks.length < 9223372036854775807 := hroom
   simp [Instr.mapUpdate, run_underlying ht, MapKept.run_getObj_map hb, K.check w false hkey, h1, MapKept.run_setObj_map _ hb, Result.andThen, setBlock]
  ·unfold SetMap
   rw [entG_push, List.length_append, List.length_singleton]
   exact heap_setBlock_same hb _
  ·exact ⟨rfl, rfl, rfl, by simp [setBlock], fun i _ hi => heap_setBlock_other hb _ (fun e => hi (by rw [e]))⟩
 ·exact absurd (h3 ▸ entG_mem (List.mem_of_getElem? h2)) hn

theorem setB_same {r : Nat} {o : Obj} (h : r < w.heap.size) : (setBlock w r o).heap[r]? = some o := by simp [setBlock, h]
theorem setB_other {r i : Nat} {o : Obj} (h : i ≠ r) : (setBlock w r o).heap[i]? = w.heap[i]? := by
 show (w.heap.setIfInBounds r o)[i]? = _
 rw [Array.getElem?_setIfInBounds_ne (Ne.symm h)]
/-- An iterator over a set: the places handed out so far. -/
def IterG (w : World) (r b n : Nat) (seen : Array Nat) : Prop := w.heap[r]? = some (.mapIter (some b) n seen n)
theorem SetMap.range (h : SetMap w b ks) (ht : P.underlying t = some (.map k e)) :
  (Instr.range t (.map (some b))).run P w = .ok (.pointer (some ⟨w.heap.size, 0, none⟩)) (w.alloc (.mapIter (some b) ks.length #[] ks.length)) := run_range_map w t k e b (entG ks) ks.length ht h
theorem IterG.start (w : World) (b n : Nat) : IterG (w.alloc (.mapIter (some b) n #[] n)) w.heap.size b n #[] := heap_alloc_new w _
theorem IterG.lt {r n : Nat} {seen : Array Nat} (h : IterG w r b n seen) : r < w.heap.size := (Array.getElem?_eq_some_iff.1 h).1
theorem IterG.below {w' : World} {r n : Nat} {seen : Array Nat} (h : IterG w r b n seen) (hb : Below w.heap.size w w') : IterG w' r b n seen := (hb.block r h.lt).trans h
theorem IterG.kept {w' : World} {r n : Nat} {seen : Array Nat} {row : Option Nat} (h : IterG w r b n seen) (hg : w.grownBy w' row) (hne : some r ≠ row) : IterG w' r b n seen := (hg.block r h.lt hne).trans h
theorem leftG {ks : List Value} {seen : Array Nat} {x : MapEntry} (h : x ∈ (leftOf (entG ks) seen).toList) : ∃ i, ∃ hi : i < ks.length, x = ⟨ks[i], .bool true, i⟩ ∧ i ∉ seen := by
 unfold leftOf at h
 simp only [Array.toList_filter, List.mem_filter] at h
 obtain ⟨h1, h2⟩ := h
 obtain ⟨i, hi, rfl⟩ := entG_key h1
 exact ⟨i, hi, rfl, by simpa using h2⟩
theorem left_none {ks : List Value} {seen : Array Nat} (h : (leftOf (entG ks) seen).size = 0) : ∀ i, i < ks.length → i ∈ seen := by
 intro i hi
 apply Classical.byContradiction
 intro hn
 have he : leftOf (entG ks) seen = #[] := Array.eq_empty_of_size_eq_zero h
 have hm : (⟨ks[i], .bool true, i⟩ : MapEntry) ∈ leftOf (entG ks) seen := by
  unfold leftOf
  rw [Array.mem_filter]
  refine ⟨?_, by simpa using hn⟩
  unfold entG
  simp only [List.mem_toArray, List.mem_mapIdx]
  exact ⟨i, hi, rfl⟩
 rw [he] at hm
 simp at hm
/-- The next key: none is left, or one that was not handed out. -/
theorem SetMap.next (h : SetMap w b ks) {r : Nat} {seen : Array Nat} (hi : IterG w r b ks.length seen) (ty : TypeId) :
  ((∀ i, i < ks.length → i ∈ seen) ∧ (Instr.next (.pointer (some ⟨r, 0, none⟩)) false ty).run P w = .ok (.tuple #[.bool false]) w) ∨
  ∃ i, ∃ hi : i < ks.length, i ∉ seen ∧ ∃ w' : World, (Instr.next (.pointer (some ⟨r, 0, none⟩)) false ty).run P w = .ok (.tuple #[.bool true, ks[i], .bool true]) w' ∧ IterG w' r b ks.length (seen.push i) ∧ w.grownBy w' (some r) := by
 have hold : ∀ x ∈ (entG ks).toList, x.born < ks.length := fun x hx => by
  obtain ⟨i, hi, rfl⟩ := entG_key hx
  exact hi
 rcases run_next_at (P := P) w ty r b ks.length ks.length seen (entG ks) ks.length hi h hold (Nat.le_refl _) with ⟨h1, h2⟩ | ⟨x, hx, w1, hw, h2⟩
 ·exact .inl ⟨left_none h1, h2⟩
 ·obtain ⟨i, hi', rfl, hn⟩ := leftG hx
  have hr1 : w1.heap[r]? = some (.mapIter (some b) ks.length seen ks.length) := by rcases hw with rfl | rfl <;> exact hi
  refine .inr ⟨i, hi', hn, _, h2, setB_same (Array.getElem?_eq_some_iff.1 hr1).1, ?_⟩
  rcases hw with rfl | rfl <;> exact ⟨rfl, rfl, rfl, (by show _ ≤ (Array.setIfInBounds _ _ _).size; rw [Array.size_setIfInBounds]; exact Nat.le_refl _), fun j _ hj => setB_other (fun e => hj (by rw [e]))⟩

end
end Go.Proofs.YtdkbbknhighebaaGreatDoor

namespace Go.Proofs.YtdkbbknhighebaaGreatDoor
open Go Go.RowKit Go.ChangeMaps Go.MapKept
open Go.Maps (Keyed)

section
variable {P : Program} {k t e : TypeId} {w : World} {b : Nat} {ks : List Value}

theorem entG_born (ks : List Value) : ((entG ks).toList.map (·.born)).Nodup := by
 have h : (entG ks).toList.map (·.born) = List.range ks.length := by
  unfold entG
  apply List.ext_getElem (by simp)
  intro i h1 h2
  simp
 rw [h]
 exact List.nodup_range
theorem SetMap.entry (h : SetMap w b ks) {r i : Nat} {seen : Array Nat} (hlt : i < ks.length) (hi : IterG w r b ks.length (seen.push i)) :
  (Instr.entry (.pointer (some ⟨r, 0, none⟩))).run P w = .ok (.tuple #[ks[i], .bool true]) w := by
 have hm : (⟨ks[i], .bool true, i⟩ : MapEntry) ∈ (entG ks).toList := by
  unfold entG
  simp only [List.mem_mapIdx]
  exact ⟨i, hlt, rfl⟩
 exact run_entry_at (P := P) w r b ks.length seen (entG ks) ks.length ⟨ks[i], .bool true, i⟩ hi h hm (entG_born ks)
theorem SetMap.notIter (h : SetMap w b ks) {r n : Nat} {seen : Array Nat} (hi : IterG w r b n seen) : b ≠ r := by
 intro e
 subst e
 unfold SetMap at h
 unfold IterG at hi
 rw [h] at hi
 cases hi

/-- 'range m'. -/
theorem wpList_range_set {ops : Array Oper} {rest : List Oper} {o : Oper} {a : Act} {Q : Exit → Act → World → Prop} (hg : o.guard = none) (m : Operand) (hop : o.op = Op.range t m) (ht : P.underlying t = some (.map k e)) (hm : a.eval m = .map (some b)) (h : SetMap w b ks)
  (hK : wpList P ops Q rest (a.put o.dst (.pointer (some ⟨w.heap.size, 0, none⟩))) (w.alloc (.mapIter (some b) ks.length #[] ks.length))) :
  wpList P ops Q (o :: rest) a w := by
 refine wpList_plain hg fun K' hK' => ?_
 have hrun := h.range (P := P) ht
 unfold Oper.wp
 simp [execOp, hop, hm, hrun, Result.andThen]
 exact hK' _ _ hK
/-- The step: nothing is left, or a key that was not handed out. -/
theorem wpList_next_set {ops : Array Oper} {rest : List Oper} {o : Oper} {a : Act} {Q : Exit → Act → World → Prop} (hg : o.guard = none) (it : Operand) (hop : o.op = Op.next it false) {r : Nat} {seen : Array Nat} (hit : a.eval it = .pointer (some ⟨r, 0, none⟩)) (h : SetMap w b ks) (hi : IterG w r b ks.length seen)
  (hDone : (∀ i, i < ks.length → i ∈ seen) → wpList P ops Q rest (a.put o.dst (.tuple #[.bool false])) w)
  (hMore : ∀ (i : Nat) (hlt : i < ks.length) (w' : World), i ∉ seen → IterG w' r b ks.length (seen.push i) → w.grownBy w' (some r) → (Instr.entry (.pointer (some ⟨r, 0, none⟩))).run P w' = .ok (.tuple #[ks[i], .bool true]) w' →
   wpList P ops Q rest (a.put o.dst (.tuple #[.bool true, ks[i], .bool true])) w') :
  wpList P ops Q (o :: rest) a w := by
 refine wpList_plain hg fun K' hK' => ?_
 unfold Oper.wp
 rcases h.next (P := P) hi o.type with ⟨h1, hrun⟩ | ⟨i, hlt, hn, w', hrun, hi', hgr⟩
 ·simp [execOp, hop, hit, hrun, Result.andThen]
  exact hK' _ _ (hDone h1)
 ·simp [execOp, hop, hit, hrun, Result.andThen]
  exact hK' _ _ (hMore i hlt w' hn hi' hgr (SetMap.entry (h.kept hgr (by simpa using h.notIter hi)) hlt hi'))

end
end Go.Proofs.YtdkbbknhighebaaGreatDoor

namespace Go.Proofs.YtdkbbknhighebaaGreatDoor
open Go Go.RowKit
open Go.Maps (Keyed)

def key2 (q : Int × Int) : Value := .agg #[.int .i64 q.1, .int .i64 q.2]
theorem key2_inj {a b : Int × Int} (h : key2 a = key2 b) : a = b := by
 obtain ⟨x, y⟩ := a
 obtain ⟨u, v⟩ := b
 simpa [key2] using h
theorem underMap2 : Tryz.prog.underlying 73 = some (.map 75 4) := Tryz.underlying73
theorem laidOut2 : laidOutB Tryz.prog = true := by kernel_rfl
theorem row2Ok : (75 : TypeId) < Tryz.prog.types.size := of_decide_eq_true (by kernel_rfl)
theorem wide2 : (match Tryz.prog.underlying 75 with | some (.array _ _) | some (.struct _) => true | _ => false) = true := by rw [Tryz.underlying75]
set_option maxRecDepth 100000 in
theorem law2 : WideMaps.KeyLaw Tryz.prog 75 := deep_law_laid laidOut2 (m := 2) (by omega) row2Ok (by kernel_rfl) wide2
theorem keyed2 : Keyed Tryz.prog 75 := Keyed.of_law law2
theorem cells2Ok : Tryz.prog.cellsOf 75 = 2 := by kernel_rfl
theorem cellsI2 : Tryz.prog.cellsOf 2 = 1 := by kernel_rfl
theorem keyType2 : Tryz.prog.keyType 75 = true := by kernel_rfl
theorem zeroBool2 (w : World) : (zeroValue 4).run Tryz.prog w = .ok (.bool false) w := by kernel_rfl
theorem wf_small2 {n : Int} (h0 : -1 ≤ n) (h1 : n < 1000000) : (Lit.int .i64 n).wf = true := by
 have h2 : IntKind.i64.min = -9223372036854775808 := by decide
 have h3 : IntKind.i64.max = 9223372036854775807 := by decide
 show (decide (IntKind.i64.min ≤ n) && decide (n ≤ IntKind.i64.max)) = true
 rw [h2, h3, decide_eq_true (by omega), decide_eq_true (by omega)]
 rfl
/-- A pair of small numbers. -/
def Small2 (q : Int × Int) : Prop := (0 ≤ q.1 ∧ q.1 < 40) ∧ 0 ≤ q.2 ∧ q.2 < 40
set_option maxRecDepth 100000 in
theorem keyOfP {q : Int × Int} (h : (-1 ≤ q.1 ∧ q.1 < 1000000) ∧ -1 ≤ q.2 ∧ q.2 < 1000000) : ∃ l, keyOf Tryz.prog 75 (key2 q) = some l := by
 obtain ⟨⟨a0, a1⟩, b0, b1⟩ := h
 have wa := wf_small2 a0 a1
 have wb := wf_small2 b0 b1
 obtain ⟨m, hm⟩ : ∃ m, Tryz.prog.types.size = m + 1 := ⟨_, Nat.succ_pred_eq_of_pos (Nat.lt_of_le_of_lt (Nat.zero_le _) row2Ok) |>.symm⟩
 refine ⟨.string (keyBytes [.int .i64 q.1, .int .i64 q.2]), ?_⟩
 unfold keyOf key2
 simp only [Tryz.underlying75]
 rw [if_pos (by simp [keyType2, Value.formed, Tryz.underlying75, cells2Ok]), hm]
 unfold Program.keyLits
 simp only [Tryz.underlying75, Value.cells]
 rw [if_pos (by rw [cells2Ok]; rfl), show List.range 2 = [0, 1] from rfl, List.mapM_cons, List.mapM_cons, List.mapM_nil]
 simp [cellsI2, Program.keyLits, Tryz.underlying2, wa, wb]

theorem keyOf2 {q : Int × Int} (h : Small2 q) : ∃ l, keyOf Tryz.prog 75 (key2 q) = some l := keyOfP ⟨⟨by have := h.1.1; omega, by have := h.1.2; omega⟩, by have := h.2.1; omega, by have := h.2.2; omega⟩

/-- A set of pairs as a map: its pairs in the order in which they came. -/
structure PairMap (w : World) (b : Nat) (ps : List (Int × Int)) : Prop where
 map : SetMap w b (ps.map key2)
 nodup : ps.Nodup
 small : ∀ q ∈ ps, Small2 q
theorem PairMap.keys {w : World} {b : Nat} {ps : List (Int × Int)} (h : PairMap w b ps) : ∀ v ∈ ps.map key2, ∃ l, keyOf Tryz.prog 75 v = some l := fun v hv => by
 obtain ⟨q, hq, rfl⟩ := List.mem_map.1 hv
 exact keyOf2 (h.small q hq)
theorem PairMap.below {w w' : World} {b : Nat} {ps : List (Int × Int)} (h : PairMap w b ps) (hb : Below w.heap.size w w') : PairMap w' b ps := ⟨h.map.below hb, h.nodup, h.small⟩
theorem PairMap.kept {w w' : World} {b : Nat} {ps : List (Int × Int)} {row : Option Nat} (h : PairMap w b ps) (hg : w.grownBy w' row) (hne : some b ≠ row) : PairMap w' b ps := ⟨h.map.kept hg hne, h.nodup, h.small⟩
theorem mem_key2 {ps : List (Int × Int)} {q : Int × Int} : key2 q ∈ ps.map key2 ↔ q ∈ ps := by
 constructor
 ·intro h
  obtain ⟨r, hr, e⟩ := List.mem_map.1 h
  rw [← key2_inj e]
  exact hr
 ·exact fun h => List.mem_map.2 ⟨q, h, rfl⟩
/-- Is the pair there? -/
theorem PairMap.look {w : World} {b : Nat} {ps : List (Int × Int)} (h : PairMap w b ps) {q : Int × Int} (hq : Small2 q) :
  (Instr.lookup 73 (.map (some b)) (key2 q) false).run Tryz.prog w = .ok (.bool (decide (q ∈ ps))) w := by
 by_cases hm : q ∈ ps
 ·rw [decide_eq_true hm]
  exact h.map.found keyed2 underMap2 h.keys (mem_key2.2 hm)
 ·rw [decide_eq_false hm]
  obtain ⟨kl, hkl⟩ := keyOf2 hq
  exact h.map.missing keyed2 underMap2 h.keys (zeroBool2 w) hkl (fun k => hm (mem_key2.1 k))
theorem PairMap.push {w : World} {b : Nat} {ps : List (Int × Int)} (h : PairMap w b ps) {q : Int × Int} (hq : Small2 q) (hn : q ∉ ps) (hroom : ps.length ≤ 1000000) :
  ∃ w', (Instr.mapUpdate 73 (.map (some b)) (key2 q) (.bool true)).run Tryz.prog w = .ok () w' ∧ PairMap w' b (ps ++ [q]) ∧ w.grownBy w' (some b) := by
 obtain ⟨kl, hkl⟩ := keyOf2 hq
 obtain ⟨w', h1, h2, h3⟩ := h.map.store keyed2 underMap2 h.keys hkl (fun k => hn (mem_key2.1 k)) (by rw [List.length_map]; unfold maxLen; omega)
 refine ⟨w', h1, ⟨by rw [List.map_append]; exact h2, ?_, fun r hr => ?_⟩, h3⟩
 ·rw [List.nodup_append]
  refine ⟨h.nodup, by simp, ?_⟩
  intro a ha b hb e
  rw [List.mem_singleton] at hb
  subst hb
  subst e
  exact hn ha
 ·rcases List.mem_append.1 hr with hr | hr
  ·exact h.small r hr
  ·rw [List.mem_singleton] at hr
   subst hr
   exact hq

end Go.Proofs.YtdkbbknhighebaaGreatDoor

namespace Go.Proofs.YtdkbbknhighebaaGreatDoor
open Go Go.RowKit Go.ChangeMaps Go.MapKept

theorem wpList_next_pairs {w : World} {b : Nat} {ps : List (Int × Int)} {ops : Array Oper} {rest : List Oper} {o : Oper} {a : Act} {Q : Exit → Act → World → Prop} (hg : o.guard = none) (it : Operand) (hop : o.op = Op.next it false) {r : Nat} {seen : Array Nat} (hit : a.eval it = .pointer (some ⟨r, 0, none⟩)) (h : PairMap w b ps) (hi : IterG w r b ps.length seen)
  (hDone : (∀ i, i < ps.length → i ∈ seen) → wpList Tryz.prog ops Q rest (a.put o.dst (.tuple #[.bool false])) w)
  (hMore : ∀ (i : Nat) (hlt : i < ps.length) (x y : Int) (w' : World), ps[i] = (x, y) → i ∉ seen → IterG w' r b ps.length (seen.push i) → w.grownBy w' (some r) → (Instr.entry (.pointer (some ⟨r, 0, none⟩))).run Tryz.prog w' = .ok (.tuple #[.agg #[.int .i64 x, .int .i64 y], .bool true]) w' →
   wpList Tryz.prog ops Q rest (a.put o.dst (.tuple #[.bool true, .agg #[.int .i64 x, .int .i64 y], .bool true])) w') :
  wpList Tryz.prog ops Q (o :: rest) a w := by
 have hl : (ps.map key2).length = ps.length := List.length_map _
 refine wpList_next_set hg it hop hit h.map (by rw [hl]; exact hi) (fun hd => hDone (fun i hi' => hd i (by rw [hl]; exact hi'))) (fun i hlt w' hn hi' hgr hen => ?_)
 have hlt' : i < ps.length := by rw [← hl]; exact hlt
 obtain ⟨x, y, hxy⟩ : ∃ x y, ps[i] = (x, y) := ⟨_, _, rfl⟩
 have hk : (ps.map key2)[i] = .agg #[.int .i64 x, .int .i64 y] := by rw [List.getElem_map, hxy]; rfl
 rw [hk] at hen ⊢
 rw [hl] at hi'
 exact hMore i hlt' x y w' hxy hn hi' hgr hen
theorem wpList_range_pairs {w : World} {b : Nat} {ps : List (Int × Int)} {ops : Array Oper} {rest : List Oper} {o : Oper} {a : Act} {Q : Exit → Act → World → Prop} (hg : o.guard = none) (m : Operand) (hop : o.op = Op.range 73 m) (hm : a.eval m = .map (some b)) (h : PairMap w b ps)
  (hK : wpList Tryz.prog ops Q rest (a.put o.dst (.pointer (some ⟨w.heap.size, 0, none⟩))) (w.alloc (.mapIter (some b) ps.length #[] ps.length))) :
  wpList Tryz.prog ops Q (o :: rest) a w := by
 have hl : (ps.map key2).length = ps.length := List.length_map _
 have h2 := wpList_range_set (P := Tryz.prog) (ops := ops) (rest := rest) (Q := Q) hg m hop underMap2 hm h.map
 rw [hl] at h2
 exact h2 hK
theorem PairMap.len {w : World} {b : Nat} {ps : List (Int × Int)} (h : PairMap w b ps) (ty : TypeId) : (Builtin.len_ #[73] ty #[.map (some b)]).run Tryz.prog w = .ok (.int .i64 ps.length) w := by
 have hb : w.heap[b]? = some (.map (entG (ps.map key2)) (ps.map key2).length) := h.map
 have hs : (entG (ps.map key2)).size = ps.length := by rw [entG_size, List.length_map]
 simp [Builtin.len_, run_underlying underMap2, MapKept.run_getObj_map hb, goInt, Result.andThen, hs]

theorem blk_set_ne {w : World} {b m : Nat} {cs : List Value} {t : TypeId} {ks : List Value} (h : Blk w b cs t) (k : SetMap w m ks) : b ≠ m := by
 intro e
 subst e
 unfold Blk at h
 unfold SetMap at k
 rw [h] at k
 cases k
theorem set_iter_ne {w : World} {b r m n : Nat} {ks : List Value} {seen : Array Nat} (h : SetMap w b ks) (k : IterG w r m n seen) : b ≠ r := by
 intro e
 subst e
 unfold SetMap at h
 unfold IterG at k
 rw [h] at k
 cases k
theorem blk_iter_ne {w : World} {b r m n : Nat} {cs : List Value} {t : TypeId} {seen : Array Nat} (h : Blk w b cs t) (k : IterG w r m n seen) : b ≠ r := by
 intro e
 subst e
 unfold Blk at h
 unfold IterG at k
 rw [h] at k
 cases k
theorem blk_type_ne {w : World} {b c : Nat} {cs ds : List Value} {t u : TypeId} (h : Blk w b cs t) (k : Blk w c ds u) (ht : t ≠ u) : b ≠ c := by
 intro e
 subst e
 unfold Blk at h k
 rw [h] at k
 simp only [Option.some.injEq, Obj.cells.injEq] at k
 exact ht k.2.1
theorem blk_grown {w w' : World} {b m : Nat} {cs : List Value} {t : TypeId} (h : Blk w b cs t) (hg : w.grownBy w' (some m)) (hne : b ≠ m) : Blk w' b cs t := (hg.block b h.lt (by simpa using hne)).trans h

end Go.Proofs.YtdkbbknhighebaaGreatDoor

namespace Go.Proofs.YtdkbbknhighebaaGreatDoor
open Go Go.RowKit

def idxI (P : Int → Bool) (xs : List Int) : Int := if xs.findIdx P < xs.length then (xs.findIdx P : Nat) else -1
theorem idxI_neg {P : Int → Bool} {xs : List Int} : idxI P xs = -1 ↔ ∀ x ∈ xs, P x = false := by
 unfold idxI
 by_cases h : xs.findIdx P < xs.length
 ·rw [if_pos h]
  refine ⟨fun e => by omega, fun h2 => ?_⟩
  obtain ⟨x, hx, hp⟩ := List.findIdx_lt_length.1 h
  rw [h2 x hx] at hp
  cases hp
 ·rw [if_neg h]
  refine ⟨fun _ x hx => ?_, fun _ => rfl⟩
  cases hp : P x
  ·rfl
  ·exact absurd (List.findIdx_lt_length.2 ⟨x, hx, hp⟩) h
theorem idxI_any {P : Int → Bool} {xs : List Int} : decide (0 ≤ idxI P xs) = xs.any P := by
 unfold idxI
 by_cases h : xs.findIdx P < xs.length
 ·rw [if_pos h]
  obtain ⟨x, hx, hp⟩ := List.findIdx_lt_length.1 h
  rw [List.any_eq_true.2 ⟨x, hx, hp⟩]
  simp
 ·rw [if_neg h]
  have : xs.any P = false := by
   rw [List.any_eq_false]
   intro x hx hp
   exact h (List.findIdx_lt_length.2 ⟨x, hx, hp⟩)
  rw [this]
  rfl
/-- A function of one element that answers P, and turns nothing that was there. -/
def AskI (fid : Nat) (caps : Array Value) (P : Int → Bool) (xs : List Int) (B : Nat) (w : World) : Prop :=
 ∀ w', Below B w w' → ∀ x ∈ xs, Calls Tryz.prog fid (#[.int .i64 x] ++ caps) w' fun e w'' => e = .returned (.bool (P x)) ∧ Below w'.heap.size w' w''

set_option maxRecDepth 100000 in
set_option maxHeartbeats 1000000 in
theorem IndexFuncI (lo : Nat) (v : Value) (xs : List Int) (fid : Nat) (caps : Array Value) (P : Int → Bool) (w : World) (hv : SliceK 1 encI lo w v xs) (eg : ∀ args w, (callFunc fid args).run Tryz.prog w = .ok (.enter fid args) w) (hP : AskI fid caps P xs w.heap.size w) :
  Calls Tryz.prog 66 #[v, .func (.func fid) #[] caps] w fun e w' => e = .returned (.int .i64 (idxI P xs)) ∧ Below w.heap.size w w' := by
 obtain ⟨a, c, rfl, hcn, hcc, hrow⟩ := hv
 have HR := Lib.hid hrow
 have HP := Lib.hid hP
 clear hP hrow
 go_enter Tryz.func66, Tryz.ntmps66
 go_wp2_with fail
 go_loopw [8] (fun i wr => ∃ k : Nat, k ≤ xs.length ∧ i = .int .i64 k ∧ Below w.heap.size w wr ∧ ∀ j (h : j < xs.length), j < k → P xs[j] = false) (fun i _ => xs.length - (intOf i).toNat)
 case atStart => exact ⟨0, Nat.zero_le _, rfl, Below.refl _ _, fun _ _ h => by omega⟩
 case round =>
  obtain ⟨k, hk, rfl, hbl, ha⟩ := hrel
  have HA := Lib.hid ha
  have HBL := Lib.hid hbl
  clear ha
  by_cases hlt : k < xs.length
  ·obtain ⟨b1, o1, rfl, -, hbs, c1⟩ := (HR.out.below hbl).one hlt
   simp only [encI, List.getElem?_cons_zero] at c1
   clear hbl
   obtain ⟨x, hx⟩ : ∃ x, x = xs[k] := ⟨_, rfl⟩
   rw [← hx] at c1
   have HX := Lib.hid hx
   have HC := Lib.hid (HP.out wr HBL.out x (by rw [hx]; exact List.getElem_mem _))
   obtain ⟨b, hb⟩ : ∃ b, b = P x := ⟨_, rfl⟩
   rw [← hb] at HC
   have HB := Lib.hid hb
   clear hb hx
   go_wp2_with fail
   refine Calls.mono HC.out ?_
   rintro e w1 ⟨rfl, hb1⟩
   have HB1 := Lib.hid (HBL.out.trans (hb1.mono HBL.out.size))
   clear hb1 c1
   cases b
   ·go_wp2_with fail
    go_roundw
    case rel => exact ⟨k + 1, by omega, by go_num, HB1.out, fun j h hj => by
     by_cases e : j = k
     ·subst e; rw [← HX.out]; exact HB.out.symm
     ·exact HA.out j h (by omega)⟩
    case measure => simp [intOf]; omega
   ·have HI : Hid (idxI P xs = (k : Int)) := by
     unfold Hid idxI
     have h1 : xs.findIdx P = k := by
      rw [List.findIdx_eq hlt]
      exact ⟨by rw [← HX.out]; exact HB.out.symm, fun j hj => HA.out j (by omega) hj⟩
     rw [h1, if_pos hlt]
    go_wp2_with fail
    go_ret
    exact ⟨ret_int HI.out.symm, HB1.out⟩
  ·clear hbl
   have HI : Hid (idxI P xs = -1) := by
    unfold Hid
    rw [idxI_neg]
    intro x hx
    obtain ⟨j, hj, rfl⟩ := List.mem_iff_getElem.1 hx
    exact HA.out j hj (by omega)
   go_wp2_with fail
   go_ret
   exact ⟨ret_int HI.out.symm, HBL.out⟩

theorem ContainsFuncI (lo : Nat) (v : Value) (xs : List Int) (fid : Nat) (caps : Array Value) (P : Int → Bool) (w : World) (hv : SliceK 1 encI lo w v xs) (eg : ∀ args w, (callFunc fid args).run Tryz.prog w = .ok (.enter fid args) w) (hP : AskI fid caps P xs w.heap.size w) :
  Calls Tryz.prog 116 #[v, .func (.func fid) #[] caps] w fun e w' => e = .returned (.bool (xs.any P)) ∧ Below w.heap.size w w' := by
 have HC := Lib.hid (IndexFuncI lo v xs fid caps P w hv eg hP)
 clear hP
 go_enter Tryz.func116, Tryz.ntmps116
 go_wp2_with fail
 refine Calls.mono HC.out ?_
 rintro e w' ⟨rfl, hb⟩
 have HB := Lib.hid hb
 clear hb
 go_wp2_with fail
 go_ret
 exact ⟨ret_bool idxI_any, HB.out⟩

end Go.Proofs.YtdkbbknhighebaaGreatDoor
