/-
  The program's minimalFrom, from any values: the partition at rest, the least system and its states.
  What MinimalMonitor returns. Plain.
  Two deterministic systems that take the same labels: the first trace on which they differ. Plain definitions; no program in sight.
  The search for a word on which two systems differ: plain notions, and the memory of the reference's search.
  The slices of the search over blocks.
  The verdicts' list beside the slices of the search over blocks.
-/
import Derived.Test.YtjghfgaincnegaaGreatDoorN15
import Derived.Test.YtjghfgaincnegaaGreatDoorN16
import Derived.Test.YtjghfgaincnegaaGreatDoorN1
import Derived.Test.YtjghfgaincnegaaGreatDoorN8
import Derived.Test.YtjghfgaincnegaaGreatDoorN10
import Derived.Maps.AppendAt
import Derived.Test.YtjghfgaincnegaaGreatDoorN11
import Derived.Test.YtjghfgaincnegaaGreatDoorN13
import Derived.Test.YtjghfgaincnegaaGreatDoorN12
import Derived.Test.YtjghfgaincnegaaGreatDoorN9
namespace Go.Proofs.YtjghfgaincnegaaGreatDoor
open Go Go.RowKit

set_option maxRecDepth 100000 in
set_option maxHeartbeats 8000000 in
theorem minimalFromV_any (lo lo2 N : Nat) (d : Lts) (V : List Int) (lv ev zv : Value) (w : World) (hv : Valid d) (hs : Single d) (hN : (N : Int) = d.states) (hl : SliceK 1 encS lo w lv d.labels) (he : SliceK 3 encE lo w ev d.edges) (hz : SliceK 1 encI lo2 w zv V) (hVN : V.length = N) (hV6 : ∀ x ∈ V, I64 x) (g : Glob w) (hsh : Short20 d.labels) :
  Calls Tryz.prog 23 #[.agg #[.int .i64 d.states, .int .i64 d.initial, lv, ev], zv] w fun e w' => Below w.heap.size w w' ∧ ∃ st r lv' ev' sv, e = .returned (.tuple #[.agg #[.int .i64 r.states, .int .i64 r.initial, lv', ev'], sv]) ∧ MinV d V st r ∧ OwnLts w.heap.size w' lv' ev' r ∧ w'.ownsRow w.heap.size 2 1 sv st.rows.length (st.rows.map (Value.int .i64)) := by
 have hu := valid_up hv hs
 have hst0 := hv.st0
 have hst1 := hv.st1
 have hlp := hv.labels.pos
 have hl12 := hv.labels.most
 rw [← hN] at hst0 hst1
 obtain ⟨tb, htb⟩ : ∃ tb, tb = w.heap.size := ⟨_, rfl⟩
 have hlE : SliceK 1 encS lo w lv d.labels := hl
 obtain ⟨al, cl, rfl, hln, hlc, hlrow⟩ := hl
 obtain ⟨LN, hLN⟩ : ∃ LN, LN = d.labels.length := ⟨_, rfl⟩
 rw [← hLN] at hlE hln hlp hl12 ⊢
 obtain ⟨bl, ol, rfl, hblw, hcells⟩ : ∃ bl ol, al = some ⟨bl, ol, none⟩ ∧ bl < w.heap.size ∧ ∀ i (h : i < d.labels.length), w.cell? ⟨bl, ol + i, none⟩ = some (.string d.labels[i]) := by
  rcases hlrow with h | ⟨bl, ol, h1, -, h3, h4⟩
  ·omega
  ·exact ⟨bl, ol, h1, h3, fun i hi => by have := h4 i hi 0 (by omega); simpa [encS] using this⟩
 obtain ⟨ox, hox⟩ : ∃ ox, ox = if cl = 1 then ol else ol + 1 := ⟨_, rfl⟩
 have hsl := slice_from 22 9 1 Tryz.underlying22 (fun _ => by kernel_rfl) ⟨bl, ol, none⟩ LN cl hlp
 have hpk : (if cl = 1 then (⟨bl, ol, none⟩ : Addr) else (⟨bl, ol, none⟩ : Addr).add 1) = ⟨bl, ox, none⟩ := by
  rw [hox]
  by_cases h : cl = 1
  ·rw [if_pos h, if_pos h]
  ·rw [if_neg h, if_neg h]; rfl
 rw [hpk] at hsl
 have hlab : ∀ j, j < LN - 1 → w.cell? ⟨bl, ox + j, none⟩ = some (.string (d.labels.getD (j + 1) ByteArray.empty)) := fun j hj => by
  have hj2 : j + 1 < d.labels.length := by omega
  have h := hcells (j + 1) hj2
  have hcl : ¬ cl = 1 := by omega
  rw [hox, if_neg hcl, show ol + 1 + j = ol + (j + 1) from by omega, h, List.getD_eq_getElem?_getD, List.getElem?_eq_getElem hj2]
  rfl
 obtain ⟨wA, hwA⟩ : ∃ wA, wA = (w.alloc (.cells #[.int .i64 d.states, .int .i64 d.initial, .slice (some ⟨bl, ol, none⟩) LN cl, ev] 32)).alloc (.cells #[.int .i64 0, .int .i64 0, .slice none 0 0, .slice none 0 0] 32) := ⟨_, rfl⟩
 have hbA : Below w.heap.size w wA := by rw [hwA]; exact ((Below.refl _ _).alloc (Nat.le_refl _) _).alloc (by simp) _
 have hT : Blk wA tb [.int .i64 d.states, .int .i64 d.initial, .slice (some ⟨bl, ol, none⟩) LN cl, ev] 32 := by rw [hwA, htb]; exact (Blk.new w _ _).alloc _
 have hR : Blk wA (tb + 1) [.int .i64 0, .int .i64 0, .slice none 0 0, .slice none 0 0] 32 := by
  have := Blk.new (w.alloc (.cells #[.int .i64 d.states, .int .i64 d.initial, .slice (some ⟨bl, ol, none⟩) LN cl, ev] 32)) [.int .i64 0, .int .i64 0, .slice none 0 0, .slice none 0 0] 32
  rw [World.size_alloc, ← htb] at this
  rw [hwA]
  exact this
 have HNO := Lib.hid (normal_any lo2 zv V wA (by omega) hV6 (hz.below hbA))
 obtain ⟨P0, hP0e⟩ : ∃ P0, P0 = normL V := ⟨_, rfl⟩
 have hPL0 : P0.length = N := by rw [hP0e, normL_len, hVN]
 have hPN0 : normL P0 = P0 := by rw [hP0e]; exact normL_norm V
 rw [← hP0e] at HNO
 have hgo : ∀ i k, i < N → k < LN - 1 → goOf d i k < (N : Int) := fun i k _ _ => by rw [hN]; exact (goOf_lt hv i k).2
 obtain ⟨m, hm⟩ : ∃ m, m = LN - 1 := ⟨_, rfl⟩
 rw [← hm] at hgo hlab
 have hrest : restV d V = partsV (goOf d) N m P0 N := by unfold restV; rw [show d.states.toNat = N from by omega, hm, hLN, hP0e]
 have HPL0 := Lib.hid hPL0
 have HPN0 := Lib.hid hPN0
 have HV := Lib.hid hv
 have HSI := Lib.hid hs
 have HU := Lib.hid hu
 have HN := Lib.hid hN
 have HLE := Lib.hid hlE
 have HE := Lib.hid he
 have HG := Lib.hid g
 have HSH := Lib.hid hsh
 have HLAB := Lib.hid hlab
 have HGO := Lib.hid hgo
 have HREST := Lib.hid hrest
 have HBA := Lib.hid hbA
 have HT := Lib.hid hT
 have HR := Lib.hid hR
 have HWA := Lib.hid hwA
 have HTB := Lib.hid htb
 have HM := Lib.hid hm
 have HLN := Lib.hid hLN
 have HSL := Lib.hid hsl
 have hsWA : w.heap.size ≤ wA.heap.size := hbA.size
 obtain ⟨i1, hi1, hz10, hz11, hz12⟩ := info_parts info_int64Q
 obtain ⟨i2, hi2, hz20, hz21, hz22⟩ := info_parts info_intsQ
 clear hPL0 hPN0 hP0e hVN hV6 hv hs hu hN hlE he hz g hsh hlab hgo hrest hbA hT hR hwA htb hlrow hcells hox hpk hLN hsl hm
 go_enter Tryz.func23, Tryz.ntmps23
 go_wp2_with fail
 rw [← HWA.out]
 try rw [← HTB.out]
 refine Calls.mono HNO.out ?_
 rintro e w2 ⟨v2, rfl, hb2, ho2⟩
 rw [HPL0.out] at ho2
 obtain ⟨gP, cP, rfl, -, hgPw⟩ := own_someP ho2 (by omega)
 obtain ⟨cb, hcb⟩ : ∃ cb, cb = w2.heap.size := ⟨_, rfl⟩
 obtain ⟨W, hW⟩ : ∃ W, W = w2.alloc (.cells #[.slice (some ⟨gP, 0, none⟩) N cP] 26) := ⟨_, rfl⟩
 have hbW : Below w2.heap.size w2 W := by rw [hW]; exact (Below.refl _ _).alloc (Nat.le_refl _) _
 have hbAW : Below wA.heap.size wA W := hb2.trans (hbW.mono hb2.size)
 have HC : Hid (Blk W cb [.slice (some ⟨gP, 0, none⟩) N cP] 26) := by unfold Hid; rw [hW, hcb]; exact Blk.new w2 _ _
 have HTW := Lib.hid (HT.out.below hbAW)
 have HRW := Lib.hid (HR.out.below hbAW)
 have HBW := Lib.hid (HBA.out.trans (hbAW.mono hsWA))
 have HOW : Hid (W.ownsRow w.heap.size 2 1 (.slice (some ⟨gP, 0, none⟩) N cP) N ((partsV (goOf d) N m P0 0).map (Value.int .i64))) := own_lower (owns_below ho2 hbW) hsWA
 have HWW := Lib.hid hW
 have HCB := Lib.hid hcb
 have HCBW : Hid (w.heap.size ≤ cb) := by unfold Hid; rw [hcb]; have := hb2.size; omega
 clear hb2 ho2 hcb hW hbW hbAW HNO hgPw
 go_wp2
 rw [← HWW.out]
 try rw [← HCB.out]
 go_loopg [7] 64 (fun gk v7 wr => ∃ (r gP cP : Nat), (∀ s, s < r → partsV (goOf d) N m P0 s ≠ partsV (goOf d) N m P0 (s + 1)) ∧ 64 - r ≤ gk ∧ Below w.heap.size w wr ∧ Blk wr tb [.int .i64 d.states, .int .i64 d.initial, .slice (some ⟨bl, ol, none⟩) LN cl, ev] 32 ∧ Blk wr (tb + 1) [.int .i64 0, .int .i64 0, .slice none 0 0, .slice none 0 0] 32
  ∧ Blk wr cb [.slice (some ⟨gP, 0, none⟩) N cP] 26 ∧ wr.ownsRow w.heap.size 2 1 (.slice (some ⟨gP, 0, none⟩) N cP) N ((partsV (goOf d) N m P0 r).map (Value.int .i64)))
 case atStart => exact ⟨0, gP, cP, (fun s h => by omega), Nat.le_refl _, HBW.out, HTW.out, HRW.out, HC.out, HOW.out⟩
 case round =>
  clear HBW HTW HRW HC HOW
  obtain ⟨r, gP, cP, hne, hgk, hbl, hT, hR, hC, hO⟩ := hrel
  obtain ⟨wC, rfl⟩ : ∃ wC : World, wC = wr := ⟨_, rfl⟩
  have hrN : r < N := roundsV_few (by omega) HPL0.out HPN0.out hne
  obtain ⟨P, hP⟩ : ∃ P, P = partsV (goOf d) N m P0 r := ⟨_, rfl⟩
  rw [← hP] at hO
  have hPl : P.length = N := by rw [hP]; exact partsV_len HPL0.out _
  have hP0 : ∀ z ∈ P, 0 ≤ z ∧ z < (N : Int) := fun z hz => by rw [hP] at hz; exact partsV_range HPL0.out HPN0.out _ hz
  have HNE := Lib.hid hne
  have HGK := Lib.hid hgk
  have HBL := Lib.hid hbl
  have HTC := Lib.hid hT
  have HRC := Lib.hid hR
  have HCC := Lib.hid hC
  have HOC := Lib.hid hO
  have HP := Lib.hid hP
  have HPL := Lib.hid hPl
  have HP0 := Lib.hid hP0
  have hszC := hbl.size
  have htw := hT.lt
  have hcw := hC.lt
  have hgw := (hO.lt gP rfl).2
  have x0 := hT.cell 0 rfl
  rw [← HN.out] at x0
  clear hne hgk hbl hT hR hC hO hP hPl hP0
  go_wp2
  go_loopw [7, 23] (fun v7 v23 wr => ∃ (k : Nat) (vs : List Value), k ≤ N ∧ v23 = .int .i64 k ∧ Below wC.heap.size wC wr ∧ OwnIntss 26 2 wC.heap.size wr v7 vs (keysTo d P m k)) (fun _ v23 _ => N - (intOf v23).toNat)
  case atStart => exact ⟨0, [], Nat.zero_le _, rfl, Below.refl _ _, ⟨rfl, World.ownsRow_nil _ _ _ _, fun i h _ => absurd h (Nat.not_lt_zero _), fun i j h _ _ => absurd h (Nat.not_lt_zero _), fun i h => absurd h (Nat.not_lt_zero _)⟩⟩
  case round =>
   obtain ⟨k, vs, hk, rfl, hbk, hok⟩ := hrel
   obtain ⟨wK, rfl⟩ : ∃ wK : World, wK = wr := ⟨_, rfl⟩
   have HBK := Lib.hid hbk
   have HOK := Lib.hid hok
   have hszK := hbk.size
   have hvl : vs.length = k := by have := hok.1; rw [keysTo_len] at this; exact this
   obtain ⟨ka, kc, hkv, -, -⟩ := owns_slice hok.2.1
   rw [hvl] at hkv
   subst hkv
   have HVL := Lib.hid hvl
   have ct := keeps hbk hcw (HCC.out.cell 0 rfl)
   have t2 := keeps hbk htw (HTC.out.cell 2 rfl)
   have htk : tb < wK.heap.size := by omega
   have hck : cb < wK.heap.size := by omega
   have hgk2 : gP < wK.heap.size := by omega
   by_cases hkN : k < N
   ·have hkP : k < P.length := by rw [HPL.out]; exact hkN
    have cp := keeps hbk hgw (cell_num HOC.out hkN)
    obtain ⟨pk, hpk⟩ : ∃ pk, pk = P.getD k 0 := ⟨_, rfl⟩
    rw [← hpk] at cp
    obtain ⟨wL, hwL⟩ : ∃ wL, wL = wK.alloc (.cells #[.int .i64 pk] 2) := ⟨_, rfl⟩
    have hbL : Below wK.heap.size wK wL := by rw [hwL]; exact (Below.refl _ _).alloc (Nat.le_refl _) _
    have HOL : Hid (wL.ownsRow wK.heap.size 2 1 (.slice (some ⟨wK.heap.size, 0, none⟩) 1 1) (keyTo d P k 0).length ((keyTo d P k 0).map (Value.int .i64))) := by
     have h := World.ownsRow_lit (base := wK.heap.size) (e := 2) (size := 1) wK #[.int .i64 pk] 1 (Nat.le_refl _) (by decide) rfl
     unfold Hid
     rw [hwL]
     have e : keyTo d P k 0 = [pk] := by unfold keyTo blkOf; rw [hpk]; rfl
     rw [e]
     exact h
    have HBL2 := Lib.hid hbL
    have HWL := Lib.hid hwL
    have hsl2 := HSL.out
    clear hpk hwL hbL hok hbk
    go_wp2
    rw [← HWL.out]
    go_loopw [9, 35] (fun v9 v35 wr => ∃ j : Nat, j ≤ m ∧ v35 = .int .i64 j ∧ Below wK.heap.size wK wr ∧ wr.ownsRow wK.heap.size 2 1 v9 (keyTo d P k j).length ((keyTo d P k j).map (Value.int .i64))) (fun _ v35 _ => m - (intOf v35).toNat)
    case atStart => exact ⟨0, Nat.zero_le _, rfl, HBL2.out, HOL.out⟩
    case round =>
     clear HOL HBL2
     obtain ⟨j, hj, rfl, hbj, hoj⟩ := hrel
     obtain ⟨wJ, rfl⟩ : ∃ wJ : World, wJ = wr := ⟨_, rfl⟩
     rw [keyTo_len] at hoj
     obtain ⟨ja, jc, rfl, -, -⟩ := owns_slice hoj
     have HBJ := Lib.hid hbj
     have HOJ := Lib.hid hoj
     have hszJ := hbj.size
     have hbCJ : Below wC.heap.size wC wJ := HBK.out.trans (hbj.mono hszK)
     have HBCJ := Lib.hid hbCJ
     clear hoj t2 ct cp
     by_cases hjm : j < m
     ·have hjL : j < LN - 1 := by rw [← HM.out]; exact hjm
      have hw0J : Below w.heap.size w wJ := HBL.out.trans (hbCJ.mono hszC)
      have cl1 := keeps hw0J hblw (HLAB.out j hjm)
      obtain ⟨l, hl⟩ : ∃ l, l = d.labels.getD (j + 1) ByteArray.empty := ⟨_, rfl⟩
      rw [← hl] at cl1
      have t0 := (HTC.out.below hbCJ).cell 0 rfl
      have t1 := (HTC.out.below hbCJ).cell 1 rfl
      have t2 := (HTC.out.below hbCJ).cell 2 rfl
      have t3 := (HTC.out.below hbCJ).cell 3 rfl
      have hst := step_any lo d (.slice (some ⟨bl, ol, none⟩) LN cl) ev (k : Int) l wJ HV.out HSI.out (HLE.out.below hw0J) (HE.out.below hw0J)
      have hgo2 : goTo d (k : Int) l = goOf d k j := by rw [hl]; rfl
      rw [hgo2] at hst
      obtain ⟨y, hy⟩ : ∃ y, y = goOf d k j := ⟨_, rfl⟩
      rw [← hy] at hst
      have HST := Lib.hid hst
      have hyN : y < (N : Int) := by rw [hy]; exact HGO.out k j hkN hjm
      have HY := Lib.hid hy
      have ck := keeps hbCJ hcw (HCC.out.cell 0 rfl)
      have hckJ : cb < wJ.heap.size := by omega
      clear hst hgo2 hl hy hw0J hbj hbCJ
      go_wp2_with fail
      refine Calls.mono HST.out ?_
      rintro e w5 ⟨rfl, hb5⟩
      have HB5 := Lib.hid (HBJ.out.trans (hb5.mono hszJ))
      have HO5 := Lib.hid (owns_below HOJ.out hb5)
      have HBC5 := Lib.hid (HBCJ.out.trans (hb5.mono HBCJ.out.size))
      have hs5 := HB5.out.size
      have ck5 := keeps hb5 hckJ ck
      clear hb5 HST t0 t1 t2 t3 cl1 ck
      by_cases hy0 : y < 0
      ·have HZ : Hid ((if goOf d k j < 0 then (-1 : Int) else P.getD (goOf d k j).toNat 0) = -1) := by unfold Hid; rw [← HY.out, if_pos hy0]
       have hyg : ¬ y ≥ 0 := by omega
       go_wp2_with (at_builtin; refine wpList_append_own _ rfl _ _ 26 rfl wK.heap.size 2 i1 (.int .i64 0) 1 8 Tryz.underlying26 hi1 hz10 hz11 hz12 rfl (by decide) _ (j + 1) _ rfl (HO5.out.alloc _) ⟨w5.heap.size, 0, none⟩ 1 1 [.int .i64 (-1)] rfl rfl ?c1 ?c2 ?c3 ?c4 ?c5 ?_)
       case c1 => exact World.news_of_block (cs := #[.int .i64 (-1)]) (t := 2) (fr := (0, 0)) (heap_alloc_new _ _)
       case c2 => intro u hu; simp at hu; subst hu; rfl
       case c3 => simp [maxLen]; omega
       case c4 => omega
       case c5 => first | omega | (simp; omega)
       intro v7 w7 ho7 hg7 _
       have HB7 : Hid (Below wK.heap.size wK w7) := (HB5.out.alloc hs5 _).grown hg7 (by simp; omega) (fun b e => (HO5.out.lt b e).1)
       have HO7 : Hid (w7.ownsRow wK.heap.size 2 1 v7 (keyTo d P k (j + 1)).length ((keyTo d P k (j + 1)).map (Value.int .i64))) := by
        unfold Hid
        rw [keyTo_len, keyTo_succ, List.map_append, HZ.out]
        exact ho7
       clear ho7 hg7
       go_wp2
       go_roundw
       case rel => exact ⟨j + 1, by omega, by go_num, HB7.out, HO7.out⟩
       case measure => simp [intOf]; omega
      ·obtain ⟨yn, hyn⟩ : ∃ yn : Nat, (yn : Int) = y := ⟨y.toNat, by omega⟩
       have hynN : yn < N := by omega
       obtain ⟨z, hzz⟩ : ∃ z, z = P.getD yn 0 := ⟨_, rfl⟩
       have cy := keeps HBC5.out hgw (cell_num HOC.out hynN)
       rw [← hzz] at cy
       have HZ : Hid ((if goOf d k j < 0 then (-1 : Int) else P.getD (goOf d k j).toNat 0) = z) := by unfold Hid; rw [← HY.out, if_neg hy0, ← hyn, Int.toNat_natCast, hzz]
       rw [← hyn]
       have hyg : (yn : Int) ≥ 0 := by omega
       clear hyn hzz hy0 hyN HY
       go_wp2_with (at_builtin; refine wpList_append_own _ rfl _ _ 26 rfl wK.heap.size 2 i1 (.int .i64 0) 1 8 Tryz.underlying26 hi1 hz10 hz11 hz12 rfl (by decide) _ (j + 1) _ rfl (HO5.out.alloc _) ⟨w5.heap.size, 0, none⟩ 1 1 [.int .i64 z] rfl rfl ?c1 ?c2 ?c3 ?c4 ?c5 ?_)
       case c1 => exact World.news_of_block (cs := #[.int .i64 z]) (t := 2) (fr := (0, 0)) (heap_alloc_new _ _)
       case c2 => intro u hu; simp at hu; subst hu; rfl
       case c3 => simp [maxLen]; omega
       case c4 => omega
       case c5 => first | omega | (simp; omega)
       intro v7 w7 ho7 hg7 _
       have HB7 : Hid (Below wK.heap.size wK w7) := (HB5.out.alloc hs5 _).grown hg7 (by simp; omega) (fun b e => (HO5.out.lt b e).1)
       have HO7 : Hid (w7.ownsRow wK.heap.size 2 1 v7 (keyTo d P k (j + 1)).length ((keyTo d P k (j + 1)).map (Value.int .i64))) := by
        unfold Hid
        rw [keyTo_len, keyTo_succ, List.map_append, HZ.out]
        exact ho7
       clear ho7 hg7
       go_wp2
       go_roundw
       case rel => exact ⟨j + 1, by omega, by go_num, HB7.out, HO7.out⟩
       case measure => simp [intOf]; omega
     ·obtain rfl : j = m := by omega
      have hjL : ¬ j < LN - 1 := by rw [← HM.out]; exact hjm
      have hjE : LN - 1 = j := HM.out.symm
      have HJE := Lib.hid hjE
      clear hjE
      have HOKJ := Lib.hid (owns_below HOK.out.2.1 hbj)
      rw [HVL.out] at HOKJ
      have hal : Below wJ.heap.size wJ (wJ.alloc (.cells #[.slice ja (j + 1) jc] 26)) := (Below.refl _ _).alloc (Nat.le_refl _) _
      clear hbj hbCJ
      go_wp2_with (at_builtin; refine wpList_append_own _ rfl _ _ 85 rfl wC.heap.size 26 i2 (.slice none 0 0) 1 24 Tryz.underlying85 hi2 hz20 hz21 hz22 rfl (by decide) _ k _ rfl (HOKJ.out.alloc _) ⟨wJ.heap.size, 0, none⟩ 1 1 [.slice ja (j + 1) jc] rfl rfl ?c1 ?c2 ?c3 ?c4 ?c5 ?_)
      case c1 => exact World.news_of_block (cs := #[.slice ja (j + 1) jc]) (t := 26) (fr := (0, 0)) (heap_alloc_new _ _)
      case c2 => intro u hu; simp at hu; subst hu; rfl
      case c3 => simp [maxLen]; omega
      case c4 => omega
      case c5 => first | omega | (simp; omega)
      intro v8 w8 ho8 hg8 _
      have HB8 : Hid (Below wC.heap.size wC w8) := (HBCJ.out.alloc HBCJ.out.size _).grown hg8 (by simp; omega) (fun b e => (HOKJ.out.lt b e).1)
      have HK8 : Hid (OwnIntss 26 2 wC.heap.size w8 v8 (vs ++ [.slice ja (j + 1) jc]) (keysTo d P j (k + 1))) := by
       unfold Hid
       rw [keysTo_succ]
       exact OwnIntss.push (B := wK.heap.size) (xs := keyTo d P k j) (by decide) HOK.out (Nat.le_refl _) (HBJ.out.trans (hal.mono hszJ)) (by rw [keyTo_len]; exact owns_below HOJ.out hal) hszK hg8 (by rw [HVL.out]; exact ho8)
      clear ho8 hg8 hal
      go_wp2
      go_roundw
      case rel => exact ⟨k + 1, vs ++ [.slice ja (j + 1) jc], by omega, by go_num, HB8.out, HK8.out⟩
      case measure => simp [intOf]; omega
   ·obtain rfl : k = N := by omega
    have hnk := normalKeys_any wC.heap.size (.slice ka k kc) vs (keysTo d P m k) wK HOK.out (fun row hrow => by
     obtain ⟨q, -, rfl⟩ := List.mem_map.1 hrow
     exact List.cons_ne_nil _ _) (by rw [keysTo_len]; omega)
    have hstep : blocksL (keysTo d P m k) = partsV (goOf d) k m P0 (r + 1) := by rw [keysTo_step, HP.out]; rfl
    rw [hstep] at hnk
    have HNK := Lib.hid hnk
    clear hnk hstep hbk hok t2
    go_wp2_with fail
    refine Calls.mono HNK.out ?_
    rintro e w5 ⟨v5, rfl, hb5, ho5⟩
    rw [partsV_len HPL0.out] at ho5
    obtain ⟨g5, c5, rfl, hg5, hg5w⟩ := own_someP ho5 (by omega)
    have hBC5 := HBK.out.trans (hb5.mono hszK)
    have HBC5 := Lib.hid hBC5
    have HO5 := Lib.hid ho5
    have HOC5 := Lib.hid (owns_below HOC.out hBC5)
    have ck5 := keeps hBC5 hcw (HCC.out.cell 0 rfl)
    have hneq : partsV (goOf d) k m P0 (r + 1) ≠ [] := List.ne_nil_of_length_pos (by rw [partsV_len HPL0.out]; omega)
    have hneP : P ≠ [] := List.ne_nil_of_length_pos (by rw [HPL.out]; omega)
    have HEQ := Lib.hid (EqualI_any wK.heap.size w.heap.size (.slice (some ⟨g5, 0, none⟩) k c5) (.slice (some ⟨gP, 0, none⟩) k cP) (partsV (goOf d) k m P0 (r + 1)) P w5 (SliceK.of_owns (enc := encI) (e := 2) encI_len (partsV_len HPL0.out _).symm (by rw [flat_encI]; exact ho5)) (SliceK.of_owns (enc := encI) (e := 2) encI_len HPL.out.symm (by rw [flat_encI]; exact HOC5.out)) hneq hneP)
    obtain ⟨bq, hbq⟩ : ∃ bq, bq = (partsV (goOf d) k m P0 (r + 1) == P) := ⟨_, rfl⟩
    rw [← hbq] at HEQ
    have HBQ := Lib.hid hbq
    clear hb5 ho5 hneq hneP hbq HNK ct
    go_wp2_with fail
    refine Calls.mono HEQ.out ?_
    rintro e w6 ⟨rfl, hb6⟩
    have hBC6 := hBC5.trans (hb6.mono hBC5.size)
    have HBC6 := Lib.hid hBC6
    have HO6 := Lib.hid (owns_below HO5.out hb6)
    have HOC6 := Lib.hid (owns_below HOC.out hBC6)
    have HC6 := Lib.hid (HCC.out.below hBC6)
    have HT6 := Lib.hid (HTC.out.below hBC6)
    have HR6 := Lib.hid (HRC.out.below hBC6)
    have HW6 := Lib.hid (HBL.out.trans (hBC6.mono hszC))
    have hs6 : w.heap.size ≤ w6.heap.size := HW6.out.size
    have hsKw : w.heap.size ≤ wK.heap.size := by omega
    clear hb6 hBC5 hBC6 HEQ ck5
    cases bq
    ·have y1 := HC6.out.cell 0 rfl
     have y2 := HC6.out.frozen 0
     have hcb6 := HC6.out.lt
     have hneR : partsV (goOf d) k m P0 r ≠ partsV (goOf d) k m P0 (r + 1) := fun e => by
      have h := HBQ.out
      rw [← e, ← HP.out] at h
      simp at h
     have HNE2 : Hid (∀ s, s < r + 1 → partsV (goOf d) k m P0 s ≠ partsV (goOf d) k m P0 (s + 1)) := fun s hs => by
      by_cases e : s = r
      ·rw [e]; exact hneR
      ·exact HNE.out s (by omega)
     have HOS : Hid ((w6.setCell ⟨cb, 0, none⟩ (.slice (some ⟨g5, 0, none⟩) k c5)).ownsRow w.heap.size 2 1 (.slice (some ⟨g5, 0, none⟩) k c5) k ((partsV (goOf d) k m P0 (r + 1)).map (Value.int .i64))) := own_lower (own_sets HO6.out HC6.out (by decide) 0 _) hsKw
     have hnt : tb ≠ cb := blk_blk_ne HT6.out HC6.out (by decide)
     have hnr : tb + 1 ≠ cb := blk_blk_ne HR6.out HC6.out (by decide)
     have HTS := Lib.hid (HT6.out.setOther ⟨cb, 0, none⟩ (.slice (some ⟨g5, 0, none⟩) k c5) hnt)
     have HRS := Lib.hid (HR6.out.setOther ⟨cb, 0, none⟩ (.slice (some ⟨g5, 0, none⟩) k c5) hnr)
     have HCS := Lib.hid (HC6.out.set 0 (.slice (some ⟨g5, 0, none⟩) k c5))
     have hcbw : w.heap.size ≤ cb := by have := HCBW.out; omega
     have HBS := Lib.hid (HW6.out.setCell (show w.heap.size ≤ (⟨cb, 0, none⟩ : Addr).block from hcbw) (.slice (some ⟨g5, 0, none⟩) k c5))
     clear hneR hnt hnr
     go_wp2
     go_roundg (64 - (r + 1))
     case measure => have := HGK.out; omega
     case rel => exact ⟨r + 1, g5, c5, HNE2.out, Nat.le_refl _, HBS.out, HTS.out, HRS.out, HCS.out, HOS.out⟩
    ·have heq : partsV (goOf d) k m P0 r = partsV (goOf d) k m P0 (r + 1) := by
      have h := HBQ.out
      have h2 : partsV (goOf d) k m P0 (r + 1) = P := beq_iff_eq.1 h.symm
      rw [h2, HP.out]
     have hPR : P = restV d V := by rw [HREST.out, HP.out]; exact partsV_last (Nat.le_of_lt hrN) heq
     have hpm : PMem w6.heap.size cb gP cP k P w6 := ⟨HPL.out, fun z hz => by have := HP0.out z hz; exact ⟨this.1, by omega⟩, HC6.out.lt, (HOC6.out.lt gP rfl).2, HC6.out.lt, (HOC6.out.lt gP rfl).2, HC6.out.cell 0 rfl, fun j hj => cell_num HOC6.out hj⟩
     have HEX := Lib.hid (exploredV_any w6.heap.size tb cb gP cP k lo d P (.slice (some ⟨bl, ol, none⟩) LN cl) ev w6 w6 HV.out HSI.out HU.out rfl (Below.refl _ _) hpm HN.out (HLE.out.below HW6.out) (HE.out.below HW6.out) HT6.out (HG.out.below HW6.out) HSH.out)
     have t1 := HT6.out.cell 1 rfl
     have htb6 := HT6.out.lt
     have HPR := Lib.hid hPR
     clear heq hPR hpm
     go_wp2_with fail
     refine Calls.mono HEX.out ?_
     rintro e w7 ⟨hb7, st, lv7, ev7, sv7, bv, hdn, rfl, hol, hoe, hosv⟩
     obtain ⟨la7, lc7, rfl, -, -⟩ := owns_slice hol
     obtain ⟨ea7, ec7, rfl, -, -⟩ := owns_slice hoe
     have HDN := Lib.hid hdn
     obtain ⟨RN, hRN⟩ : ∃ RN, RN = st.rows.length := ⟨_, rfl⟩
     obtain ⟨W8, hW8⟩ : ∃ W8, W8 = w7.alloc (.cells #[.int .i64 RN, .int .i64 0, .slice la7 (sysOf d (mNet st)).labels.length lc7, .slice ea7 (sysOf d (mNet st)).edges.length ec7] 32) := ⟨_, rfl⟩
     have hb8 : Below w7.heap.size w7 W8 := by rw [hW8]; exact (Below.refl _ _).alloc (Nat.le_refl _) _
     have h68 : Below w6.heap.size w6 W8 := hb7.trans (hb8.mono hb7.size)
     have HB8 := Lib.hid (HW6.out.trans (h68.mono hs6))
     have HR8 := Lib.hid (HR6.out.below h68)
     have HOL8 := Lib.hid (own_lower (owns_below hol hb8) hs6)
     have HOE8 := Lib.hid (own_lower (owns_below hoe hb8) hs6)
     have HOS8 := Lib.hid (own_lower (owns_below hosv hb8) hs6)
     have r0 := HR8.out.cell 0 rfl
     have r1 := HR8.out.cell 1 rfl
     have r2 := HR8.out.cell 2 rfl
     have r3 := HR8.out.cell 3 rfl
     have s0 := HR8.out.frozen 0
     have s1 := HR8.out.frozen 1
     have s2 := HR8.out.frozen 2
     have s3 := HR8.out.frozen 3
     have HW8 := Lib.hid hW8
     rw [← hRN]
     have HRN := Lib.hid hRN
     rw [hW8] at r0 r1 r2 r3 s0 s1 s2 s3
     clear hb7 hdn hol hoe hosv hb8 h68 hW8 hRN HEX t1
     go_wp2
     rw [← HW8.out]
     refine bodyPost_ret (mf_results rfl ((((HR8.out.set 0 _).set 1 _).set 2 _).set 3 _)) rfl ?_
     have hrbw : w.heap.size ≤ tb + 1 := by rw [HTB.out]; omega
     refine ⟨(((HB8.out.setCell hrbw _).setCell hrbw _).setCell hrbw _).setCell hrbw _, st, sysOf d (mNet st), _, _, sv7, by rw [show (sysOf d (mNet st)).states = ((RN : Nat) : Int) from by show (((st.rows.map ([·])).length : Nat) : Int) = _; rw [List.length_map, HRN.out]]; rfl, ⟨by rw [← HPR.out]; exact HDN.out, rfl⟩, ⟨?_, ?_⟩, ?_⟩
     ·exact own4 HR8.out HOL8.out (by decide)
     ·exact own4 HR8.out HOE8.out (by decide)
     ·exact own4 HR8.out HOS8.out (by decide)

end Go.Proofs.YtjghfgaincnegaaGreatDoor

namespace Go.Proofs.YtjghfgaincnegaaGreatDoor
open Go Go.RowKit

def MinMonIs (m r : Mon) (code : Int) : Prop :=
 (¬ MonOk m ∧ r = ⟨⟨0, 0, [], []⟩, []⟩ ∧ code = 1) ∨ (MonOk m ∧ (∃ st, MinV m.sys m.vs st r.sys ∧ r.vs = st.rows.map fun x => m.vs.getD x.toNat 0) ∧ code = 0)
theorem MinMonIs.unique {m r r' : Mon} {code code' : Int} (h : MinMonIs m r code) (k : MinMonIs m r' code') : r = r' ∧ code = code' := by
 rcases h with ⟨h1, h2, h3⟩ | ⟨h1, ⟨st, h2, h4⟩, h3⟩ <;> rcases k with ⟨k1, k2, k3⟩ | ⟨k1, ⟨st', k2, k4⟩, k3⟩
 ·exact ⟨h2.trans k2.symm, h3.trans k3.symm⟩
 ·exact absurd k1 h1
 ·exact absurd h1 k1
 ·obtain ⟨e1, e2⟩ := h2.unique k2
  subst e1
  refine ⟨?_, h3.trans k3.symm⟩
  obtain ⟨a, b⟩ := r
  obtain ⟨a', b'⟩ := r'
  simp only at e2 h4 k4
  rw [e2, h4, k4]
theorem MinMonIs.few {m r : Mon} {code : Int} (h : MinMonIs m r code) : r.sys.labels.length ≤ 12 ∧ r.sys.edges.length ≤ 440 ∧ r.vs.length ≤ 40 := by
 rcases h with ⟨-, rfl, -⟩ | ⟨hv, ⟨st, h2, h4⟩, -⟩
 ·simp
 ·have := h2.few hv.valid hv.single hv.len
  refine ⟨this.1, this.2.1, ?_⟩
  rw [h4, List.length_map]
  exact this.2.2
/-- What MinimalMonitor returns. -/
def RetMinM (m : Mon) (w : World) (e : Ending) (w' : World) : Prop :=
 Below w.heap.size w w' ∧ ∃ (r : Mon) (code : Int) (lv ev vv : Value), e = .returned (.tuple #[.agg #[.int .i64 r.sys.states, .int .i64 r.sys.initial, lv, ev, vv], .int .i64 code]) ∧ MinMonIs m r code ∧ OwnMon w.heap.size w' lv ev vv r
theorem minm_none {m : Mon} {w w' : World} (hb : Below w.heap.size w w') (h : ¬ MonOk m) : RetMinM m w (.returned (.tuple #[.agg #[.int .i64 0, .int .i64 0, .slice none 0 0, .slice none 0 0, .slice none 0 0], .int .i64 1])) w' :=
 ⟨hb, ⟨⟨0, 0, [], []⟩, []⟩, 1, _, _, _, rfl, .inl ⟨h, rfl, rfl⟩, ⟨World.ownsRow_nil _ _ _ _, World.ownsRow_nil _ _ _ _⟩, World.ownsRow_nil _ _ _ _⟩

end Go.Proofs.YtjghfgaincnegaaGreatDoor

namespace Go.Proofs.YtjghfgaincnegaaGreatDoor
open Go Go.RowKit

/-- What both searches look for: a trace of b that is none of a; with 'both', one of a that is none of b too. -/
def apart (both : Bool) (p : Int × Int) : Prop := (p.1 < 0 ∧ 0 ≤ p.2) ∨ (both = true ∧ 0 ≤ p.1 ∧ p.2 < 0)
end Go.Proofs.YtjghfgaincnegaaGreatDoor

namespace Go.Proofs.YtjghfgaincnegaaGreatDoor
open Go Go.RowKit

/-- The four slices of the reference's search. -/
structure OwnD (B : Nat) (w : World) (vl vr vb vy : Value) (ls rs bs : List Int) (ys : List ByteArray) : Prop where
 left : w.ownsRow B 2 1 vl ls.length (ls.map (Value.int .i64))
 right : w.ownsRow B 2 1 vr rs.length (rs.map (Value.int .i64))
 before : w.ownsRow B 3 1 vb bs.length (bs.map (Value.int .i64))
 by_ : w.ownsRow B 9 1 vy ys.length (ys.map .string)
 far : vl.ownBlock = none ∨ vl.ownBlock ≠ vr.ownBlock
 far2 : vr.ownBlock = none ∨ vr.ownBlock ≠ vl.ownBlock
theorem OwnD.below {B : Nat} {w w' : World} {vl vr vb vy : Value} {ls rs bs : List Int} {ys : List ByteArray} (h : OwnD B w vl vr vb vy ls rs bs ys) (hb : Below w.heap.size w w') : OwnD B w' vl vr vb vy ls rs bs ys :=
 ⟨owns_below h.left hb, owns_below h.right hb, owns_below h.before hb, owns_below h.by_ hb, h.far, h.far2⟩
theorem OwnD.pushL {B : Nat} {w w1 : World} {o : Obj} {vl vl' vr vb vy : Value} {ls rs bs : List Int} {ys : List ByteArray} {x : Int} (h : OwnD B w vl vr vb vy ls rs bs ys) (hg : (w.alloc o).grownBy w1 vl.ownBlock)
  (ho : w1.ownsRow B 2 1 vl' (ls.length + 1) (ls.map (Value.int .i64) ++ [.int .i64 x])) (ha : vl'.ownBlock = vl.ownBlock ∨ vl'.ownBlock = some (w.alloc o).heap.size) : OwnD B w1 vl' vr vb vy (ls ++ [x]) rs bs ys := by
 have hA := h.below (w' := w.alloc o) ((Below.refl _ _).alloc (Nat.le_refl _) _)
 have hr : ∀ b, vr.ownBlock = some b → b ≠ (w.alloc o).heap.size := fun b e => by have := (hA.right.lt b e).2; omega
 have k1 : vr.ownBlock = none ∨ vr.ownBlock ≠ vl'.ownBlock := by
  cases hv : vr.ownBlock with
  | none => exact .inl rfl
  | some b =>
   refine .inr fun e => ?_
   rcases ha with ha | ha
   ·rcases h.far2 with h0 | h0
    ·rw [hv] at h0; cases h0
    ·exact h0 (by rw [hv, e, ha])
   ·rw [ha] at e; cases e; exact hr _ hv rfl
 have k2 : vl'.ownBlock = none ∨ vl'.ownBlock ≠ vr.ownBlock := by
  rcases k1 with k | k
  ·cases hv : vl'.ownBlock with
   | none => exact .inl rfl
   | some b => exact .inr (by rw [k]; simp)
  ·exact .inr fun e => k e.symm
 exact ⟨by simpa using ho, hA.right.kept hg hA.far2, hA.before.kept hg (own_types hA.before hA.left (by decide)), hA.by_.kept hg (own_types hA.by_ hA.left (by decide)), k2, k1⟩
theorem OwnD.swap {B : Nat} {w : World} {vl vr vb vy : Value} {ls rs bs : List Int} {ys : List ByteArray} (h : OwnD B w vl vr vb vy ls rs bs ys) : OwnD B w vr vl vb vy rs ls bs ys := ⟨h.right, h.left, h.before, h.by_, h.far2, h.far⟩
theorem OwnD.pushR {B : Nat} {w w1 : World} {o : Obj} {vl vr' vr vb vy : Value} {ls rs bs : List Int} {ys : List ByteArray} {x : Int} (h : OwnD B w vl vr vb vy ls rs bs ys) (hg : (w.alloc o).grownBy w1 vr.ownBlock)
  (ho : w1.ownsRow B 2 1 vr' (rs.length + 1) (rs.map (Value.int .i64) ++ [.int .i64 x])) (ha : vr'.ownBlock = vr.ownBlock ∨ vr'.ownBlock = some (w.alloc o).heap.size) : OwnD B w1 vl vr' vb vy ls (rs ++ [x]) bs ys :=
 (h.swap.pushL hg ho ha).swap
end Go.Proofs.YtjghfgaincnegaaGreatDoor

namespace Go.Proofs.YtjghfgaincnegaaGreatDoor
open Go Go.RowKit

theorem info_int64M : (Tryz.prog.info? 2).map (fun i => (i.zero, i.size, i.bytes)) = some (some (.int .i64 0), 1, 8) := by kernel_rfl
theorem info_edgeM : (Tryz.prog.info? 78).map (fun i => (i.zero, i.size, i.bytes)) = some (some (.agg #[.int .i64 0, .int .i64 0, .int .i64 0]), 3, 24) := by kernel_rfl
/-- The search's three slices. -/
structure MMem (B : Nat) (w : World) (vo vs ve : Value) (P : List Int) (st : MNet) : Prop where
 od : OwnD B w vo vs (.slice none 0 0) (.slice none 0 0) (st.rows.map (bkOf P)) st.rows [] []
 ed : w.ownsRow B 78 3 ve st.edges.length (st.edges.flatMap encE)
theorem MMem.below {B : Nat} {w w' : World} {vo vs ve : Value} {P : List Int} {st : MNet} (h : MMem B w vo vs ve P st) (hb : Below w.heap.size w w') : MMem B w' vo vs ve P st := ⟨h.od.below hb, owns_below h.ed hb⟩
theorem MMem.edge {B : Nat} {w w1 w2 : World} {vo vs ve ve' : Value} {P : List Int} {S : List Int} {E : List Edge} {e : Edge} (h : MMem B w vo vs ve P ⟨S, E⟩) (hb : Below w.heap.size w w1) (hg : w1.grownBy w2 ve.ownBlock)
  (ho : w2.ownsRow B 78 3 ve' (E.length + 1) (E.flatMap encE ++ encE e)) : MMem B w2 vo vs ve' P ⟨S, E ++ [e]⟩ := by
 have h1 := h.below hb
 refine ⟨⟨h1.od.left.kept hg (own_types h1.od.left h1.ed (by decide)), h1.od.right.kept hg (own_types h1.od.right h1.ed (by decide)), World.ownsRow_nil _ _ _ _, World.ownsRow_nil _ _ _ _, h1.od.far, h1.od.far2⟩, ?_⟩
 show w2.ownsRow B 78 3 ve' (E ++ [e]).length ((E ++ [e]).flatMap encE)
 rw [List.length_append, List.flatMap_append]
 simpa using ho

end Go.Proofs.YtjghfgaincnegaaGreatDoor

namespace Go.Proofs.YtjghfgaincnegaaGreatDoor
open Go Go.RowKit

/-- A list in blocks that are not touched. -/
theorem own_under {B : Nat} {w w' : World} {base e size n : Nat} {v : Value} {xs : List Value} (h : w.ownsRow base e size v n xs) (hb : Below B w w') (hlt : ∀ b, v.ownBlock = some b → b < B) : w'.ownsRow base e size v n xs := by
 refine ⟨h.1, ?_⟩
 rcases h.2 with hn | ⟨g, cap, cur, rfl, hg, hgg, rest⟩
 ·exact .inl hn
 ·exact .inr ⟨g, cap, cur, rfl, hg, (hb.block g (hlt g rfl)).trans hgg, rest⟩
/-- Two lists lie in different blocks. -/
def FarB (a b : Value) : Prop := ∀ x, a.ownBlock = some x → b.ownBlock ≠ some x
theorem FarB.symm {a b : Value} (h : FarB a b) : FarB b a := fun x hx hy => h x hy hx
theorem FarB.or {a b : Value} (h : FarB a b) : a.ownBlock = none ∨ a.ownBlock ≠ b.ownBlock := by
 cases e : a.ownBlock with
 | none => exact .inl rfl
 | some x => exact .inr fun k => h x e k.symm
theorem FarB.none (b : Value) (n c : Nat) : FarB (.slice none n c) b := fun x hx => by cases hx
theorem FarB.new {a b b' : Value} {N : Nat} (h : FarB a b) (hlt : ∀ x, a.ownBlock = some x → x < N) (hb : b'.ownBlock = b.ownBlock ∨ b'.ownBlock = some N) : FarB a b' := by
 intro x hx hy
 rcases hb with e | e
 ·exact h x hx (by rw [← e]; exact hy)
 ·rw [e] at hy
  injection hy with hy
  have := hlt x hx
  omega
/-- The verdicts found so far, and the box that holds their slice. -/
structure VD (B ob : Nat) (w : World) (vo vs vv : Value) (cs : List Value) (xs : List Int) : Prop where
 row : w.ownsRow B 2 1 vv xs.length (xs.map (Value.int .i64))
 f1 : FarB vv vo
 f2 : FarB vv vs
 blk : Blk w ob cs 34
theorem VD.below {B ob : Nat} {w w' : World} {vo vs vv : Value} {cs : List Value} {xs : List Int} (h : VD B ob w vo vs vv cs xs) (hb : Below w.heap.size w w') : VD B ob w' vo vs vv cs xs := ⟨owns_below h.row hb, h.f1, h.f2, h.blk.below hb⟩
theorem Blk.kept {w w' : World} {b : Nat} {cs : List Value} {t : TypeId} {row : Option Nat} (h : Blk w b cs t) (hg : w.grownBy w' row) (hne : some b ≠ row) : Blk w' b cs t := (hg.block b h.lt hne).trans h
/-- Another list of numbers has grown. -/
theorem VD.growO {B ob : Nat} {w w1 w2 : World} {vo vo' vs vv : Value} {cs : List Value} {xs : List Int} (h : VD B ob w vo vs vv cs xs) (hA : Below w.heap.size w w1) (hg : w1.grownBy w2 vo.ownBlock) {n : Nat} {us : List Value} (ho : w1.ownsRow B 2 1 vo n us)
  (ha : vo'.ownBlock = vo.ownBlock ∨ vo'.ownBlock = some w1.heap.size) : VD B ob w2 vo' vs vv cs xs := by
 have h1 := h.below hA
 exact ⟨h1.row.kept hg h1.f1.or, h1.f1.new (fun x e => (h1.row.lt x e).2) ha, h1.f2, h1.blk.kept hg (blk_own_ne' h1.blk ho (by decide))⟩
theorem VD.growS {B ob : Nat} {w w1 w2 : World} {vo vs vs' vv : Value} {cs : List Value} {xs : List Int} (h : VD B ob w vo vs vv cs xs) (hA : Below w.heap.size w w1) (hg : w1.grownBy w2 vs.ownBlock) {n : Nat} {us : List Value} (ho : w1.ownsRow B 2 1 vs n us)
  (ha : vs'.ownBlock = vs.ownBlock ∨ vs'.ownBlock = some w1.heap.size) : VD B ob w2 vo vs' vv cs xs := by
 have h1 := h.below hA
 exact ⟨h1.row.kept hg h1.f2.or, h1.f1, h1.f2.new (fun x e => (h1.row.lt x e).2) ha, h1.blk.kept hg (blk_own_ne' h1.blk ho (by decide))⟩
/-- The edges have grown. -/
theorem VD.growE {B ob : Nat} {w w1 w2 : World} {vo vs vv ve : Value} {cs : List Value} {xs : List Int} (h : VD B ob w vo vs vv cs xs) (hA : Below w.heap.size w w1) (hg : w1.grownBy w2 ve.ownBlock) {n : Nat} {us : List Value} (ho : w1.ownsRow B 78 3 ve n us) : VD B ob w2 vo vs vv cs xs := by
 have h1 := h.below hA
 exact ⟨h1.row.kept hg (own_types h1.row ho (by decide)), h1.f1, h1.f2, h1.blk.kept hg (blk_own_ne' h1.blk ho (by decide))⟩
/-- One verdict more. -/
theorem VD.push {B ob : Nat} {w w1 w2 : World} {vo vs vv vv' c0 c1 c2 c3 : Value} {xs : List Int} {x : Int} {P : List Int} {st : MNet} {ve : Value} (h : VD B ob w vo vs vv [c0, c1, c2, c3, vv] xs) (hm : MMem B w vo vs ve P st) (hA : Below w.heap.size w w1) (hg : w1.grownBy w2 vv.ownBlock)
  (ho : w2.ownsRow B 2 1 vv' (xs.length + 1) (xs.map (Value.int .i64) ++ [.int .i64 x])) (ha : vv'.ownBlock = vv.ownBlock ∨ vv'.ownBlock = some w1.heap.size) :
  VD B ob (w2.setCell ⟨ob, 4, none⟩ vv') vo vs vv' [c0, c1, c2, c3, vv'] (xs ++ [x]) ∧ MMem B (w2.setCell ⟨ob, 4, none⟩ vv') vo vs ve P st := by
 have h1 := h.below hA
 have m1 := hm.below hA
 have hb2 : Blk w2 ob [c0, c1, c2, c3, vv] 34 := h1.blk.kept hg (blk_own_ne' h1.blk h1.row (by decide))
 have l2 := m1.od.left.kept hg h1.f1.symm.or
 have r2 := m1.od.right.kept hg h1.f2.symm.or
 have e2 : w2.ownsRow B 78 3 ve st.edges.length (st.edges.flatMap encE) := m1.ed.kept hg (own_types m1.ed h1.row (by decide))
 refine ⟨⟨?_, ?_, ?_, hb2.set 4 _⟩, ⟨⟨own_sets l2 hb2 (by decide) 4 _, own_sets r2 hb2 (by decide) 4 _, World.ownsRow_nil _ _ _ _, World.ownsRow_nil _ _ _ _, m1.od.far, m1.od.far2⟩, own_sets e2 hb2 (by decide) 4 _⟩⟩
 ·have := own_sets ho hb2 (by decide) 4 vv'
  rw [List.length_append, List.map_append]
  exact this
 ·exact (h1.f1.symm.new (fun x e => (m1.od.left.lt x e).2) ha).symm
 ·exact (h1.f2.symm.new (fun x e => (m1.od.right.lt x e).2) ha).symm

theorem cell_setV {w : World} {p : Addr} {u : Value} {b o : Nat} (h : b ≠ p.block) : (w.setCell p u).cell? ⟨b, o, none⟩ = w.cell? ⟨b, o, none⟩ := World.cell?_setCell_far _ _ _ _ fun k => h k.symm
/-- A monitor's box filled: the system's four cells, or all five. -/
theorem own4M {w : World} {b : Nat} {x0 x1 x2 x3 x4 v0 v1 v2 v3 : Value} (hb : Blk w b [x0, x1, x2, x3, x4] 34) {base e size n : Nat} {v : Value} {xs : List Value} (h : w.ownsRow base e size v n xs) (he : e ≠ 34) :
  ((((w.setCell ⟨b, 0, none⟩ v0).setCell ⟨b, 1, none⟩ v1).setCell ⟨b, 2, none⟩ v2).setCell ⟨b, 3, none⟩ v3).ownsRow base e size v n xs :=
 own_sets (own_sets (own_sets (own_sets h hb he 0 _) (hb.set 0 _) he 1 _) ((hb.set 0 _).set 1 _) he 2 _) (((hb.set 0 _).set 1 _).set 2 _) he 3 _
theorem own5M {w : World} {b : Nat} {x0 x1 x2 x3 x4 v0 v1 v2 v3 v4 : Value} (hb : Blk w b [x0, x1, x2, x3, x4] 34) {base e size n : Nat} {v : Value} {xs : List Value} (h : w.ownsRow base e size v n xs) (he : e ≠ 34) :
  (((((w.setCell ⟨b, 0, none⟩ v0).setCell ⟨b, 1, none⟩ v1).setCell ⟨b, 2, none⟩ v2).setCell ⟨b, 3, none⟩ v3).setCell ⟨b, 4, none⟩ v4).ownsRow base e size v n xs :=
 own_sets (own4M hb h he) ((((hb.set 0 _).set 1 _).set 2 _).set 3 _) he 4 _

end Go.Proofs.YtjghfgaincnegaaGreatDoor
