/-
  The reference's l12Sets: the deterministic system of a system, with the sets, or that it is too large.
  The reference's drawer of a model and a property: what stands while it draws.
-/
import Derived.Test.YtmeibnhhlknbfaaGreatDoorF14
import Derived.Test.YtmeibnhhlknbfaaGreatDoorF7
import Derived.Maps.AppendAt
import Derived.Handy
namespace Go.Proofs.YtmeibnhhlknbfaaGreatDoor
open Go Go.RowKit

/-- What l12Sets returns. -/
def RetSets (t : Lts) (w : World) (e : Ending) (w' : World) : Prop :=
 Below w.heap.size w w' ∧ ((DFull t ∧ e = .returned (.tuple #[.agg #[.int .i64 0, .int .i64 0, .slice none 0 0, .slice none 0 0], .slice none 0 0, .bool false]))
  ∨ ∃ (st : DNet) (lv vr ve : Value), DOk t st ∧ e = .returned (.tuple #[.agg #[.int .i64 st.rows.length, .int .i64 0, lv, ve], vr, .bool true]) ∧ DMem w.heap.size st vr ve w' ∧ w'.ownsRow w.heap.size 9 1 lv t.labels.length (t.labels.map .string))

theorem sets_results {w : World} {b : Nat} {v0 v1 v2 v3 : Value} {tmps : Array Value} (hc : tmps.getD 2 undef = .pointer (some ⟨b, 0, none⟩)) (hb : Blk w b [v0, v1, v2, v3] 27) :
  (results Tryz.f38 tmps).run Tryz.prog w = .ok (.tuple #[.agg #[v0, v1, v2, v3], tmps.getD 3 undef, tmps.getD 4 undef]) w := by
 have h0 := hb.cell 0 rfl
 have h1 := hb.cell 1 rfl
 have h2 := hb.cell 2 rfl
 have h3 := hb.cell 3 rfl
 simp only [Array.getD_eq_getD_getElem?] at hc
 simp [results, Tryz.results38, go_sem, hc, h0, h1, h2, h3, Result.andThen]

theorem DMem.turns {B lo hi : Nat} {st : DNet} {vr ve : Value} {w w' : World} (h : DMem B st vr ve w) (ht : Turns lo hi w w') (hb : hi ≤ B) : DMem B st vr ve w' := by
 obtain ⟨⟨vs, h1⟩, h2⟩ := h
 exact ⟨⟨vs, h1.turns ht hb⟩, owns_turns h2 ht (fun b e => .inr (Nat.le_trans hb (h2.lt b e).1))⟩
theorem DMem.lower {B B' : Nat} {st : DNet} {vr ve : Value} {w : World} (h : DMem B st vr ve w) (hb : B' ≤ B) : DMem B' st vr ve w := by
 obtain ⟨⟨vs, h1⟩, h2⟩ := h
 exact ⟨⟨vs, h1.lower hb⟩, own_lower h2 hb⟩
theorem dmid_row {t : Lts} {n : Nat} {cur : List Int} {st : DNet} (h : st.rows[n]? = some cur) (j : Nat) : (dmid t n cur st j).rows[n]? = some cur := by
 obtain ⟨⟨r, hr⟩, -⟩ := dmid_le t n cur st 0 j
 rw [Nat.zero_add, dmid_zero] at hr
 rw [hr, List.getElem?_append_left (List.getElem?_eq_some_iff.1 h).1]
 exact h

set_option maxRecDepth 100000 in
set_option maxHeartbeats 8000000 in
theorem l12Sets_any (p lo : Nat) (t : Lts) (w : World) (hv : Valid t) (hp : LtsPtr lo w p t) : Calls Tryz.prog 38 #[.pointer (some ⟨p, 0, none⟩)] w (RetSets t w) := by
 have HV := Lib.hid hv
 have HP := Lib.hid hp
 have hlpos := hv.labels.pos
 have hlmost := hv.labels.most
 obtain ⟨lv, ev, hpl, -, -, q2, -, hls, -⟩ := hp
 obtain ⟨al, cl, rfl, hln, hlc, hlrow⟩ := hls
 have HQ2 := Lib.hid q2
 have HLR := Lib.hid hlrow
 obtain ⟨w0, hw0⟩ : ∃ w0, w0 = w.alloc (.cells #[.int .i64 0, .int .i64 0, .slice none 0 0, .slice none 0 0] 27) := ⟨_, rfl⟩
 have HB0 : Hid (Below w.heap.size w w0) := by unfold Hid; rw [hw0]; exact (Below.refl _ _).alloc (Nat.le_refl _) _
 have HX0 : Hid (Blk w0 w.heap.size [.int .i64 0, .int .i64 0, .slice none 0 0, .slice none 0 0] 27) := by unfold Hid; rw [hw0]; exact Blk.new w _ _
 have hs0 : w0.heap.size = w.heap.size + 1 := by rw [hw0]; simp
 have HC := Lib.hid (l12First_any p lo t w0 hv (HP.out.below HB0.out))
 have HW0 := Lib.hid hw0
 obtain ⟨b0, hb0⟩ : ∃ b0, b0 = w.heap.size := ⟨_, rfl⟩
 rw [← hb0] at HX0 hs0
 have HZ0 := Lib.hid hb0
 obtain ⟨L, hL⟩ : ∃ L, L = t.labels.length := ⟨_, rfl⟩
 rw [← hL] at hlpos hlmost hln HQ2
 have HLL := Lib.hid hL
 have hpb : p < b0 := by rw [hb0]; exact hpl
 clear hv q2 hlrow hw0 hb0
 go_enter Tryz.func38, Tryz.ntmps38
 go_wp2_with fail
 rw [← HW0.out, ← HZ0.out]
 refine Calls.mono HC.out ?_
 rintro e1 w1 ⟨v1, rfl, hb1, ho1⟩
 have HB1 := Lib.hid hb1
 have HO1 := Lib.hid ho1
 obtain ⟨a1, c1, rfl, -, -⟩ := owns_slice ho1
 obtain ⟨B, hB⟩ : ∃ B, B = w0.heap.size := ⟨_, rfl⟩
 rw [← hB] at HB1 HO1 hs0
 have HBB := Lib.hid hB
 have hs1 : B ≤ w1.heap.size := by have := HB1.out.size; omega
 have HSB := Lib.hid hs0
 clear hb1 ho1 HC hB hL hs0
 go_wp2
 go_loopw [5, 6, 7] (fun vr ve i wr => ∃ n : Nat, i = .int .i64 n ∧ DCome t n ∧ DSmall (dAt t n) ∧ Below B w0 wr ∧ DMem B (dAt t n) vr ve wr) (fun _ _ i _ => 64 - (intOf i).toNat)
 case atStart =>
  refine ⟨0, rfl, DCome.zero t, by simp [DSmall, dAt], (HB1.out.alloc hs1 _).alloc (by simp; omega) _, ?_⟩
  have := DMem.start (W := w1) (Nat.le_refl B) hs1 HO1.out
  show DMem B ⟨[firstS t], []⟩ _ _ _
  simpa using this
 case round =>
  clear HO1 HB1 hs1
  obtain ⟨n, rfl, hcome, hsm, hbl, hmem⟩ := hrel
  have HCO := Lib.hid hcome
  have HSM := Lib.hid hsm
  have HBL := Lib.hid hbl
  have HME := Lib.hid hmem
  have HG := Lib.hid (DGood.at HV.out n)
  have hsr := hsm.1
  have hsz := hbl.size
  rw [← HBB.out] at hsz
  obtain ⟨S0, hS0⟩ : ∃ S0, S0 = dAt t n := ⟨_, rfl⟩
  rw [← hS0] at HSM HME HG hsr hmem
  have HS0 := Lib.hid hS0
  obtain ⟨⟨vs, hrows⟩, hed⟩ := hmem
  obtain ⟨av, cv, rfl, -, -⟩ := owns_slice hrows.2.1
  obtain ⟨ae, ce, rfl, -, -⟩ := owns_slice hed
  have hvl : vs.length = S0.rows.length := hrows.1
  rw [hvl] at HME ⊢
  have HRS := Lib.hid hrows
  have HED := Lib.hid hed
  clear hcome hsm hbl hS0 hrows hed
  by_cases hlt : n < S0.rows.length
  ·obtain ⟨cur, hcur⟩ : ∃ cur, S0.rows[n]? = some cur := ⟨_, List.getElem?_eq_getElem hlt⟩
   have HCUR := Lib.hid hcur
   clear hcur HRS HED hvl
   have HL2 := Lib.hid hlt
   go_wp2
   go_loopw [5, 6, 8] (fun vr ve k wr => ∃ j q : Nat, q = j + 1 ∧ k = .int .i64 q ∧ q ≤ L ∧ DSmall (dmid t n cur S0 j) ∧ Below B w0 wr ∧ DMem B (dmid t n cur S0 j) vr ve wr) (fun _ _ k _ => 64 - (intOf k).toNat)
   case atStart => exact ⟨0, 1, rfl, rfl, by omega, HSM.out, HBL.out, HME.out⟩
   case round =>
    clear HBL HME HSM hlt
    obtain ⟨j, q, hq, rfl, hql, hsm, hbl, hmem⟩ := hrel
    obtain ⟨wC, rfl⟩ : ∃ wC : World, wC = wr := ⟨_, rfl⟩
    have HBL := Lib.hid hbl
    have HSM := Lib.hid hsm
    have hszr := hbl.size
    rw [← HBB.out] at hszr
    by_cases hqL : q < L
    ·have HGM := Lib.hid (HG.out.mid HV.out HL2.out cur j (by rw [← HLL.out]; omega))
     have hcm := dmid_row (t := t) HCUR.out j
     have hM2 := hsm.1
     have hM3 := hsm.2
     obtain ⟨M, hM⟩ : ∃ M, M = dmid t n cur S0 j := ⟨_, rfl⟩
     rw [← hM] at HSM HGM hcm hmem hM2 hM3
     have HM := Lib.hid hM
     have hnm := (List.getElem?_eq_some_iff.1 hcm).1
     have hce := (List.getElem?_eq_some_iff.1 hcm).2
     have HME := Lib.hid hmem
     obtain ⟨⟨vs, hrows⟩, hed⟩ := hmem
     have hvl : vs.length = M.rows.length := hrows.1
     have HRS := Lib.hid hrows
     have HED := Lib.hid hed
     obtain ⟨bv, cv, u, rfl, hbv, hcu, hou, hsu⟩ := hrows.rowAt hnm
     obtain ⟨ae, ce, rfl, -, -⟩ := owns_slice hed
     rw [hce] at hsu
     have HSU := Lib.hid hsu
     have q2 := keeps HBL.out (by have := HSB.out; omega) (keeps HB0.out hpl HQ2.out)
     have hqi : ((q : Nat) : Int) = (j : Int) + 1 := by omega
     have HN := Lib.hid (l12Next_any p lo B t u cur q wC HV.out ((HP.out.below HB0.out).below (HBL.out.mono (by rw [HBB.out]; exact Nat.le_refl _))) HSU.out)
     rw [hqi] at HN
     have HQ := Lib.hid hqi
     obtain ⟨nx, hnx⟩ : ∃ nx, nx = nextS t cur ((j : Int) + 1) := ⟨_, rfl⟩
     rw [← hnx, ← hqi] at HN
     have HNX := Lib.hid hnx
     obtain ⟨R, hR⟩ : ∃ R, R = M.rows.length := ⟨_, rfl⟩
     rw [← hR] at hM2 hnm hvl HRS HME ⊢
     have HR := Lib.hid hR
     obtain ⟨E, hE⟩ : ∃ E, E = M.edges.length := ⟨_, rfl⟩
     rw [← hE] at hM3 HED HME ⊢
     have HE := Lib.hid hE
     have HQJ := Lib.hid hq
     clear hsm hM hcm hce hrows hed hou hsu hqi hnx hbl hR hE hq
     go_wp2_with fail
     refine Calls.mono HN.out ?_
     rintro e2 w2 ⟨v2, rfl, hb2, ho2⟩
     have HB2 := Lib.hid (HBL.out.trans (hb2.mono hszr))
     have HRW := Lib.hid ho2
     have HRS2 := Lib.hid (HRS.out.below hb2)
     have HED2 := Lib.hid (owns_below HED.out hb2)
     have HME2 := Lib.hid (HME.out.below hb2)
     have hsz2 : wC.heap.size ≤ w2.heap.size := hb2.size
     have HBC := Lib.hid hb2
     have HS2 := Lib.hid (SliceK.of_owns (enc := encI) encI_len rfl (by rw [flat_encI]; exact ho2))
     obtain ⟨a2, c2, rfl, -, -⟩ := owns_slice ho2
     clear hb2 ho2 HN HBL HME HSU q2 hcu
     by_cases hem : nx = []
     ·subst hem
      have HST : Hid (dmid t n cur S0 (j + 1) = M) := by
       unfold Hid
       rw [dmid_succ, HM.out]
       exact dstep_none HNX.out.symm
      go_wp2
      go_roundw
      case rel =>
       refine ⟨j + 1, q + 1, by have := HQJ.out; omega, by go_num, by omega, ?_, HB2.out, ?_⟩
       ·rw [HST.out]; exact HSM.out
       ·rw [HST.out]; exact HME2.out
      case measure => simp [intOf]; omega
     ·have hnz : nx.length ≠ 0 := fun h => hem (List.eq_nil_of_length_eq_zero h)
      have HNE : Hid (nextS t cur ((j : Int) + 1) ≠ []) := by unfold Hid; rw [← HNX.out]; exact hem
      obtain ⟨NL, hNL⟩ : ∃ NL, NL = nx.length := ⟨_, rfl⟩
      rw [← hNL] at hnz HRW HS2 ⊢
      have HNL := Lib.hid hNL
      have hnb : (((NL : Nat) : Int) == 0) = false := by rw [beq_eq_false_iff_ne]; omega
      have hnd := HGM.out.nodup
      have HND := Lib.hid hnd
      clear hem hNL hnd hnz
      go_wp2
      go_loopw [10, 11] (fun v10 v11 w3 => ∃ m : Nat, m ≤ R ∧ v11 = .int .i64 m ∧ v10 = .int .i64 (seenAt M.rows nx m) ∧ Below w2.heap.size w2 w3) (fun _ v11 _ => R - (intOf v11).toNat)
      case atStart => exact ⟨0, Nat.zero_le _, rfl, by rw [seenAt_zero], Below.refl _ _⟩
      case round =>
       obtain ⟨m, hm, rfl, rfl, hb3⟩ := hrel
       have HB3 := Lib.hid hb3
       have hs3 := hb3.size
       clear hb3
       by_cases hmt : m < R
       ·have hmr : m < M.rows.length := by rw [← HR.out]; exact hmt
        obtain ⟨b5, c5, u5, e5, hb5, hc5, -, hsu5⟩ := (HRS2.out.below HB3.out).rowAt hmr
        simp only [Value.slice.injEq, Option.some.injEq, Addr.mk.injEq, and_true] at e5
        obtain ⟨rfl, -, rfl⟩ := e5
        have HSA := Lib.hid (l00Same_any _ _ u5 _ M.rows[m] nx wr hsu5 (HS2.out.below HB3.out))
        clear hsu5
        cases hs : (M.rows[m] == nx)
        ·rw [hs] at HSA
         have HSE := Lib.hid (seenAt_miss hmr hs)
         clear hs
         go_wp2_with fail
         refine Calls.mono HSA.out ?_
         rintro e6 w6 ⟨rfl, hb6⟩
         have HB6 := Lib.hid (HB3.out.trans (hb6.mono hs3))
         clear hb6
         go_wp2
         go_roundw
         case rel => exact ⟨m + 1, by omega, by go_num, by rw [HSE.out], HB6.out⟩
         case measure => simp [intOf]; omega
        ·rw [hs] at HSA
         have HSE := Lib.hid (seenAt_hit HND.out hmr hs)
         clear hs
         go_wp2_with fail
         refine Calls.mono HSA.out ?_
         rintro e6 w6 ⟨rfl, hb6⟩
         have HB6 := Lib.hid (HB3.out.trans (hb6.mono hs3))
         clear hb6
         go_wp2
         go_roundw
         case rel => exact ⟨m + 1, by omega, by go_num, by rw [HSE.out], HB6.out⟩
         case measure => simp [intOf]; omega
       ·have hmR : R = m := by omega
        subst hmR
        have HBr := Lib.hid (HB2.out.trans (HB3.out.mono (by omega)))
        have HED3 := Lib.hid (owns_below HED2.out HB3.out)
        have HME3 := Lib.hid (HME2.out.below HB3.out)
        have HRS3 := Lib.hid (HRS2.out.below HB3.out)
        have HRW3 := Lib.hid (owns_below HRW.out HB3.out)
        have HBC3 := Lib.hid (HBC.out.trans (HB3.out.mono hsz2))
        clear HED2 HME2 HRS2 HRW HBC HB3 HB2 HS2 hmt
        by_cases hdp : dplace M.rows nx < M.rows.length
        ·obtain ⟨pn, hpn⟩ : ∃ pn, pn = dplace M.rows nx := ⟨_, rfl⟩
         have hse : seenAt M.rows nx R = (pn : Int) := by unfold seenAt; rw [HR.out, if_pos hdp, hpn]
         rw [hse]
         have HST : Hid (dmid t n cur S0 (j + 1) = ⟨M.rows, M.edges ++ [⟨(n : Int), (q : Int), (pn : Int)⟩]⟩) := by
          have := dstep_old (t := t) (i := n) (cur := cur) (st := M) (k := j) HNE.out (by rw [← HNX.out]; exact hdp)
          unfold Hid
          rw [dmid_succ, ← HM.out, this, ← HNX.out, ← hpn, HQ.out]
         clear hse hpn hdp
         by_cases h300 : E = 300
         ·have HFU : Hid (DFull t) := DFull.edge HCO.out (by rw [← HS0.out]; exact HCUR.out) (by rw [← HLL.out]; have := HQJ.out; omega) HNE.out (by rw [← HS0.out, ← HM.out, ← HE.out]; exact h300)
          clear HED3 HME3 HRS3 HRW3 HRS HED
          have HXX := Lib.hid (HX0.out.belowB HBr.out (by have := HSB.out; omega))
          have x0 := HXX.out.cell 0 rfl
          have x1 := HXX.out.cell 1 rfl
          have x2 := HXX.out.cell 2 rfl
          have x3 := HXX.out.cell 3 rfl
          have y0 := HXX.out.frozen 0
          have y1 := HXX.out.frozen 1
          have y2 := HXX.out.frozen 2
          have y3 := HXX.out.frozen 3
          have HBW := Lib.hid (HB0.out.trans (HBr.out.mono (by rw [HSB.out, HZ0.out]; omega)))
          go_wp2

          refine bodyPost_ret (sets_results rfl ((((HXX.out.set 0 _).set 1 _).set 2 _).set 3 _)) rfl ?_
          exact ⟨(((HBW.out.setCell (by rw [HZ0.out]; exact Nat.le_refl _) _).setCell (by rw [HZ0.out]; exact Nat.le_refl _) _).setCell (by rw [HZ0.out]; exact Nat.le_refl _) _).setCell (by rw [HZ0.out]; exact Nat.le_refl _) _, .inl ⟨HFU.out, rfl⟩⟩
         ·clear HRS3 HRW3 HRS HED
          obtain ⟨ie, hie, hze0, hze1, hze2⟩ := info_parts info_edge19
          go_wp2_with (at_builtin; refine wpList_append_own_at _ rfl _ _ 25 rfl B 59 ie (.agg #[.int .i64 0, .int .i64 0, .int .i64 0]) 3 24 Tryz.underlying25 hie hze0 hze1 hze2 rfl (by decide) _ _ _ rfl (HED3.out.alloc _) ⟨wr.heap.size, 0, none⟩ 1 1 [.int .i64 n, .int .i64 q, .int .i64 pn] rfl rfl ?c1 ?c2 ?c3 ?c4 ?c5 ?_)
          case c1 => have := three_new wr ⟨n, q, pn⟩ 59; simpa [encE] using this
          case c2 => first | (intro u hu; simp at hu; rcases hu with rfl | rfl | rfl <;> rfl) | exact ⟨rfl, rfl, rfl⟩ | simp [Value.oneCell']
          case c3 => first | omega | (simp [maxLen]; omega)
          case c4 => first | omega | (simp; omega)
          case c5 => first | omega | (simp; omega)
          intro v5 w5 ho5 hg5 _ _
          have hal5 : Below wr.heap.size wr (wr.alloc (.cells #[.int .i64 n, .int .i64 q, .int .i64 pn] 59)) := (Below.refl _ _).alloc (Nat.le_refl _) _
          have HNET := Lib.hid (DMem.push_edge (e := ⟨(n : Int), (q : Int), (pn : Nat)⟩) HME3.out hal5 hg5 (by simpa [encE, ← HE.out] using ho5))
          have HB5 : Hid (Below B w0 w5) := (HBr.out.alloc (by omega) _).grown hg5 (by simp; omega) (fun b e => (HED3.out.lt b e).1)
          clear ho5 hg5 hal5
          go_wp2
          go_roundw
          case rel =>
           refine ⟨j + 1, q + 1, by have := HQJ.out; omega, by go_num, by omega, ?_, HB5.out, ?_⟩
           ·rw [HST.out]; exact ⟨HSM.out.1, by have := HE.out; simp; omega⟩
           ·rw [HST.out]; exact HNET.out
          case measure => simp [intOf]; omega
        ·have hse : seenAt M.rows nx R = -1 := by unfold seenAt; rw [HR.out, if_neg hdp]
         rw [hse]
         have HST : Hid (dmid t n cur S0 (j + 1) = ⟨M.rows ++ [nx], M.edges ++ [⟨(n : Int), (q : Int), (R : Int)⟩]⟩) := by
          have := dstep_new (t := t) (i := n) (cur := cur) (st := M) (k := j) HNE.out (by rw [← HNX.out]; exact hdp)
          unfold Hid
          rw [dmid_succ, ← HM.out, this, ← HNX.out, ← HR.out, HQ.out]
         have HDP := Lib.hid hdp
         clear hse hdp
         by_cases h40 : R = 40
         ·have HFU : Hid (DFull t) := DFull.row HCO.out (by rw [← HS0.out]; exact HCUR.out) (by rw [← HLL.out]; have := HQJ.out; omega) HNE.out (by rw [← HS0.out, ← HM.out, ← HNX.out]; exact HDP.out) (by rw [← HS0.out, ← HM.out, ← HR.out]; exact h40)
          clear HED3 HME3 HRS3 HRW3 HRS HED
          have HXX := Lib.hid (HX0.out.belowB HBr.out (by have := HSB.out; omega))
          have x0 := HXX.out.cell 0 rfl
          have x1 := HXX.out.cell 1 rfl
          have x2 := HXX.out.cell 2 rfl
          have x3 := HXX.out.cell 3 rfl
          have y0 := HXX.out.frozen 0
          have y1 := HXX.out.frozen 1
          have y2 := HXX.out.frozen 2
          have y3 := HXX.out.frozen 3
          have HBW := Lib.hid (HB0.out.trans (HBr.out.mono (by rw [HSB.out, HZ0.out]; omega)))
          go_wp2

          refine bodyPost_ret (sets_results rfl ((((HXX.out.set 0 _).set 1 _).set 2 _).set 3 _)) rfl ?_
          exact ⟨(((HBW.out.setCell (by rw [HZ0.out]; exact Nat.le_refl _) _).setCell (by rw [HZ0.out]; exact Nat.le_refl _) _).setCell (by rw [HZ0.out]; exact Nat.le_refl _) _).setCell (by rw [HZ0.out]; exact Nat.le_refl _) _, .inl ⟨HFU.out, rfl⟩⟩
         ·obtain ⟨i0, hi, hz0, hz1, hz2⟩ := info_parts info_ints19
          have HRC : Hid (wr.ownsRow B 28 1 (.slice (some ⟨bv, 0, none⟩) R cv) R vs) := by
           have := HRS3.out.2.1
           rw [hvl] at this
           exact this
          go_wp2_with (at_builtin; refine wpList_append_own_at _ rfl _ _ 71 rfl B 28 i0 (.slice none 0 0) 1 24 Tryz.underlying71 hi hz0 hz1 hz2 rfl (by decide) _ _ _ rfl (HRC.out.alloc _) ⟨wr.heap.size, 0, none⟩ 1 1 [.slice a2 NL c2] rfl rfl ?c1 ?c2 ?c3 ?c4 ?c5 ?_)
          case c1 => exact (cell_one_new _ _ _)
          case c2 => first | rfl | (intro u hu; simp at hu; subst hu; rfl)
          case c3 => first | omega | (simp [maxLen]; omega)
          case c4 => first | omega | (simp; omega)
          case c5 => first | omega | (simp; omega)
          intro v3 w3 ho3 hg3 _ _
          have hal3 : Below wr.heap.size wr (wr.alloc (.cells #[.slice a2 NL c2] 28)) := (Below.refl _ _).alloc (Nat.le_refl _) _
          have HN3 := Lib.hid (DMem.push_row (xs := nx) HRS.out (by rw [← HE.out]; exact HED.out) (HBC3.out.trans (hal3.mono HBC3.out.size)) (by rw [← HNL.out]; exact owns_below HRW3.out hal3) (Nat.le_refl _) hszr hg3 (by rw [hvl]; exact ho3))
          have HB3 : Hid (Below B w0 w3) := (HBr.out.alloc (by omega) _).grown hg3 (by simp; omega) (fun b e => (HRC.out.lt b e).1)
          have hs3b : B ≤ w3.heap.size := by have h1 := HB3.out.size; have h2 := HBB.out; omega
          obtain ⟨a3, c3, rfl, -, -⟩ := owns_slice ho3
          clear ho3 hg3 hal3 HED3 HME3 HRS3 HRW3 HRS HED HRC
          by_cases h300 : E = 300
          ·have HFU : Hid (DFull t) := DFull.edge HCO.out (by rw [← HS0.out]; exact HCUR.out) (by rw [← HLL.out]; have := HQJ.out; omega) HNE.out (by rw [← HS0.out, ← HM.out, ← HE.out]; exact h300)
           have HXX := Lib.hid (HX0.out.belowB HB3.out (by have := HSB.out; omega))
           have x0 := HXX.out.cell 0 rfl
           have x1 := HXX.out.cell 1 rfl
           have x2 := HXX.out.cell 2 rfl
           have x3 := HXX.out.cell 3 rfl
           have y0 := HXX.out.frozen 0
           have y1 := HXX.out.frozen 1
           have y2 := HXX.out.frozen 2
           have y3 := HXX.out.frozen 3
           have HBW := Lib.hid (HB0.out.trans (HB3.out.mono (by rw [HSB.out, HZ0.out]; omega)))
           go_wp2

           refine bodyPost_ret (sets_results rfl ((((HXX.out.set 0 _).set 1 _).set 2 _).set 3 _)) rfl ?_
           exact ⟨(((HBW.out.setCell (by rw [HZ0.out]; exact Nat.le_refl _) _).setCell (by rw [HZ0.out]; exact Nat.le_refl _) _).setCell (by rw [HZ0.out]; exact Nat.le_refl _) _).setCell (by rw [HZ0.out]; exact Nat.le_refl _) _, .inl ⟨HFU.out, rfl⟩⟩
          ·have HED3 : Hid (w3.ownsRow B 59 3 (.slice ae E ce) E (M.edges.flatMap encE)) := by
            have := HN3.out.2
            rw [← HE.out] at this
            exact this
           obtain ⟨ie, hie, hze0, hze1, hze2⟩ := info_parts info_edge19
           go_wp2_with (at_builtin; refine wpList_append_own_at _ rfl _ _ 25 rfl B 59 ie (.agg #[.int .i64 0, .int .i64 0, .int .i64 0]) 3 24 Tryz.underlying25 hie hze0 hze1 hze2 rfl (by decide) _ _ _ rfl (HED3.out.alloc _) ⟨w3.heap.size, 0, none⟩ 1 1 [.int .i64 n, .int .i64 q, .int .i64 R] rfl rfl ?c1 ?c2 ?c3 ?c4 ?c5 ?_)
           case c1 => have := three_new w3 ⟨n, q, R⟩ 59; simpa [encE] using this
           case c2 => first | (intro u hu; simp at hu; rcases hu with rfl | rfl | rfl <;> rfl) | exact ⟨rfl, rfl, rfl⟩ | simp [Value.oneCell']
           case c3 => first | omega | (simp [maxLen]; omega)
           case c4 => first | omega | (simp; omega)
           case c5 => first | omega | (simp; omega)
           intro v5 w5 ho5 hg5 _ _
           have hal5 : Below w3.heap.size w3 (w3.alloc (.cells #[.int .i64 n, .int .i64 q, .int .i64 R] 59)) := (Below.refl _ _).alloc (Nat.le_refl _) _
           have HNET := Lib.hid (DMem.push_edge (e := ⟨(n : Int), (q : Int), (R : Nat)⟩) HN3.out hal5 hg5 (by simpa [encE, ← HE.out] using ho5))
           have HB5 : Hid (Below B w0 w5) := (HB3.out.alloc (by omega) _).grown hg5 (by simp; omega) (fun b e => (HED3.out.lt b e).1)
           clear ho5 hg5 hal5
           go_wp2
           go_roundw
           case rel =>
            refine ⟨j + 1, q + 1, by have := HQJ.out; omega, by go_num, by omega, ?_, HB5.out, ?_⟩
            ·rw [HST.out]; exact ⟨by have := HR.out; simp; omega, by have := HE.out; simp; omega⟩
            ·rw [HST.out]; exact HNET.out
           case measure => simp [intOf]; omega
    ·have hcs : (dAt t n).rows[n]? = some cur := by rw [← HS0.out]; exact HCUR.out
     have HDA : Hid (dAt t (n + 1) = dmid t n cur S0 j) := by
      have h1 := dAt_succ (t := t) hcs
      unfold Hid
      rw [h1, ← HS0.out, ← HLL.out, show L - 1 = j from by omega]
     have HCN := Lib.hid (HCO.out.succ (by rw [← HS0.out]; exact HL2.out))
     have HQJ := Lib.hid hq
     have HME := Lib.hid hmem
     have q2 := keeps HBL.out (by have := HSB.out; omega) (keeps HB0.out hpl HQ2.out)
     clear hsm hbl hmem hcs hq
     have hn40 : n < 40 := by have := HL2.out; omega
     go_wp2
     go_roundw
     case rel =>
      refine ⟨n + 1, by go_num, HCN.out, ?_, HBL.out, ?_⟩
      ·rw [HDA.out]; exact HSM.out
      ·rw [HDA.out]; exact HME.out
     case measure => have := HL2.out; simp [intOf]; omega
  ·have HOK : Hid (DOk t S0) := by
    unfold Hid
    rw [HS0.out]
    exact DOk.done HCO.out (by rw [← HS0.out]; exact HSM.out) (by rw [← HS0.out]; exact hlt)
   have q2 := keeps HBL.out (by have := HSB.out; omega) (keeps HB0.out hpl HQ2.out)
   obtain ⟨wM, rfl⟩ : ∃ wM : World, wM = wr := ⟨_, rfl⟩
   have hpw : p < wM.heap.size := by have := HSB.out; omega
   have HXX := Lib.hid (HX0.out.belowB HBL.out (by have := HSB.out; omega))
   have hbw : b0 < wM.heap.size := HXX.out.lt
   obtain ⟨is, his, hsz0, hsz1, hsz2⟩ := info_parts info_str19
   obtain ⟨R, hR⟩ : ∃ R, R = S0.rows.length := ⟨_, rfl⟩
   obtain ⟨E, hE⟩ : ∃ E, E = S0.edges.length := ⟨_, rfl⟩
   rw [← hR, ← hE] at HME
   rw [← hR] at hlt hsr
   rw [← hR, ← hE]
   have HR := Lib.hid hR
   have HE := Lib.hid hE
   obtain ⟨bl, ol, rfl, hblw, hcells⟩ : ∃ bl ol, al = some ⟨bl, ol, none⟩ ∧ bl < w.heap.size ∧ ∀ i (h : i < t.labels.length) j, j < 1 → w.cell? ⟨bl, ol + i * 1 + j, none⟩ = (encS t.labels[i])[j]? := by
    rcases HLR.out with h | ⟨bl, ol, h1, -, h3, h4⟩
    ·have := HLL.out; omega
    ·exact ⟨bl, ol, h1, h3, h4⟩
   have HCE : Hid (∀ o, ∀ j u, (t.labels.map Value.string)[j]? = some u → (wM.alloc o).cell? ((⟨bl, ol, none⟩ : Addr).add j) = some u) := by
    intro o j u hu
    have h1 := row_news hcells j u hu
    have hb : Below w.heap.size w (wM.alloc o) := (HB0.out.trans (HBL.out.mono (by rw [HSB.out, HZ0.out]; omega))).alloc (by have := HZ0.out; omega) _
    exact (hb.cell (p := (⟨bl, ol, none⟩ : Addr).add j) (by rw [add_block]; exact hblw)).trans h1
   have HON : Hid ((wM.alloc (.cells #[] 9)).ownsRow B 9 1 (.slice (some ⟨wM.heap.size, 0, none⟩) 0 0) 0 []) := World.ownsRow_lit (size := 1) wM #[] 0 hsz (by decide) rfl
   clear HCO HS0 HG hcells hR hE HRS HED hvl
   go_wp2_with (at_builtin; refine wpList_append_own_at _ rfl _ _ 24 rfl B 9 is (.string ⟨#[]⟩) 1 16 Tryz.underlying24 his hsz0 hsz1 hsz2 rfl (by decide) _ _ _ rfl HON.out ⟨bl, ol, none⟩ L cl (t.labels.map .string) rfl ?c0 (HCE.out _) ?c2 ?c3 ?c4 ?c5 ?_)
   case c0 => rw [List.length_map, ← HLL.out, Nat.mul_one]
   case c2 => intro u hu; obtain ⟨x, -, rfl⟩ := List.mem_map.1 hu; rfl
   case c3 => first | omega | (simp [maxLen]; omega)
   case c4 => first | omega | (simp; omega)
   case c5 => first | omega | (simp; omega)
   intro v5 w5 ho5 hg5 _ _
   have hal5 : Below wM.heap.size wM (wM.alloc (.cells #[] 9)) := (Below.refl _ _).alloc (Nat.le_refl _) _
   have hb5 : Below wM.heap.size wM w5 := hal5.grown hg5 (by simp) (fun b e => by cases e; exact Nat.le_refl _)
   have HX5 := Lib.hid (HXX.out.below hb5)
   have HO5 : Hid (w5.ownsRow B 9 1 v5 L (t.labels.map .string)) := by unfold Hid; simpa using ho5
   have HME5 := Lib.hid (HME.out.below hb5)
   have HB5 := Lib.hid (HBL.out.trans (hb5.mono hsz))
   obtain ⟨a5, c5, rfl, -, -⟩ := owns_slice HO5.out
   clear ho5 hg5 hal5 hb5
   have x0 := HX5.out.cell 0 rfl
   have x1 := HX5.out.cell 1 rfl
   have x2 := HX5.out.cell 2 rfl
   have x3 := HX5.out.cell 3 rfl
   have y0 := HX5.out.frozen 0
   have y1 := HX5.out.frozen 1
   have y2 := HX5.out.frozen 2
   have y3 := HX5.out.frozen 3
   go_wp2
   refine bodyPost_ret (sets_results rfl ((((HX5.out.set 0 _).set 1 _).set 2 _).set 3 _)) rfl ?_
   have hlo : w.heap.size ≤ B := by rw [HSB.out, HZ0.out]; omega
   have hbB : b0 < B := by rw [HSB.out]; omega
   have hT : Turns 0 B w5 ((((w5.setCell ⟨b0, 0, none⟩ (.int .i64 R)).setCell ⟨b0, 1, none⟩ (.int .i64 0)).setCell ⟨b0, 2, none⟩ (.slice a5 L c5)).setCell ⟨b0, 3, none⟩ (.slice ae E ce)) :=
    turns_trans (turns_trans (turns_trans (turns_set _ _ _ (Nat.zero_le _) hbB) (turns_set _ _ _ (Nat.zero_le _) hbB)) (turns_set _ _ _ (Nat.zero_le _) hbB)) (turns_set _ _ _ (Nat.zero_le _) hbB)
   have HBW := Lib.hid (HB0.out.trans (HB5.out.mono hlo))
   refine ⟨(((HBW.out.setCell (by rw [HZ0.out]; exact Nat.le_refl _) _).setCell (by rw [HZ0.out]; exact Nat.le_refl _) _).setCell (by rw [HZ0.out]; exact Nat.le_refl _) _).setCell (by rw [HZ0.out]; exact Nat.le_refl _) _, .inr ⟨S0, .slice a5 L c5, _, _, HOK.out, by rw [← HR.out]; rfl, (HME5.out.turns hT (Nat.le_refl _)).lower hlo, ?_⟩⟩
   rw [← HLL.out]
   exact own_lower (owns_turns HO5.out hT (fun b e => .inr (HO5.out.lt b e).1)) hlo

end Go.Proofs.YtmeibnhhlknbfaaGreatDoor

namespace Go.Proofs.YtmeibnhhlknbfaaGreatDoor
open Go Go.RowKit


/-- A valid system with few and short labels. -/
structure PGood (p : Lts) : Prop where
 valid : Valid p
 few : p.labels.length ≤ 11
 short : ∀ l ∈ p.labels, l.size ≤ 6
theorem PGood.bend {p : Lts} (h : PGood p) : BendIn 11 300 p := ⟨⟨h.valid.st0, h.valid.st1⟩, h.valid.labels.pos, h.few, h.short, h.valid.most⟩
theorem nm_ok : ∀ l ∈ nmAll, l ≠ tauT → labelOk l.data.toList = true := by
 intro l hl ht
 simp only [nmAll, nmL, List.mem_cons, List.not_mem_nil, or_false] at hl
 rcases hl with rfl | rfl | rfl | rfl | rfl | rfl
 ·exact absurd rfl ht
 ·decide
 ·decide
 ·decide
 ·decide
 ·decide
theorem DrawnOk.good {M : Nat} {t : Lts} (h : DrawnOk M t) (hM : M ≤ 300) : PGood t where
 valid := {
  st0 := h.st.1
  st1 := by have := h.st.2; omega
  in0 := h.init.1
  in1 := h.init.2
  labels := labelsOk_of h.asc h.tau (by have := h.few; omega) fun l hl ht => nm_ok l (h.names l hl) ht
  most := Nat.le_trans h.most hM
  edge := fun i hi => by
   obtain ⟨h1, h2, h3⟩ := h.edge _ (List.getElem_mem hi)
   exact ⟨h1.1, h1.2, h3.1, h3.2, h2.1, h2.2⟩
  rise := fun i hi => List.pairwise_iff_getElem.1 h.rise i (i + 1) (by omega) hi (by omega) }
 few := by have := h.few; omega
 short := fun l hl => nm_short l (h.names l hl)
theorem LooseG.good {F M : Nat} {t : Lts} (h : LooseG F M t) (hv : Valid t) (hF : F ≤ 11) : PGood t := ⟨hv, Nat.le_trans h.few hF, h.short⟩
def eraseE (p : Lts) (k : Nat) : Lts := ⟨p.states, p.initial, p.labels, p.edges.eraseIdx k⟩
theorem PGood.erase {p : Lts} (h : PGood p) (k : Nat) : PGood (eraseE p k) where
 valid := {
  st0 := h.valid.st0
  st1 := h.valid.st1
  in0 := h.valid.in0
  in1 := h.valid.in1
  labels := h.valid.labels
  most := by
   have h1 : (p.edges.eraseIdx k).length ≤ p.edges.length := (List.eraseIdx_sublist _ _).length_le
   have := h.valid.most
   show (p.edges.eraseIdx k).length ≤ 300
   omega
  edge := fun i hi => by
   have hm : (eraseE p k).edges[i] ∈ p.edges := (List.eraseIdx_sublist _ _).subset (List.getElem_mem hi)
   obtain ⟨j, hj, e⟩ := List.mem_iff_getElem.1 hm
   have := h.valid.edge j hj
   rw [e] at this
   exact ⟨this.s0, this.s1, this.d0, this.d1, this.l0, this.l1⟩
  rise := fun i hi => List.pairwise_iff_getElem.1 (rise_eraseD (riseE_validD h.valid) k) i (i + 1) (by have h2 : i + 1 < (p.edges.eraseIdx k).length := hi; omega) hi (by omega) }
 few := h.few
 short := h.short
theorem BendIn.erase {p : Lts} (h : BendIn 11 300 p) (k : Nat) : BendIn 11 300 (eraseE p k) := ⟨h.st, h.pos, h.few, h.short, Nat.le_trans (List.eraseIdx_sublist _ _).length_le h.most⟩

section
variable {sb m ra rc ab : Nat} {a : Lts} {la ea : Value} {w0 w w' : World}
/-- The first system is laid anew. -/
theorem PEnv.store (h : PEnv sb m ra rc ab a la ea w0 w) {b : Lts} {lb eb : Value} (ho : OwnLts w0.heap.size w lb eb b) : PEnv sb m ra rc ab b lb eb w0 ((((w.setCell ⟨ab, 0, none⟩ (.int .i64 b.states)).setCell ⟨ab, 1, none⟩ (.int .i64 b.initial)).setCell ⟨ab, 2, none⟩ lb).setCell ⟨ab, 3, none⟩ eb) :=
 ⟨drew_put4 h.drew h.abl h.sbl, h.sbl, ⟨own_put4D h.abox ho.1 (by decide), own_put4D h.abox ho.2 (by decide)⟩, put4D h.abox, blk_put4D h.rbox (fun e => h.nar e.symm), blk_put4D h.cbox (fun e => h.nac e.symm), h.abl, h.ral, h.rcl, h.nar, h.nac, h.nrc⟩
theorem PEnv.ptr (h : PEnv sb m ra rc ab a la ea w0 w) : LtsPtr w0.heap.size w ab a :=
 ⟨_, _, h.abox.lt, h.abox.cell 0 rfl, h.abox.cell 1 rfl, h.abox.cell 2 rfl, h.abox.cell 3 rfl, SliceK.of_owns (enc := encS) (e := 9) encS_len rfl (by rw [flat_encS]; exact h.own.1), SliceK.of_owns (e := 59) encE_len rfl h.own.2⟩
end
/-- What stands while the property is drawn. -/
structure UEnv (sb m ra rc ab bb Be : Nat) (a : Lts) (la ea : Value) (p : Lts) (lb eb : Value) (w0 w : World) : Prop where
 pe : PEnv sb m ra rc ab a la ea w0 w
 bel : w0.heap.size ≤ Be
 lal : ∀ k, la.ownBlock = some k → k < Be
 eal : ∀ k, ea.ownBlock = some k → k < Be
 abe : ab < Be
 rae : ra < Be
 rce : rc < Be
 own : OwnLts Be w lb eb p
 bbox : Blk w bb [.int .i64 p.states, .int .i64 p.initial, lb, eb] 27
 bbl : Be ≤ bb
section
variable {sb m ra rc ab bb Be : Nat} {a : Lts} {la ea : Value} {p : Lts} {lb eb : Value} {w0 w w' : World}
theorem UEnv.then {m' : Nat} (h : UEnv sb m ra rc ab bb Be a la ea p lb eb w0 w) (hd : Drew sb m' w w') : UEnv sb m' ra rc ab bb Be a la ea p lb eb w0 w' :=
 have hsb : sb < Be := Nat.lt_of_lt_of_le h.pe.sbl h.bel
 ⟨h.pe.then hd, h.bel, h.lal, h.eal, h.abe, h.rae, h.rce, ⟨hd.own h.own.1 hsb, hd.own h.own.2 hsb⟩, hd.blk h.bbox (by have := h.bbl; omega), h.bbl⟩
theorem UEnv.below (h : UEnv sb m ra rc ab bb Be a la ea p lb eb w0 w) (hb : Below w.heap.size w w') : UEnv sb m ra rc ab bb Be a la ea p lb eb w0 w' :=
 ⟨h.pe.below hb, h.bel, h.lal, h.eal, h.abe, h.rae, h.rce, h.own.below hb, h.bbox.below hb, h.bbl⟩
theorem UEnv.mono {m' : Nat} (h : UEnv sb m ra rc ab bb Be a la ea p lb eb w0 w) (hm : m ≤ m') : UEnv sb m' ra rc ab bb Be a la ea p lb eb w0 w := ⟨h.pe.mono hm, h.bel, h.lal, h.eal, h.abe, h.rae, h.rce, h.own, h.bbox, h.bbl⟩
theorem UEnv.turn (h : UEnv sb m ra rc ab bb Be a la ea p lb eb w0 w) (hg : w.grownBy w' eb.ownBlock) :
  PEnv sb m ra rc ab a la ea w0 w' ∧ w'.ownsRow Be 9 1 lb p.labels.length (p.labels.map .string) ∧ Blk w' bb [.int .i64 p.states, .int .i64 p.initial, lb, eb] 27 :=
 ⟨h.pe.at h.bel h.lal h.eal h.abe h.rae h.rce hg (fun k e => (h.own.2.lt k e).1), h.own.1.kept hg (own_types h.own.1 h.own.2 (by decide)), blk_kept h.bbox h.own.2 hg (by decide)⟩
theorem UEnv.turned {k : Nat} {eb' : Value} (h : UEnv sb m ra rc ab bb Be a la ea p lb eb w0 w) (hg : w.grownBy w' eb.ownBlock) (ho : w'.ownsRow Be 59 3 eb' (p.edges.eraseIdx k).length ((p.edges.eraseIdx k).flatMap encE)) :
  UEnv sb m ra rc ab bb Be a la ea (eraseE p k) lb eb' w0 (w'.setCell ⟨bb, 3, none⟩ eb') := by
 obtain ⟨p1, p2, p3⟩ := h.turn hg
 exact ⟨p1.at h.bel h.lal h.eal h.abe h.rae h.rce (grown_setCell w' ⟨bb, 3, none⟩ eb') (fun k e => by cases e; exact h.bbl), h.bel, h.lal, h.eal, h.abe, h.rae, h.rce, ⟨own_putD p2 p3 (by decide) 3 eb', own_putD ho p3 (by decide) 3 eb'⟩, p3.set 3 eb', h.bbl⟩
/-- The property is laid anew. -/
theorem UEnv.store (h : UEnv sb m ra rc ab bb Be a la ea p lb eb w0 w) {q : Lts} {lq eq : Value} (ho : OwnLts Be w lq eq q) : UEnv sb m ra rc ab bb Be a la ea q lq eq w0 ((((w.setCell ⟨bb, 0, none⟩ (.int .i64 q.states)).setCell ⟨bb, 1, none⟩ (.int .i64 q.initial)).setCell ⟨bb, 2, none⟩ lq).setCell ⟨bb, 3, none⟩ eq) :=
 ⟨h.pe.at h.bel h.lal h.eal h.abe h.rae h.rce (grown_trans (grown_trans (grown_trans (grown_setCell w ⟨bb, 0, none⟩ _) (grown_setCell _ ⟨bb, 1, none⟩ _)) (grown_setCell _ ⟨bb, 2, none⟩ _)) (grown_setCell _ ⟨bb, 3, none⟩ _)) (fun k e => by cases e; exact h.bbl), h.bel, h.lal, h.eal, h.abe, h.rae, h.rce, ⟨own_put4D h.bbox ho.1 (by decide), own_put4D h.bbox ho.2 (by decide)⟩, put4D h.bbox, h.bbl⟩
theorem UEnv.ptr (h : UEnv sb m ra rc ab bb Be a la ea p lb eb w0 w) : LtsPtr Be w bb p :=
 ⟨_, _, h.bbox.lt, h.bbox.cell 0 rfl, h.bbox.cell 1 rfl, h.bbox.cell 2 rfl, h.bbox.cell 3 rfl, SliceK.of_owns (enc := encS) (e := 9) encS_len rfl (by rw [flat_encS]; exact h.own.1), SliceK.of_owns (e := 59) encE_len rfl h.own.2⟩
end
/-- What comes back. -/
def RetBoth (sb m : Nat) (w : World) (e : Ending) (w' : World) : Prop :=
 ∃ (a b : Lts) (la ea lb eb : Value), e = .returned (.tuple #[.agg #[.int .i64 a.states, .int .i64 a.initial, la, ea], .agg #[.int .i64 b.states, .int .i64 b.initial, lb, eb]]) ∧ Drew sb m w w' ∧ OwnLts w.heap.size w' la ea a ∧ OwnLts w.heap.size w' lb eb b ∧ (∀ l ∈ a.labels, l.size ≤ 6) ∧ ∀ l ∈ b.labels, l.size ≤ 6
theorem UEnv.fin {sb m ra rc ab bb Be : Nat} {a : Lts} {la ea : Value} {p : Lts} {lb eb : Value} {w0 w : World} (h : UEnv sb m ra rc ab bb Be a la ea p lb eb w0 w) {b : Lts} {lq eq : Value} (hb : OwnLts w0.heap.size w lq eq b) (ha6 : ∀ l ∈ a.labels, l.size ≤ 6) (hb6 : ∀ l ∈ b.labels, l.size ≤ 6) {v0 v1 v2 v3 u0 u1 u2 u3 : Value} :
  RetBoth sb m w0 (.returned (.tuple #[.agg #[.int .i64 a.states, .int .i64 a.initial, la, ea], .agg #[.int .i64 b.states, .int .i64 b.initial, lq, eq]])) ((((((((w.setCell ⟨ra, 0, none⟩ v0).setCell ⟨ra, 1, none⟩ v1).setCell ⟨ra, 2, none⟩ v2).setCell ⟨ra, 3, none⟩ v3).setCell ⟨rc, 0, none⟩ u0).setCell ⟨rc, 1, none⟩ u1).setCell ⟨rc, 2, none⟩ u2).setCell ⟨rc, 3, none⟩ u3) :=
 h.pe.fin hb ha6 hb6
theorem both_results {w : World} {b c : Nat} {v0 v1 v2 v3 u0 u1 u2 u3 : Value} {tmps : Array Value} (hc : tmps.getD 2 undef = .pointer (some ⟨b, 0, none⟩)) (hc3 : tmps.getD 3 undef = .pointer (some ⟨c, 0, none⟩)) (hb : Blk w b [v0, v1, v2, v3] 27) (hb3 : Blk w c [u0, u1, u2, u3] 27) :
  (results Tryz.f19 tmps).run Tryz.prog w = .ok (.tuple #[.agg #[v0, v1, v2, v3], .agg #[u0, u1, u2, u3]]) w := by
 have h0 := hb.cell 0 rfl
 have h1 := hb.cell 1 rfl
 have h2 := hb.cell 2 rfl
 have h3 := hb.cell 3 rfl
 have k0 := hb3.cell 0 rfl
 have k1 := hb3.cell 1 rfl
 have k2 := hb3.cell 2 rfl
 have k3 := hb3.cell 3 rfl
 simp only [Array.getD_eq_getD_getElem?] at hc hc3
 simp [results, Tryz.results19, go_sem, hc, hc3, h0, h1, h2, h3, k0, k1, k2, k3, Result.andThen]
/-- What l12Sets makes of a good system. -/
theorem sets_bend {p : Lts} {st : DNet} (h : PGood p) (hs : DOk p st) : BendIn 11 300 ⟨st.rows.length, 0, p.labels, st.edges⟩ := by
 obtain ⟨⟨n, hcome, hat, hlen⟩, hsm⟩ := hs
 refine ⟨⟨?_, by have := hsm.1; show (st.rows.length : Int) ≤ 40; omega⟩, h.valid.labels.pos, h.few, h.short, hsm.2⟩
 show (1 : Int) ≤ (st.rows.length : Int)
 cases n with
 | zero =>
  have h1 : st = ⟨[firstS p], []⟩ := hat.symm
  rw [h1] at hlen
  simp at hlen
 | succ n => omega

end Go.Proofs.YtmeibnhhlknbfaaGreatDoor
