/-
  The reference's l17Brothers: the edges that are no little brothers.
  The reference's l11Own, l17Prune and PruneBrothers.
  The reference's PruneBrothers.
  What the small functions of the package laws compute: the size of the arguments, their copies, their comparison.
-/
import Derived.Test.YtbjbjbnbapeajaaGreatDoorP11
import Derived.Test.YtbjbjbnbapeajaaGreatDoorP7
import Derived.Deep.QuietTactic
import Derived.BigQuiet
import Derived.Test.YtbjbjbnbapeajaaGreatDoorP8
import Derived.Deep.Cut
import Derived.Deep.RegionHeld3
import Derived.Test.YtbjbjbnbapeajaaGreatDoorRows
import Derived.Test.YtbjbjbnbapeajaaGreatDoorP1
import Derived.Deep.LoopGhost
namespace Go.Proofs.YtbjbjbnbapeajaaGreatDoor
open Go Go.RowKit

def brTo (t : Lts) (N : PairSet) (e : Edge) (n : Nat) : Bool := (t.edges.take n).any fun o => o.src == e.src && o.lab == e.lab && N e.dst o.dst && !(N o.dst e.dst)
theorem brTo_all (t : Lts) (N : PairSet) (e : Edge) : brTo t N e t.edges.length = brother t N e := by unfold brTo brother; rw [List.take_length]
theorem brTo_succ {t : Lts} {N : PairSet} {e : Edge} {n : Nat} (h : n < t.edges.length) : brTo t N e (n + 1) = (brTo t N e n || (t.edges[n].src == e.src && t.edges[n].lab == e.lab && N e.dst t.edges[n].dst && !(N t.edges[n].dst e.dst))) := by
 unfold brTo
 rw [List.take_succ_eq_append_getElem h, List.any_append]
 simp
def keptTo (t : Lts) (N : PairSet) (n : Nat) : List Edge := (t.edges.take n).filter fun e => !(brother t N e)
def litTo (t : Lts) (N : PairSet) (n : Nat) : List Edge := (t.edges.take n).filter fun e => brother t N e
theorem keptTo_all (t : Lts) (N : PairSet) : keptTo t N t.edges.length = keptG t N := by unfold keptTo keptG; rw [List.take_length]
theorem keptTo_len (t : Lts) (N : PairSet) (n : Nat) : (keptTo t N n).length ≤ n := Nat.le_trans (List.length_filter_le _ _) (List.length_take_le _ _)
theorem litTo_len (t : Lts) (N : PairSet) (n : Nat) : (litTo t N n).length ≤ n := Nat.le_trans (List.length_filter_le _ _) (List.length_take_le _ _)
theorem keptTo_yes {t : Lts} {N : PairSet} {n : Nat} (h : n < t.edges.length) (hb : brother t N t.edges[n] = false) : keptTo t N (n + 1) = keptTo t N n ++ [t.edges[n]] ∧ litTo t N (n + 1) = litTo t N n := by
 unfold keptTo litTo
 rw [List.take_succ_eq_append_getElem h, List.filter_append, List.filter_append]
 simp [hb]
theorem keptTo_no {t : Lts} {N : PairSet} {n : Nat} (h : n < t.edges.length) (hb : brother t N t.edges[n] = true) : keptTo t N (n + 1) = keptTo t N n ∧ litTo t N (n + 1) = litTo t N n ++ [t.edges[n]] := by
 unfold keptTo litTo
 rw [List.take_succ_eq_append_getElem h, List.filter_append, List.filter_append]
 simp [hb]
theorem own_ne_step {w : World} {m base e size n : Nat} {v u u' : Value} {xs : List Value} (h : w.ownsRow base e size v n xs) (hs : w.heap.size ≤ m) (hne : v.ownBlock ≠ u.ownBlock) (hz : u'.ownBlock = u.ownBlock ∨ u'.ownBlock = some m) : v.ownBlock ≠ u'.ownBlock := by
 rcases hz with hz | hz
 ·rw [hz]; exact hne
 ·rw [hz]
  intro e1
  have := (h.lt _ e1).2
  omega

set_option maxRecDepth 100000 in
set_option maxHeartbeats 4000000 in
theorem brothers_any (bt lo S : Nat) (t : Lts) (w : World) (hv : Valid t) (hS : (S : Int) = t.states) (hp : LtsPtr lo w bt t) :
  Calls Tryz.prog 44 #[.pointer (some ⟨bt, 0, none⟩)] w fun e w' => ∃ (N : PairSet) (v5 v6 : Value), e = .returned (.tuple #[v5, v6]) ∧ Below w.heap.size w w' ∧ Great t t (allG t t) N ∧ w'.ownsRow w.heap.size 73 3 v6 (keptG t N).length ((keptG t N).flatMap encE) := by
 have HV := Lib.hid hv
 have HSS := Lib.hid hS
 have hmost := hv.most
 have hS0 : 0 < S := by have := hv.st0; omega
 have HGR := Lib.hid (greatest_any bt lo S t w hv hS hp)
 obtain ⟨lv, ev, hpl, -, -, -, q3, -, hes⟩ := hp
 obtain ⟨ae, ce, rfl, hen, hec, herow⟩ := hes
 have HER := Lib.hid herow
 obtain ⟨E, hE⟩ : ∃ E, E = t.edges.length := ⟨_, rfl⟩
 rw [← hE] at hen hmost q3
 have HEE := Lib.hid hE
 have HQ3 := Lib.hid q3
 obtain ⟨i0, hi, hz0, hz1, hz2⟩ := info_parts info_edge2
 clear hv hS herow hE q3
 go_enter Tryz.func44, Tryz.ntmps44
 go_wp2_with fail
 refine Calls.mono HGR.out ?_
 rintro e w1 ⟨tb, N, rv, vs, rfl, hb1, htab, hgr⟩
 have HB1 := Lib.hid hb1
 have HT1 := Lib.hid htab
 have HGT := Lib.hid hgr
 obtain ⟨rb, rc, rb2, rc2, hrv, hrb, -, -, -⟩ := htab.cell hS0 hS0
 subst hrv
 have T3 := htab.blk.cell 3 rfl
 have htl := htab.blk.lt
 have hs1 : w.heap.size ≤ w1.heap.size := hb1.size
 clear hb1 htab hgr HGR
 go_wp2
 go_loopw [5, 6, 7] (fun v5 v6 i wr => ∃ k : Nat, k ≤ E ∧ i = .int .i64 k ∧ Below w1.heap.size w1 wr ∧ wr.ownsRow w1.heap.size 73 3 v5 (litTo t N k).length ((litTo t N k).flatMap encE) ∧ wr.ownsRow w1.heap.size 73 3 v6 (keptTo t N k).length ((keptTo t N k).flatMap encE) ∧ v5.ownBlock ≠ v6.ownBlock) (fun _ _ i _ => E - (intOf i).toNat)
 case atStart =>
  have a1 := World.ownsRow_lit (base := w1.heap.size) (e := 73) (size := 3) w1 #[] 0 (Nat.le_refl _) (by simp [maxLen]) rfl
  have a2 := World.ownsRow_lit (base := w1.heap.size) (e := 73) (size := 3) (w1.alloc (.cells #[] 73)) #[] 0 (by simp) (by simp [maxLen]) rfl
  have b1 : Below w1.heap.size w1 (w1.alloc (.cells #[] 73)) := (Below.refl _ _).alloc (Nat.le_refl _) _
  have b2 : Below (w1.alloc (.cells #[] 73)).heap.size (w1.alloc (.cells #[] 73)) ((w1.alloc (.cells #[] 73)).alloc (.cells #[] 73)) := (Below.refl _ _).alloc (Nat.le_refl _) _
  refine ⟨0, Nat.zero_le _, rfl, b1.trans (b2.mono b1.size), owns_below a1 b2, (by simpa [keptTo] using a2), ?_⟩
  simp [Value.ownBlock]
 case round =>
  obtain ⟨k, hk, rfl, hbl, ho5, ho6, hne⟩ := hrel
  obtain ⟨wC, rfl⟩ : ∃ wC : World, wC = wr := ⟨_, rfl⟩
  have HBL := Lib.hid hbl
  have HO5 := Lib.hid ho5
  have HO6 := Lib.hid ho6
  have HNE := Lib.hid hne
  have hszC := hbl.size
  have hbw : Below w.heap.size w wC := HB1.out.trans (hbl.mono hs1)
  have HBW := Lib.hid hbw
  have q3 := keeps hbw hpl HQ3.out
  have hplC : bt < wC.heap.size := Nat.lt_of_lt_of_le hpl hbw.size
  obtain ⟨a5, c5, rfl, -, -⟩ := owns_slice ho5
  obtain ⟨a6, c6, rfl, -, -⟩ := owns_slice ho6
  obtain ⟨L5, hL5⟩ : ∃ L5, L5 = (litTo t N k).length := ⟨_, rfl⟩
  obtain ⟨L6, hL6⟩ : ∃ L6, L6 = (keptTo t N k).length := ⟨_, rfl⟩
  have hl5 : L5 ≤ k := by rw [hL5]; exact litTo_len t N k
  have hl6 : L6 ≤ k := by rw [hL6]; exact keptTo_len t N k
  rw [← hL5] at HO5 HNE ⊢
  rw [← hL6] at HO6 HNE ⊢
  have HL5 := Lib.hid hL5
  have HL6 := Lib.hid hL6
  clear hbl ho5 ho6 hne hbw hL5 hL6
  by_cases hlt : k < E
  ·have hkE : k < t.edges.length := by rw [← HEE.out]; exact hlt
   obtain ⟨be, oe, rfl, -, hbe, e1, e2, e3⟩ := (HER.out.below HBW.out).edge hkE
   have hok := HV.out.edge k hkE
   obtain ⟨q, hq⟩ : ∃ q, q = t.edges[k] := ⟨_, rfl⟩
   rw [← hq] at e1 e2 e3 hok
   obtain ⟨d1, hd1⟩ : ∃ d : Nat, (d : Int) = q.dst := ⟨q.dst.toNat, by have := hok.d0; omega⟩
   have hd1S : d1 < S := by have := hok.d1; have := HSS.out; omega
   obtain ⟨es, hes⟩ : ∃ es, es = q.src := ⟨_, rfl⟩
   obtain ⟨el, hel⟩ : ∃ el, el = q.lab := ⟨_, rfl⟩
   have HQE : Hid (encE q = [.int .i64 es, .int .i64 el, .int .i64 d1]) := by unfold Hid encE; rw [hes, hel, hd1]
   rw [← hes] at e1
   rw [← hel] at e2
   rw [← hd1] at e3
   have HD1 := Lib.hid hd1
   have HES := Lib.hid hes
   have HEL := Lib.hid hel
   have HQQ := Lib.hid hq
   obtain ⟨W, hW⟩ : ∃ W, W = wC.alloc (.cells #[.int .i64 es, .int .i64 el, .int .i64 d1] 73) := ⟨_, rfl⟩
   obtain ⟨eb, heb⟩ : ∃ eb, eb = wC.heap.size := ⟨_, rfl⟩
   have HWC : Hid (Below wC.heap.size wC W) := by unfold Hid; rw [hW]; exact (Below.refl _ _).alloc (Nat.le_refl _) _
   have HEB : Hid (Blk W eb [.int .i64 es, .int .i64 el, .int .i64 d1] 73) := by unfold Hid; rw [hW, heb]; exact Blk.new wC _ _
   have HWW := Lib.hid hW
   have HEBE := Lib.hid heb
   have hsW : wC.heap.size ≤ W.heap.size := HWC.out.size
   clear hok hd1 hes hel hq hW heb
   go_wp2
   rw [← HWW.out, ← HEBE.out]
   go_loopw [9, 10] (fun v9 v10 wr => ∃ n : Nat, n ≤ E ∧ v10 = .int .i64 n ∧ v9 = .bool (brTo t N q n) ∧ Below W.heap.size W wr) (fun _ v10 _ => E - (intOf v10).toNat)
   case atStart => exact ⟨0, Nat.zero_le _, rfl, rfl, Below.refl _ _⟩
   case round =>
    clear q3 e1 e2 e3
    obtain ⟨n, hn, rfl, rfl, hbl2⟩ := hrel
    obtain ⟨wD, rfl⟩ : ∃ wD : World, wD = wr := ⟨_, rfl⟩
    have HB2 := Lib.hid hbl2
    have hsD : W.heap.size ≤ wD.heap.size := hbl2.size
    have HCD := Lib.hid (HWC.out.trans (hbl2.mono hsW))
    have HBD := Lib.hid (HBW.out.trans (HCD.out.mono HBW.out.size))
    have HD := Lib.hid (HEB.out.below hbl2)
    have ebl := HD.out.lt
    have q3 := keeps HBD.out hpl HQ3.out
    clear hbl2
    by_cases hnl : n < E
    ·have hnE : n < t.edges.length := by rw [← HEE.out]; exact hnl
     obtain ⟨ob', of', hq', -, hbeD, f1, f2, f3⟩ := (HER.out.below HBD.out).edge hnE
     simp only [Option.some.injEq, Addr.mk.injEq, and_true] at hq'
     obtain ⟨rfl, rfl⟩ := hq'
     have hokf := HV.out.edge n hnE
     have hst := brTo_succ (N := N) (e := q) hnE
     obtain ⟨f, hf⟩ : ∃ f, f = t.edges[n] := ⟨_, rfl⟩
     rw [← hf] at f1 f2 f3 hokf hst
     obtain ⟨d2, hd2⟩ : ∃ d : Nat, (d : Int) = f.dst := ⟨f.dst.toNat, by have := hokf.d0; omega⟩
     have hd2S : d2 < S := by have := hokf.d1; have := HSS.out; omega
     rw [← hd2] at f3 hst
     rw [← HD1.out, ← HES.out, ← HEL.out] at hst
     have htab := HT1.out.below (HBL.out.trans (HCD.out.mono hszC))
     obtain ⟨r1, rc1, r2, rc2', hr1, hr1l, hr2, hr2l, hr3⟩ := htab.cell hd1S hd2S
     obtain ⟨r1', rc1', s2, sc2, hs1', hs1l, hs2, hs2l, hs3⟩ := htab.cell hd2S hd1S
     simp only [Value.slice.injEq, Option.some.injEq, Addr.mk.injEq, and_true, true_and] at hr1 hs1'
     obtain ⟨rfl, rfl⟩ := hr1
     obtain ⟨rfl, -⟩ := hs1'
     obtain ⟨fs, hfs⟩ : ∃ fs, fs = f.src := ⟨_, rfl⟩
     obtain ⟨fl, hfl⟩ : ∃ fl, fl = f.lab := ⟨_, rfl⟩
     rw [← hfs] at f1 hst
     rw [← hfl] at f2 hst
     obtain ⟨n1, hn1⟩ : ∃ n1, n1 = N d1 d2 := ⟨_, rfl⟩
     obtain ⟨n2, hn2⟩ : ∃ n2, n2 = N d2 d1 := ⟨_, rfl⟩
     rw [← hn1] at hr3 hst
     rw [← hn2] at hs3 hst
     obtain ⟨b, hb⟩ : ∃ b, b = brTo t N q n := ⟨_, rfl⟩
     rw [← hb] at hst ⊢
     have HST := Lib.hid hst
     have c0 := HD.out.cell 0 rfl
     have c1 := HD.out.cell 1 rfl
     have c2 := HD.out.cell 2 rfl
     have k1 : (d1 : Int) < (S : Int) := by omega
     have k2 : (d2 : Int) < (S : Int) := by omega
     have hplD : bt < wD.heap.size := Nat.lt_of_lt_of_le hpl HBD.out.size
     have HAL : Hid (Below W.heap.size W (wD.alloc (.cells #[.int .i64 fs, .int .i64 fl, .int .i64 d2] 73))) := HB2.out.alloc hsD _
     clear htab hokf hst hf hfs hfl hn1 hn2 hb hd2
     cases b
     ·cases g1 : (fs == es)
      ·go_wp2
       go_quiet (fail)
       go_wp2
       go_roundw
       case rel => exact ⟨n + 1, by omega, by go_num, by rw [HST.out, g1]; rfl, drews HAL.out _⟩
       case measure => simp [intOf]; omega
      ·cases g2 : (fl == el)
       ·go_wp2
        go_quiet (fail)
        go_wp2
        go_roundw
        case rel => exact ⟨n + 1, by omega, by go_num, by rw [HST.out, g1, g2]; rfl, drews HAL.out _⟩
        case measure => simp [intOf]; omega
       ·cases n1
        ·go_wp2
         go_quiet (fail)
         go_wp2
         go_roundw
         case rel => exact ⟨n + 1, by omega, by go_num, by rw [HST.out, g1, g2]; rfl, drews HAL.out _⟩
         case measure => simp [intOf]; omega
        ·cases n2
         ·go_wp2
          go_quiet (fail)
          go_wp2
          go_roundw
          case rel => exact ⟨n + 1, by omega, by go_num, by rw [HST.out, g1, g2]; rfl, drews HAL.out _⟩
          case measure => simp [intOf]; omega
         ·go_wp2
          go_quiet (fail)
          go_wp2
          go_roundw
          case rel => exact ⟨n + 1, by omega, by go_num, by rw [HST.out, g1, g2]; rfl, drews HAL.out _⟩
          case measure => simp [intOf]; omega
     ·go_wp2
      go_quiet (fail)
      go_wp2
      go_roundw
      case rel => exact ⟨n + 1, by omega, by go_num, by rw [HST.out]; rfl, drews HAL.out _⟩
      case measure => simp [intOf]; omega
    ·have HN : Hid (n = t.edges.length) := Lib.hid (by rw [← HEE.out]; omega)
     obtain ⟨b, hb⟩ : ∃ b, b = brTo t N q n := ⟨_, rfl⟩
     rw [← hb]
     have hbr : brother t N t.edges[k] = b := by rw [← HQQ.out, hb, HN.out, brTo_all]
     have c0 := HD.out.cell 0 rfl
     have c1 := HD.out.cell 1 rfl
     have c2 := HD.out.cell 2 rfl
     have hsCD : wC.heap.size ≤ wD.heap.size := HCD.out.size
     have h1D : w1.heap.size ≤ wD.heap.size := Nat.le_trans hszC hsCD
     have HO5D := Lib.hid (owns_below HO5.out HCD.out)
     have HO6D := Lib.hid (owns_below HO6.out HCD.out)
     have hal : Below wD.heap.size wD (wD.alloc (.cells #[.int .i64 es, .int .i64 el, .int .i64 d1] 73)) := (Below.refl _ _).alloc (Nat.le_refl _) _
     have HAL := Lib.hid hal
     have HBZ : Hid (Below w1.heap.size w1 (wD.alloc (.cells #[.int .i64 es, .int .i64 el, .int .i64 d1] 73))) := (HBL.out.trans (HCD.out.mono hszC)).trans (hal.mono h1D)
     have HBR := Lib.hid hbr
     clear hal hb hbr
     cases b
     ·have HKY := Lib.hid (keptTo_yes hkE HBR.out)
      go_wp2_with (at_builtin; refine wpList_append_own_at _ rfl _ _ 27 rfl w1.heap.size 73 i0 (.agg #[.int .i64 0, .int .i64 0, .int .i64 0]) 3 24 Tryz.underlying27 hi hz0 hz1 hz2 rfl (by decide) _ _ _ rfl (HO6D.out.alloc _) ⟨wD.heap.size, 0, none⟩ 1 1 (encE ⟨es, el, d1⟩) rfl rfl ?c1 ?c2 ?c3 ?c4 ?c5 ?_)
      case c1 => exact three_new _ ⟨es, el, d1⟩ _
      case c2 => exact encE_one _
      case c3 => simp [maxLen]; omega
      case c4 => omega
      case c5 => simp; omega
      intro v8 w8 ho8 hg8 hz81 hz82
      have HBZ8 : Hid (Below w1.heap.size w1 w8) := HBZ.out.grown hg8 (by simp; omega) (fun b e => (HO6D.out.lt b e).1)
      have HO58 : Hid (w8.ownsRow w1.heap.size 73 3 (.slice a5 L5 c5) L5 ((litTo t N k).flatMap encE)) := (owns_below HO5D.out HAL.out).kept hg8 (.inr HNE.out)
      have HNE8 : Hid ((Value.slice a5 L5 c5).ownBlock ≠ v8.ownBlock) := own_ne_step HO5D.out (Nat.le_succ _) HNE.out hz82
      have HO68 : Hid (w8.ownsRow w1.heap.size 73 3 v8 (L6 + 1) ((keptTo t N k ++ [t.edges[k]]).flatMap encE)) := by
       unfold Hid
       rw [List.flatMap_append, List.flatMap_singleton, ← HQQ.out, HQE.out]
       exact ho8
      obtain ⟨a8, c8, rfl, -, -⟩ := owns_slice HO68.out
      clear ho8 hg8 hz81 hz82
      go_wp2
      go_roundw
      case rel =>
       refine ⟨k + 1, by omega, by go_num, HBZ8.out, ?_, ?_, HNE8.out⟩
       ·rw [HKY.out.2, ← HL5.out]; exact HO58.out
       ·rw [HKY.out.1, List.length_append, List.length_singleton, ← HL6.out]; exact HO68.out
      case measure => simp [intOf]; omega
     ·have HKY := Lib.hid (keptTo_no hkE HBR.out)
      go_wp2_with (at_builtin; refine wpList_append_own_at _ rfl _ _ 27 rfl w1.heap.size 73 i0 (.agg #[.int .i64 0, .int .i64 0, .int .i64 0]) 3 24 Tryz.underlying27 hi hz0 hz1 hz2 rfl (by decide) _ _ _ rfl (HO5D.out.alloc _) ⟨wD.heap.size, 0, none⟩ 1 1 (encE ⟨es, el, d1⟩) rfl rfl ?d1 ?d2 ?d3 ?d4 ?d5 ?_)
      case d1 => exact three_new _ ⟨es, el, d1⟩ _
      case d2 => exact encE_one _
      case d3 => simp [maxLen]; omega
      case d4 => omega
      case d5 => simp; omega
      intro v8 w8 ho8 hg8 hz81 hz82
      have HBZ8 : Hid (Below w1.heap.size w1 w8) := HBZ.out.grown hg8 (by simp; omega) (fun b e => (HO5D.out.lt b e).1)
      have HO68 : Hid (w8.ownsRow w1.heap.size 73 3 (.slice a6 L6 c6) L6 ((keptTo t N k).flatMap encE)) := (owns_below HO6D.out HAL.out).kept hg8 (.inr (Ne.symm HNE.out))
      have HNE8 : Hid (v8.ownBlock ≠ (Value.slice a6 L6 c6).ownBlock) := (own_ne_step HO6D.out (Nat.le_succ _) (Ne.symm HNE.out) hz82).symm
      have HO58 : Hid (w8.ownsRow w1.heap.size 73 3 v8 (L5 + 1) ((litTo t N k ++ [t.edges[k]]).flatMap encE)) := by
       unfold Hid
       rw [List.flatMap_append, List.flatMap_singleton, ← HQQ.out, HQE.out]
       exact ho8
      obtain ⟨a8, c8, rfl, -, -⟩ := owns_slice HO58.out
      clear ho8 hg8 hz81 hz82
      go_wp2
      go_roundw
      case rel =>
       refine ⟨k + 1, by omega, by go_num, HBZ8.out, ?_, ?_, HNE8.out⟩
       ·rw [HKY.out.2, List.length_append, List.length_singleton, ← HL5.out]; exact HO58.out
       ·rw [HKY.out.1, ← HL6.out]; exact HO68.out
      case measure => simp [intOf]; omega
  ·have HK : Hid (k = t.edges.length) := Lib.hid (by rw [← HEE.out]; omega)
   go_wp2
   go_ret2
   refine ⟨N, _, _, rfl, HBW.out, HGT.out, ?_⟩
   have h := own_lower HO6.out hs1
   rw [HL6.out, HK.out, keptTo_all] at h
   rw [HL6.out, HK.out, keptTo_all]
   exact h

end Go.Proofs.YtbjbjbnbapeajaaGreatDoor

namespace Go.Proofs.YtbjbjbnbapeajaaGreatDoor
open Go Go.RowKit

theorem own_results {w : World} {b : Nat} {v0 v1 v2 v3 : Value} {tmps : Array Value} (hc : tmps.getD 2 undef = .pointer (some ⟨b, 0, none⟩)) (hb : Blk w b [v0, v1, v2, v3] 29) :
  (results Tryz.f43 tmps).run Tryz.prog w = .ok (.agg #[v0, v1, v2, v3]) w := by
 have h0 := hb.cell 0 rfl
 have h1 := hb.cell 1 rfl
 have h2 := hb.cell 2 rfl
 have h3 := hb.cell 3 rfl
 simp only [Array.getD_eq_getD_getElem?] at hc
 simp [results, Tryz.results43, go_sem, hc, h0, h1, h2, h3, Result.andThen]
theorem prune_results {w : World} {b : Nat} {v0 v1 v2 v3 : Value} {tmps : Array Value} (hc : tmps.getD 2 undef = .pointer (some ⟨b, 0, none⟩)) (hb : Blk w b [v0, v1, v2, v3] 29) :
  (results Tryz.f20 tmps).run Tryz.prog w = .ok (.agg #[v0, v1, v2, v3]) w := by
 have h0 := hb.cell 0 rfl
 have h1 := hb.cell 1 rfl
 have h2 := hb.cell 2 rfl
 have h3 := hb.cell 3 rfl
 simp only [Array.getD_eq_getD_getElem?] at hc
 simp [results, Tryz.results20, go_sem, hc, h0, h1, h2, h3, Result.andThen]
theorem blk_grownF {w w' : World} {b m : Nat} {cs : List Value} {t : TypeId} (h : Blk w b cs t) (hg : w.grownBy w' (some m)) (hne : b ≠ m) : Blk w' b cs t := (hg.block b h.lt (by simpa using hne)).trans h
theorem info_strW : (Tryz.prog.info? 9).map (fun i => (i.zero, i.size, i.bytes)) = some (some (.string ⟨#[]⟩), 1, 16) := by kernel_rfl

set_option maxRecDepth 100000 in
set_option maxHeartbeats 2000000 in
theorem l11Own_any (bt lo : Nat) (t : Lts) (w : World) (hz : t.labels.length ≤ 1048576) (hz2 : t.edges.length ≤ 1048576) (hp : LtsPtr lo w bt t) :
  Calls Tryz.prog 43 #[.pointer (some ⟨bt, 0, none⟩)] w fun e w' => ∃ lv ev, e = .returned (.agg #[.int .i64 t.states, .int .i64 t.initial, lv, ev]) ∧ Below w.heap.size w w' ∧ OwnLts w.heap.size w' lv ev t := by
 obtain ⟨lv, ev, hpl, q0, q1, q2, q3, hls, hes⟩ := hp
 obtain ⟨rc, hrc⟩ : ∃ rc, rc = w.heap.size := ⟨_, rfl⟩
 obtain ⟨W, hW⟩ : ∃ W, W = w.alloc (.cells #[.int .i64 0, .int .i64 0, .slice none 0 0, .slice none 0 0] 29) := ⟨_, rfl⟩
 have hb : Below w.heap.size w W := by rw [hW]; exact (Below.refl _ _).alloc (Nat.le_refl _) _
 have hR : Blk W rc [.int .i64 0, .int .i64 0, .slice none 0 0, .slice none 0 0] 29 := by rw [hW, hrc]; exact Blk.new w _ _
 have HB := Lib.hid hb
 have HR := Lib.hid hR
 have HW := Lib.hid hW
 have HRC := Lib.hid hrc
 have p0 := keeps hb hpl q0
 have p1 := keeps hb hpl q1
 have hplW : bt < W.heap.size := Nat.lt_of_lt_of_le hpl hb.size
 have HQ2 := Lib.hid q2
 have HQ3 := Lib.hid q3
 have HLS := Lib.hid hls
 have HES := Lib.hid hes
 clear hrc hW hb hR q0 q1 q2 q3 hls hes
 go_enter Tryz.func43, Tryz.ntmps43
 go_wp2
 rw [← HW.out]
 try rw [← HRC.out]
 go_cut [3] from 4 (fun v3 wx => ∃ ob, v3 = .pointer (some ⟨ob, 0, none⟩) ∧ W.heap.size ≤ ob ∧ Below W.heap.size W wx ∧ Blk wx ob [.int .i64 t.states, .int .i64 t.initial, .slice none 0 0, .slice none 0 0] 29)
 case first =>
  go_region
  all_goals (
   go_wp2_with fail
   go_meet
   have hal : Below W.heap.size W (W.alloc (.cells #[.int .i64 t.states, .int .i64 t.initial, .slice none 0 0, .slice none 0 0] 29)) := (Below.refl _ _).alloc (Nat.le_refl _) _
   exact ⟨W.heap.size, rfl, Nat.le_refl _, hal.drew, (Blk.new W _ _).below (Below.refl _ _).drew⟩)
 case rest =>
  obtain ⟨ob, rfl, hob, hbc, hO⟩ := hcut
  obtain ⟨B, hB⟩ : ∃ B, B = w.heap.size := ⟨_, rfl⟩
  have hbw : Below B w wc := by rw [hB]; exact HB.out.trans (hbc.mono HB.out.size)
  have hBo : B ≤ ob := by rw [hB]; exact Nat.le_trans HB.out.size hob
  have hBr : B ≤ rc := by rw [hB, HRC.out]; exact Nat.le_refl _
  have hne : rc ≠ ob := by have h1 := HR.out.lt; omega
  have hBc : B ≤ wc.heap.size := by rw [hB]; have := hbw.size; omega
  have hbw' : Below w.heap.size w wc := by rw [← hB]; exact hbw
  have q2 := keeps hbw' hpl HQ2.out
  have hplc : bt < wc.heap.size := Nat.lt_of_lt_of_le hpl hbw'.size
  have HO := Lib.hid hO
  have HRW := Lib.hid (HR.out.below hbc)
  have HBW := Lib.hid hbw
  have HBE := Lib.hid hB
  have HNE := Lib.hid hne
  have hal : Below wc.heap.size wc (wc.alloc (.cells #[] 9)) := (Below.refl _ _).alloc (Nat.le_refl _) _
  have HAL := Lib.hid hal
  have ho : Hid ((wc.alloc (.cells #[] 9)).ownsRow B 9 1 (.slice (some ⟨wc.heap.size, 0, none⟩) 0 0) 0 []) := World.ownsRow_lit (base := B) (e := 9) (size := 1) wc #[] 0 hBc (by simp [maxLen]) rfl
  have HSL := Lib.hid ((HLS.out.below hbw').below hal)
  obtain ⟨is, his, hsz0, hsz1, hsz2⟩ := info_parts info_strW
  obtain ⟨ie, hie, hez0, hez1, hez2⟩ := info_parts info_edge2
  obtain ⟨LN, hLN⟩ : ∃ LN, LN = t.labels.length := ⟨_, rfl⟩
  obtain ⟨EN, hEN⟩ : ∃ EN, EN = t.edges.length := ⟨_, rfl⟩
  have HLN := Lib.hid hLN
  have HEN := Lib.hid hEN
  rw [← hLN] at hz
  rw [← hEN] at hz2
  have o2 := hO.cell 2 rfl
  have o2f := hO.frozen 2
  have hol := hO.lt
  clear hbc hO hB hbw hbw' hne hob hal hLN hEN p0 p1
  go_wp2_with (at_builtin; refine append_slice encS_len encS_one (by decide) rfl _ _ 22 rfl B 9 is (.string ⟨#[]⟩) 16 Tryz.underlying22 his hsz0 hsz1 hsz2 rfl _ _ _ rfl ho.out lo t.labels HSL.out ?_ ?_ ?_ ?_)
  ·rw [← HLN.out]; simp [maxLen]; omega
  ·rw [← HLN.out]; omega
  ·simp; omega
  intro v1 w1 ho1 hg1
  rw [flat_encS] at ho1
  obtain ⟨a1, c1, rfl, -, -⟩ := owns_slice ho1
  have hor : ob ≠ wc.heap.size := by have := HO.out.lt; omega
  have hrr : rc ≠ wc.heap.size := by have := HRW.out.lt; omega
  have hO1 : Blk w1 ob [.int .i64 t.states, .int .i64 t.initial, .slice none 0 0, .slice none 0 0] 29 := blk_grownF (HO.out.below HAL.out) hg1 hor
  have hR1 : Blk w1 rc [.int .i64 0, .int .i64 0, .slice none 0 0, .slice none 0 0] 29 := blk_grownF (HRW.out.below HAL.out) hg1 hrr
  have hb1 : Below B w w1 := (HBW.out.trans (HAL.out.mono hBc)).grown hg1 (by simp; omega) (fun b e => by cases e; exact hBc)
  obtain ⟨w2, hw2⟩ : ∃ w2, w2 = w1.setCell ⟨ob, 2, none⟩ (.slice a1 t.labels.length c1) := ⟨_, rfl⟩
  have hb2 : Below B w w2 := by rw [hw2]; exact hb1.setCell hBo _
  have hO2 : Blk w2 ob [.int .i64 t.states, .int .i64 t.initial, .slice a1 t.labels.length c1, .slice none 0 0] 29 := by rw [hw2]; exact hO1.set 2 _
  have hR2 : Blk w2 rc [.int .i64 0, .int .i64 0, .slice none 0 0, .slice none 0 0] 29 := by rw [hw2]; exact blk_put hR1 2 _ HNE.out
  have hr2 : w2.ownsRow B 9 1 (.slice a1 t.labels.length c1) t.labels.length (t.labels.map .string) := by rw [hw2]; exact own_put ho1 hO1 (by decide) 2 _
  have hb2' : Below w.heap.size w w2 := by rw [← HBE.out]; exact hb2
  have q3 := keeps hb2' hpl HQ3.out
  have hpl2 : bt < w2.heap.size := Nat.lt_of_lt_of_le hpl hb2'.size
  have hB2 : B ≤ w2.heap.size := by rw [HBE.out]; exact hb2'.size
  have hal : Below w2.heap.size w2 (w2.alloc (.cells #[] 73)) := (Below.refl _ _).alloc (Nat.le_refl _) _
  have HAL2 := Lib.hid hal
  have ho2 : Hid ((w2.alloc (.cells #[] 73)).ownsRow B 73 3 (.slice (some ⟨w2.heap.size, 0, none⟩) 0 0) 0 []) := World.ownsRow_lit (base := B) (e := 73) (size := 3) w2 #[] 0 hB2 (by simp [maxLen]) rfl
  have HES2 := Lib.hid ((HES.out.below hb2').below hal)
  have HO2 := Lib.hid hO2
  have HR2 := Lib.hid hR2
  have HRW2 := Lib.hid hr2
  have HB2 := Lib.hid hb2
  have HW2 := Lib.hid hw2
  have o12 := hO1.cell 2 rfl
  have o12f := hO1.frozen 2
  have o3 := hO2.cell 3 rfl
  have o3f := hO2.frozen 3
  have hol2 := hO2.lt
  clear ho1 hg1 hor hrr hO1 hR1 hb1 hb2 hO2 hR2 hr2 hb2' hal hw2 q2 o2 o2f
  go_upto_region 3 with fail
  rw [← HW2.out]
  go_wp2_with (at_builtin; refine append_slice encE_len encE_one (by decide) rfl _ _ 27 rfl B 73 ie (.agg #[.int .i64 0, .int .i64 0, .int .i64 0]) 24 Tryz.underlying27 hie hez0 hez1 hez2 rfl _ _ _ rfl ho2.out lo t.edges HES2.out ?_ ?_ ?_ ?_)
  ·rw [← HEN.out]; simp [maxLen]; omega
  ·rw [← HEN.out]; omega
  ·simp; omega
  intro v3 w3 ho3 hg3
  obtain ⟨a3, c3, rfl, -, -⟩ := owns_slice ho3
  have hor : ob ≠ w2.heap.size := by have := HO2.out.lt; omega
  have hrr : rc ≠ w2.heap.size := by have := HR2.out.lt; omega
  have hO3 : Blk w3 ob [.int .i64 t.states, .int .i64 t.initial, .slice a1 t.labels.length c1, .slice none 0 0] 29 := blk_grownF (HO2.out.below HAL2.out) hg3 hor
  have hR3 : Blk w3 rc [.int .i64 0, .int .i64 0, .slice none 0 0, .slice none 0 0] 29 := blk_grownF (HR2.out.below HAL2.out) hg3 hrr
  have hb3 : Below B w w3 := (HB2.out.trans (HAL2.out.mono hB2)).grown hg3 (by simp; omega) (fun b e => by cases e; exact hB2)
  have hr3 : w3.ownsRow B 9 1 (.slice a1 t.labels.length c1) t.labels.length (t.labels.map .string) := (owns_below HRW2.out HAL2.out).kept hg3 (.inr (fun e => by have h := (HRW2.out.lt w2.heap.size e).2; omega))
  have HO4 := Lib.hid (hO3.set 3 (.slice a3 t.edges.length c3))
  have HR4 := Lib.hid (blk_put hR3 3 (.slice a3 t.edges.length c3) HNE.out)
  have HRS := Lib.hid (own_put hr3 hO3 (by decide) 3 (.slice a3 t.edges.length c3))
  have HRE := Lib.hid (own_put ho3 hO3 (by decide) 3 (.slice a3 t.edges.length c3))
  have HB4 : Hid (Below B w (w3.setCell ⟨ob, 3, none⟩ (.slice a3 t.edges.length c3))) := hb3.setCell hBo _
  obtain ⟨w4, hw4⟩ : ∃ w4, w4 = w3.setCell ⟨ob, 3, none⟩ (.slice a3 t.edges.length c3) := ⟨_, rfl⟩
  rw [← hw4] at HO4 HR4 HRS HRE HB4
  have HW4 := Lib.hid hw4
  have o33 := hO3.cell 3 rfl
  have o33f := hO3.frozen 3
  clear ho3 hg3 hor hrr hO3 hR3 hb3 hr3 hw4 q3 o3 o3f o12 o12f
  go_upto_region 4 with fail
  rw [← HW4.out]
  have o0 := HO4.out.cell 0 rfl
  have o1 := HO4.out.cell 1 rfl
  have o2 := HO4.out.cell 2 rfl
  have o3 := HO4.out.cell 3 rfl
  have r0 := HR4.out.cell 0 rfl
  have r1 := HR4.out.cell 1 rfl
  have r2 := HR4.out.cell 2 rfl
  have r3 := HR4.out.cell 3 rfl
  have s0 := HR4.out.frozen 0
  have s1 := HR4.out.frozen 1
  have s2 := HR4.out.frozen 2
  have s3 := HR4.out.frozen 3
  clear o33 o33f
  go_wp2
  refine bodyPost_ret (own_results rfl (put4 HR4.out)) rfl ?_
  refine ⟨_, _, rfl, ?_, ?_, ?_⟩
  ·rw [← HBE.out]; exact below_put4 HB4.out hBr
  ·rw [← HBE.out]; exact own_put4 HR4.out HRS.out (by decide)
  ·rw [← HBE.out]; exact own_put4 HR4.out HRE.out (by decide)

set_option maxRecDepth 100000 in
set_option maxHeartbeats 2000000 in
theorem l17Prune_any (bt lo S : Nat) (t : Lts) (w : World) (hv : Valid t) (hS : (S : Int) = t.states) (hp : LtsPtr lo w bt t) : Calls Tryz.prog 20 #[.pointer (some ⟨bt, 0, none⟩)] w (MadePb t w) := by
 obtain ⟨rc, hrc⟩ : ∃ rc, rc = w.heap.size := ⟨_, rfl⟩
 obtain ⟨W, hW⟩ : ∃ W, W = w.alloc (.cells #[.int .i64 0, .int .i64 0, .slice none 0 0, .slice none 0 0] 29) := ⟨_, rfl⟩
 have hb : Below w.heap.size w W := by rw [hW]; exact (Below.refl _ _).alloc (Nat.le_refl _) _
 have hR : Blk W rc [.int .i64 0, .int .i64 0, .slice none 0 0, .slice none 0 0] 29 := by rw [hW, hrc]; exact Blk.new w _ _
 have HOW := Lib.hid (l11Own_any bt lo t W (Nat.le_trans hv.labels.most (by decide)) (Nat.le_trans hv.most (by decide)) (hp.below hb))
 have HV := Lib.hid hv
 have HSS := Lib.hid hS
 have HP := Lib.hid (hp.below hb)
 have HB := Lib.hid hb
 have HR := Lib.hid hR
 have HW := Lib.hid hW
 have HRC := Lib.hid hrc
 have hsW : w.heap.size ≤ W.heap.size := hb.size
 have hle : w.heap.size ≤ rc := by omega
 clear hv hS hp hb hR hW hrc
 go_enter Tryz.func20, Tryz.ntmps20
 go_wp2_with fail
 rw [← HW.out]
 try rw [← HRC.out]
 refine Calls.mono HOW.out ?_
 rintro e w1 ⟨lv, ev, rfl, hb1, ho1⟩
 obtain ⟨a1, c1, rfl, -, -⟩ := owns_slice ho1.1
 obtain ⟨a2, c2, rfl, -, -⟩ := owns_slice ho1.2
 obtain ⟨W2, hW2⟩ : ∃ W2, W2 = w1.alloc (.cells #[.int .i64 t.states, .int .i64 t.initial, .slice a1 t.labels.length c1, .slice a2 t.edges.length c2] 29) := ⟨_, rfl⟩
 obtain ⟨ob, hob⟩ : ∃ ob, ob = w1.heap.size := ⟨_, rfl⟩
 have hb2 : Below w1.heap.size w1 W2 := by rw [hW2]; exact (Below.refl _ _).alloc (Nat.le_refl _) _
 have hO : Blk W2 ob [.int .i64 t.states, .int .i64 t.initial, .slice a1 t.labels.length c1, .slice a2 t.edges.length c2] 29 := by rw [hW2, hob]; exact Blk.new w1 _ _
 have h12 : Below W.heap.size W W2 := hb1.trans (hb2.mono hb1.size)
 have HBR := Lib.hid (brothers_any bt lo S t W2 HV.out HSS.out (HP.out.below h12))
 have HO := Lib.hid hO
 have HR2 := Lib.hid (HR.out.below h12)
 have HB2 := Lib.hid (HB.out.trans (h12.mono hsW))
 have HL2 := Lib.hid (owns_below (own_lower ho1.1 hsW) hb2)
 have HW2 := Lib.hid hW2
 have HOB := Lib.hid hob
 have hs2 : w.heap.size ≤ W2.heap.size := HB2.out.size
 have hlo : w.heap.size ≤ ob := by rw [hob]; exact Nat.le_trans hsW hb1.size
 have hne : rc ≠ ob := by have h1 := (HR.out.below hb1).lt; omega
 have HNE := Lib.hid hne
 clear hb1 ho1 hW2 hob hb2 hO h12 hne HOW
 go_wp2_with fail
 rw [← HW2.out]
 try rw [← HOB.out]
 refine Calls.mono HBR.out ?_
 rintro e w3 ⟨N, v5, v6, rfl, hb3, hg, hown⟩
 obtain ⟨a6, c6, rfl, -, -⟩ := owns_slice hown
 have HG := Lib.hid hg
 have HO3 := Lib.hid (HO.out.below hb3)
 have HR3 := Lib.hid (HR2.out.below hb3)
 have HB3 := Lib.hid (HB2.out.trans (hb3.mono hs2))
 have HL3 := Lib.hid (owns_below HL2.out hb3)
 have HE3 := Lib.hid (own_lower hown hs2)
 have o3 := HO3.out.cell 3 rfl
 have o3f := HO3.out.frozen 3
 obtain ⟨w4, hw4⟩ : ∃ w4, w4 = w3.setCell ⟨ob, 3, none⟩ (.slice a6 (keptG t N).length c6) := ⟨_, rfl⟩
 have HO4 : Hid (Blk w4 ob [.int .i64 t.states, .int .i64 t.initial, .slice a1 t.labels.length c1, .slice a6 (keptG t N).length c6] 29) := by unfold Hid; rw [hw4]; exact HO3.out.set 3 _
 have HR4 : Hid (Blk w4 rc [.int .i64 0, .int .i64 0, .slice none 0 0, .slice none 0 0] 29) := by unfold Hid; rw [hw4]; exact blk_put HR3.out 3 _ HNE.out
 have HB4 : Hid (Below w.heap.size w w4) := by unfold Hid; rw [hw4]; exact HB3.out.setCell hlo _
 have HL4 : Hid (w4.ownsRow w.heap.size 9 1 (.slice a1 t.labels.length c1) t.labels.length (t.labels.map .string)) := by unfold Hid; rw [hw4]; exact own_put HL3.out HO3.out (by decide) 3 _
 have HE4 : Hid (w4.ownsRow w.heap.size 73 3 (.slice a6 (keptG t N).length c6) (keptG t N).length ((keptG t N).flatMap encE)) := by unfold Hid; rw [hw4]; exact own_put HE3.out HO3.out (by decide) 3 _
 have HW4 := Lib.hid hw4
 clear hb3 hg hown hw4 HBR
 go_upto_region 4 with fail
 rw [← HW4.out]
 clear o3 o3f
 have o0 := HO4.out.cell 0 rfl
 have o1 := HO4.out.cell 1 rfl
 have o2 := HO4.out.cell 2 rfl
 have o3 := HO4.out.cell 3 rfl
 have r0 := HR4.out.cell 0 rfl
 have r1 := HR4.out.cell 1 rfl
 have r2 := HR4.out.cell 2 rfl
 have r3 := HR4.out.cell 3 rfl
 have s0 := HR4.out.frozen 0
 have s1 := HR4.out.frozen 1
 have s2 := HR4.out.frozen 2
 have s3 := HR4.out.frozen 3
 go_wp2
 refine bodyPost_ret (prune_results rfl (put4 HR4.out)) rfl ?_
 refine ⟨below_put4 HB4.out hle, N, _, _, rfl, HG.out, ?_, ?_⟩
 ·exact own_put4 HR4.out HL4.out (by decide)
 ·exact own_put4 HR4.out HE4.out (by decide)

end Go.Proofs.YtbjbjbnbapeajaaGreatDoor

namespace Go.Proofs.YtbjbjbnbapeajaaGreatDoor
open Go Go.RowKit

theorem spb_results {w : World} {b : Nat} {v0 v1 v2 v3 : Value} {tmps : Array Value} (hc : tmps.getD 2 undef = .pointer (some ⟨b, 0, none⟩)) (hb : Blk w b [v0, v1, v2, v3] 29) :
  (results Tryz.f6 tmps).run Tryz.prog w = .ok (.tuple #[.agg #[v0, v1, v2, v3], tmps.getD 3 undef]) w := by
 have h0 := hb.cell 0 rfl
 have h1 := hb.cell 1 rfl
 have h2 := hb.cell 2 rfl
 have h3 := hb.cell 3 rfl
 simp only [Array.getD_eq_getD_getElem?] at hc
 simp [results, Tryz.results6, go_sem, hc, h0, h1, h2, h3, Result.andThen]

set_option maxRecDepth 100000 in
set_option maxHeartbeats 4000000 in
theorem specPruneBrothers_any (lo : Nat) (t : Lts) (lv ev : Value) (w : World) (hsh : Short t.labels) (hl : SliceK 1 encS lo w lv t.labels) (he : SliceK 3 encE lo w ev t.edges) :
  Calls Tryz.prog 6 #[.agg #[.int .i64 t.states, .int .i64 t.initial, lv, ev]] w (RetPb t w) := by
 obtain ⟨tb, htb⟩ : ∃ tb, tb = w.heap.size := ⟨_, rfl⟩
 obtain ⟨wA, hwA⟩ : ∃ wA, wA = (w.alloc (.cells #[.int .i64 t.states, .int .i64 t.initial, lv, ev] 29)).alloc (.cells #[.int .i64 0, .int .i64 0, .slice none 0 0, .slice none 0 0] 29) := ⟨_, rfl⟩
 have hbA : Below w.heap.size w wA := by rw [hwA]; exact ((Below.refl _ _).alloc (Nat.le_refl _) _).alloc (by simp) _
 have hT : Blk wA tb [.int .i64 t.states, .int .i64 t.initial, lv, ev] 29 := by rw [hwA, htb]; exact (Blk.new w _ _).alloc _
 have hR : Blk wA (tb + 1) [.int .i64 0, .int .i64 0, .slice none 0 0, .slice none 0 0] 29 := by
  have := Blk.new (w.alloc (.cells #[.int .i64 t.states, .int .i64 t.initial, lv, ev] 29)) [.int .i64 0, .int .i64 0, .slice none 0 0, .slice none 0 0] 29
  rw [World.size_alloc, ← htb] at this
  rw [hwA]
  exact this
 have HSH := Lib.hid hsh
 have HL := Lib.hid (hl.below hbA)
 have HE := Lib.hid (he.below hbA)
 have HBA := Lib.hid hbA
 have HT := Lib.hid hT
 have HR := Lib.hid hR
 have HWA := Lib.hid hwA
 have HTB := Lib.hid htb
 have hsW : w.heap.size ≤ wA.heap.size := hbA.size
 have hle : w.heap.size ≤ tb + 1 := by rw [htb]; omega
 have HP : Hid (LtsPtr lo wA tb t) := ⟨lv, ev, hT.lt, hT.cell 0 rfl, hT.cell 1 rfl, hT.cell 2 rfl, hT.cell 3 rfl, HL.out, HE.out⟩
 have t0 := hT.cell 0 rfl
 have t1 := hT.cell 1 rfl
 have t2 := hT.cell 2 rfl
 have t3 := hT.cell 3 rfl
 rw [hwA, htb] at t0 t1 t2 t3
 clear hsh hl he hwA hbA hT hR htb
 by_cases hv : Valid t
 ·have HV := Lib.hid hv
  have HVA : Hid (Calls Tryz.prog 19 #[.pointer (some ⟨tb, 0, none⟩)] wA fun e w' => e = .returned (.bool true) ∧ Below wA.heap.size wA w') := Decides.yes (l11Is_any _ lo t _ HSH.out HP.out) hv
  clear hv
  go_enter Tryz.func6, Tryz.ntmps6
  go_wp2_with fail
  rw [← HWA.out, ← HTB.out]
  refine Calls.mono HVA.out ?_
  rintro e w1 ⟨rfl, hb1⟩
  have HB1 := Lib.hid hb1
  have HR1 := Lib.hid (HR.out.below hb1)
  have HT1 := Lib.hid (HT.out.below hb1)
  clear t0 t1 t2 t3
  have t0 := HT1.out.cell 0 rfl
  have t1 := HT1.out.cell 1 rfl
  have t2 := HT1.out.cell 2 rfl
  have t3 := HT1.out.cell 3 rfl
  have HPR := Lib.hid (l17Prune_any tb lo t.states.toNat t w1 HV.out (by have := HV.out.st0; omega) (HP.out.below hb1))
  clear hb1
  go_wp2_with fail
  refine Calls.mono HPR.out ?_
  rintro e w5 ⟨hb5, N, lv5, ev5, rfl, hgr, hown⟩
  obtain ⟨la5, lc5, rfl, -, -⟩ := owns_slice hown.1
  obtain ⟨ea5, ec5, rfl, -, -⟩ := owns_slice hown.2
  have hs1 : w.heap.size ≤ w1.heap.size := (HBA.out.trans (HB1.out.mono hsW)).size
  have HB5 := Lib.hid (HBA.out.trans ((HB1.out.trans (hb5.mono HB1.out.size)).mono hsW))
  have HR5 := Lib.hid (HR1.out.below hb5)
  have HO5 := Lib.hid (hown.lower hs1)
  have HGR := Lib.hid hgr
  have r0 := HR5.out.cell 0 rfl
  have r1 := HR5.out.cell 1 rfl
  have r2 := HR5.out.cell 2 rfl
  have r3 := HR5.out.cell 3 rfl
  have s0 := HR5.out.frozen 0
  have s1 := HR5.out.frozen 1
  have s2 := HR5.out.frozen 2
  have s3 := HR5.out.frozen 3
  clear hb5 hgr hown HPR t0 t1 t2 t3
  go_wp2
  refine bodyPost_ret (spb_results rfl (put4 HR5.out)) rfl ?_
  refine ⟨below_put4 HB5.out hle, ⟨t.states, t.initial, t.labels, keptG t N⟩, 0, _, _, rfl, .inr ⟨HV.out, N, HGR.out, rfl, rfl⟩, ?_, ?_⟩
  ·exact own_put4 HR5.out HO5.out.1 (by decide)
  ·exact own_put4 HR5.out HO5.out.2 (by decide)
 ·have HV := Lib.hid hv
  have HVA : Hid (Calls Tryz.prog 19 #[.pointer (some ⟨tb, 0, none⟩)] wA fun e w' => e = .returned (.bool false) ∧ Below wA.heap.size wA w') := Decides.no (l11Is_any _ lo t _ HSH.out HP.out) hv
  clear hv
  go_enter Tryz.func6, Tryz.ntmps6
  go_wp2_with fail
  rw [← HWA.out, ← HTB.out]
  refine Calls.mono HVA.out ?_
  rintro e w1 ⟨rfl, hb1⟩
  have HB1 := Lib.hid hb1
  have HR1 := Lib.hid (HR.out.below hb1)
  have r0 := HR1.out.cell 0 rfl
  have r1 := HR1.out.cell 1 rfl
  have r2 := HR1.out.cell 2 rfl
  have r3 := HR1.out.cell 3 rfl
  have s0 := HR1.out.frozen 0
  have s1 := HR1.out.frozen 1
  have s2 := HR1.out.frozen 2
  have s3 := HR1.out.frozen 3
  clear hb1 t0 t1 t2 t3
  try rw [← HTB.out]
  go_wp2
  refine bodyPost_ret (spb_results rfl (put4 HR1.out)) rfl ?_
  exact pb_none (below_put4 (HBA.out.trans (HB1.out.mono hsW)) hle) HV.out

end Go.Proofs.YtbjbjbnbapeajaaGreatDoor

namespace Go.Proofs.YtbjbjbnbapeajaaGreatDoor
open Go Go.RowKit

def szS (ss : List ByteArray) (left : Int) : Int :=
 match ss with
 | [] => left
 | s :: r => if left - s.size < 0 then -1 else szS r (left - s.size)

theorem szS_lt (ss : List ByteArray) (left : Int) (h : 0 ≤ left) : -1 ≤ szS ss left ∧ szS ss left ≤ left := by
 induction ss generalizing left with
 | nil => simp [szS]; omega
 | cons s r ih =>
  unfold szS
  split
  ·omega
  ·have := ih (left - s.size) (by omega); omega

/-- What szStringS returns. -/
def szSS (ss : List ByteArray) (left : Int) : Int := if left - ss.length < 0 then -1 else szS ss (left - ss.length)
theorem szSS_neg {ss : List ByteArray} {left : Int} (h : left - ss.length < 0) : szSS ss left = -1 := by unfold szSS; rw [if_pos h]
theorem szSS_pos {ss : List ByteArray} {left : Int} (h : ¬ left - ss.length < 0) : szSS ss left = szS ss (left - ss.length) := by unfold szSS; rw [if_neg h]
def szN (n : Nat) (left : Int) : Int := if left - n < 0 then -1 else left - n
theorem szN_neg {n : Nat} {left : Int} (h : left - n < 0) : szN n left = -1 := by unfold szN; rw [if_pos h]
theorem szN_pos {n : Nat} {left : Int} (h : ¬ left - n < 0) : szN n left = left - n := by unfold szN; rw [if_neg h]

set_option maxHeartbeats 400000 in
theorem szStringS_any (v : Value) (lo : Nat) (ss : List ByteArray) (left : Int) (w : World)
   (h1 : 0 ≤ left) (h2 : left ≤ 1048576) (hs : StrsOk ss) (hv : SliceK 1 encS lo w v ss) :
  Calls Tryz.prog 17 #[v, .int .i64 left] w fun e w' => e = .returned (.int .i64 (szSS ss left)) ∧ w = w' := by
 have hS := Lib.hid hs
 clear hs
 obtain ⟨a, cap, rfl, hn, hcap, hr⟩ := hv
 by_cases hl : left - ss.length < 0
 ·go_enter Tryz.func17, Tryz.ntmps17
  go_wp2
  go_ret
  exact ⟨ret_int (szSS_neg hl).symm, rfl⟩
 ·go_enter Tryz.func17, Tryz.ntmps17
  go_wp2
  go_loop [1, 5] (fun t i => ∃ k : Nat, ∃ l : Int, k ≤ ss.length ∧ i = .int .i64 k ∧ t = .int .i64 l ∧ 0 ≤ l ∧ l ≤ 1048576 ∧ szS (ss.drop k) l = szS ss (left - ss.length)) (fun _ i => ss.length - (intOf i).toNat)
  case atStart => exact ⟨0, _, Nat.zero_le _, rfl, rfl, by omega, by omega, rfl⟩
  case round =>
   obtain ⟨k, l, hk, rfl, rfl, hl0, hl1, hs⟩ := hrel
   have hs' := Lib.hid hs
   clear hs
   by_cases hlt : k < ss.length
   ·have hsk := hS.out _ (List.getElem_mem hlt)
    obtain ⟨b, off, rfl, -, -, hck⟩ := hr.one hlt
    simp only [encS, List.getElem?_cons_zero] at hck
    clear hr
    have hd : Hid (szS (ss.drop k) l = if l - (ss[k]).size < 0 then -1 else szS (ss.drop (k+1)) (l - (ss[k]).size)) := by
     unfold Hid; rw [List.drop_eq_getElem_cons hlt, szS]
    by_cases hz : l - (ss[k]).size < 0
    ·go_wp2
     go_ret
     refine ⟨?_, rfl⟩
     exact ret_int (by rw [szSS_pos (by omega), ← hs'.out, hd.out, if_pos (by omega)])
    ·go_wp2
     go_round
     case rel => exact ⟨k+1, _, by omega, by go_num, rfl, by omega, by omega, by rw [← hs'.out, hd.out, if_neg (by omega)]⟩
     case measure => simp [intOf]; omega
   ·clear hr
    go_wp2
    go_ret
    refine ⟨?_, rfl⟩
    have : k = ss.length := by omega
    exact ret_int (by rw [szSS_pos (by omega), ← hs'.out]; simp [this, szS])

theorem szEdgeS_any (a : Option Addr) (cap n : Nat) (left : Int) (w : World) (h1 : 0 ≤ left) (h2 : left ≤ 1048576) (hn : n ≤ cap) (hcap : cap ≤ 9223372036854775807) :
  Calls Tryz.prog 18 #[.slice a n cap, .int .i64 left] w fun e w' => e = .returned (.int .i64 (szN n left)) ∧ w = w' := by
 by_cases hl : left - n < 0
 ·go_enter Tryz.func18, Tryz.ntmps18
  go_wp2
  go_ret
  exact ⟨ret_int (szN_neg hl).symm, rfl⟩
 ·go_enter Tryz.func18, Tryz.ntmps18
  go_wp2
  go_ret
  exact ⟨ret_int (szN_pos (by omega)).symm, rfl⟩

/-- What szLts returns. -/
def szL (t : Lts) (left : Int) : Int :=
 if szSS t.labels left < 0 then -1
 else if szN t.edges.length (szSS t.labels left) < 0 then -1
 else szN t.edges.length (szSS t.labels left)

theorem szSS_le (ss : List ByteArray) (left : Int) (h : 0 ≤ left) : -1 ≤ szSS ss left ∧ szSS ss left ≤ left := by
 unfold szSS
 split
 ·omega
 ·have := szS_lt ss (left - ss.length) (by omega); omega

set_option maxHeartbeats 400000 in
theorem szLts_any (v : Value) (lo : Nat) (t : Lts) (left : Int) (w : World)
   (h1 : 0 ≤ left) (h2 : left ≤ 1048576) (hs : StrsOk t.labels) (hv : LtsAt lo w v t) :
  Calls Tryz.prog 5 #[v, .int .i64 left] w
   fun e w' => e = .returned (.int .i64 (szL t left)) ∧ Below w.heap.size w w' := by
 have hb := szSS_le t.labels left h1
 have hS := Lib.hid hs
 clear hs
 obtain ⟨lv, ev, rfl, hl, ae, ce, rfl, hn, hcap, hr⟩ := hv
 go_enter Tryz.func5, Tryz.ntmps5
 go_wp2_with fail
 refine (szStringS_any _ _ _ _ _ h1 h2 hS.out (hl.below ((Below.refl _ w).alloc (Nat.le_refl _) _))).mono ?_
 clear hl hr
 rintro e w' ⟨rfl, rfl⟩
 have hf : Hid (szL t left = if szSS t.labels left < 0 then -1 else if szN t.edges.length (szSS t.labels left) < 0 then -1 else szN t.edges.length (szSS t.labels left)) := rfl
 generalize szSS t.labels left = q at *
 by_cases hl : q < 0
 ·go_wp2_with fail
  go_ret
  exact ⟨ret_int (by rw [hf.out, if_pos hl]), (Below.refl _ _).alloc (Nat.le_refl _) _⟩
 ·go_wp2_with fail
  refine (szEdgeS_any _ _ _ _ _ (by omega) (by omega) hn hcap).mono ?_
  rintro e w' ⟨rfl, rfl⟩
  generalize szN t.edges.length q = q2 at *
  by_cases hl2 : q2 < 0
  ·go_wp2_with fail
   go_ret
   exact ⟨ret_int (by rw [hf.out, if_neg (by omega), if_pos (by omega)]), (Below.refl _ _).alloc (Nat.le_refl _) _⟩
  ·go_wp2_with fail
   go_ret
   exact ⟨ret_int (by rw [hf.out, if_neg (by omega), if_neg (by omega)]), (Below.refl _ _).alloc (Nat.le_refl _) _⟩

set_option maxHeartbeats 400000 in
theorem eqStringS_same (va vb : Value) (lo lo' : Nat) (xs : List ByteArray) (w : World) (hva : SliceK 1 encS lo w va xs) (hvb : SliceK 1 encS lo' w vb xs) :
  Calls Tryz.prog 25 #[va, vb] w fun e w' => e = .returned (.bool true) ∧ Below w.heap.size w w' := by
 obtain ⟨a, ca, rfl, hna, hca, ha⟩ := hva
 obtain ⟨b, cb, rfl, hnb, hcb, hb⟩ := hvb
 go_enter Tryz.func25, Tryz.ntmps25
 go_wp2
 go_loopw [5] (fun i wr => ∃ k : Nat, k ≤ xs.length ∧ i = .int .i64 k ∧ Below w.heap.size w wr) (fun i _ => xs.length - (intOf i).toNat)
 case atStart => exact ⟨0, Nat.zero_le _, rfl, Below.refl _ _⟩
 case round =>
  obtain ⟨k, hk, rfl, hbl⟩ := hrel
  by_cases hlt : k < xs.length
  ·obtain ⟨b1, o1, rfl, -, h1, c1⟩ := ha.one hlt
   obtain ⟨b2, o2, rfl, -, h2, c2⟩ := hb.one hlt
   simp only [encS, List.getElem?_cons_zero] at c1 c2
   replace c1 := keeps hbl h1 c1
   replace c2 := keeps hbl h2 c2
   clear ha hb
   go_wp2
   go_quiet (fail)
   go_wp2
   go_roundw
   case rel => exact ⟨k + 1, by omega, by go_num, drews hbl _⟩
   case measure => simp [intOf]; omega
  ·clear ha hb
   go_wp2
   go_ret
   exact ⟨rfl, hbl⟩

set_option maxHeartbeats 400000 in
theorem eqEdge_same (x y z : Int) (w : World) :
  Calls Tryz.prog 55 #[.agg #[.int .i64 x, .int .i64 y, .int .i64 z], .agg #[.int .i64 x, .int .i64 y, .int .i64 z]] w fun e w' => e = .returned (.bool true) ∧ Below w.heap.size w w' := by
 go_enter Tryz.func55, Tryz.ntmps55
 go_wp2
 go_ret
 exact ⟨rfl, ((Below.refl _ _).alloc (Nat.le_refl _) _).alloc (by simp) _⟩

set_option maxHeartbeats 400000 in
theorem eqEdgeS_same (va vb : Value) (lo lo' : Nat) (xs : List Edge) (w : World) (hva : SliceK 3 encE lo w va xs) (hvb : SliceK 3 encE lo' w vb xs) :
  Calls Tryz.prog 26 #[va, vb] w fun e w' => e = .returned (.bool true) ∧ Below w.heap.size w w' := by
 obtain ⟨a, ca, rfl, hna, hca, ha⟩ := hva
 obtain ⟨b, cb, rfl, hnb, hcb, hb⟩ := hvb
 go_enter Tryz.func26, Tryz.ntmps26
 go_wp2
 go_loopw [5] (fun i wr => ∃ k : Nat, k ≤ xs.length ∧ i = .int .i64 k ∧ Below w.heap.size w wr) (fun i _ => xs.length - (intOf i).toNat)
 case atStart => exact ⟨0, Nat.zero_le _, rfl, Below.refl _ _⟩
 case round =>
  obtain ⟨k, hk, rfl, hbl⟩ := hrel
  by_cases hlt : k < xs.length
  ·obtain ⟨b1, o1, rfl, -, h1, c1, c2, c3⟩ := (ha.below hbl).edge hlt
   obtain ⟨b2, o2, rfl, -, h2, c4, c5, c6⟩ := (hb.below hbl).edge hlt
   replace c1 := later_cell h1 c1
   replace c2 := later_cell h1 c2
   replace c3 := later_cell h1 c3
   replace c4 := later_cell h2 c4
   replace c5 := later_cell h2 c5
   replace c6 := later_cell h2 c6
   clear ha hb
   go_wp2
   refine wp_region_later (by kernel_rfl) (by kernel_rfl) ?_
   repeat (go_big_quiet_step ((go_at_call 55; exact later_call (eqEdge_same _ _ _ _))))
   refine wpQuiet_nil ?_
   intro _ hw9
   obtain ⟨nl, hw8⟩ := hw9
   subst hw8
   go_wp2
   go_roundw
   case rel => exact ⟨k + 1, by omega, by go_num, hbl.trans (nl.h.mono hbl.size)⟩
   case measure => simp [intOf]; omega
  ·clear ha hb
   go_wp2
   go_ret
   exact ⟨rfl, hbl⟩

set_option maxHeartbeats 400000 in
theorem eqLts_same (va vb : Value) (lo lo' : Nat) (t : Lts) (w : World) (hva : LtsAt lo w va t) (hvb : LtsAt lo' w vb t) :
  Calls Tryz.prog 9 #[va, vb] w fun e w' => e = .returned (.bool true) ∧ Below w.heap.size w w' := by
 obtain ⟨la, ea, rfl, h1, h2⟩ := hva
 obtain ⟨lb, eb, rfl, h3, h4⟩ := hvb
 have hw0 : ∀ o1 o2, Below w.heap.size w ((w.alloc o1).alloc o2) := fun _ _ => ((Below.refl _ _).alloc (Nat.le_refl _) _).alloc (by simp) _
 have H0 := Lib.hid hw0
 have H1 := Lib.hid h1
 have H2 := Lib.hid h2
 have H3 := Lib.hid h3
 have H4 := Lib.hid h4
 clear hw0
 obtain ⟨_, _, rfl, -⟩ := h1
 obtain ⟨_, _, rfl, -⟩ := h2
 obtain ⟨_, _, rfl, -⟩ := h3
 obtain ⟨_, _, rfl, -⟩ := h4
 go_enter Tryz.func9, Tryz.ntmps9
 go_wp2_with fail
 refine (eqStringS_same _ _ _ _ _ _ (SliceK.below H1.out (H0.out _ _)) (SliceK.below H3.out (H0.out _ _))).mono ?_
 rintro e w1 ⟨rfl, hb1⟩
 obtain ⟨hc1, -⟩ := both hb1
 have hz := hb1.size
 simp only [World.size_alloc] at hz
 go_wp2_with fail
 refine (eqEdgeS_same _ _ _ _ _ _ (SliceK.below H2.out ((H0.out _ _).trans (hb1.mono (by simp; omega)))) (SliceK.below H4.out ((H0.out _ _).trans (hb1.mono (by simp; omega))))).mono ?_
 rintro e w2 ⟨rfl, hb2⟩
 go_wp2_with fail
 go_ret
 exact ⟨rfl, (H0.out _ _).trans ((hb1.mono (by simp; omega)).trans (hb2.mono (by omega)))⟩

end Go.Proofs.YtbjbjbnbapeajaaGreatDoor
