/-
  The reference's l11Next, l17Ready and l11Texts.
  The reference's first table of truths, for two systems and any kind.
  The reference's greatest simulation for two systems and any kind; its list of pairs.
  The reference's pairs of a table, l17Ask and SimulationOf.
-/
import Derived.Test.YtbjbjbnbapeajaaGreatDoorQ6
import Derived.Test.YtbjbjbnbapeajaaGreatDoorQ8
import Derived.Deep.QuietTactic
import Derived.BigQuiet
import Derived.Test.YtbjbjbnbapeajaaGreatDoorQ3
import Derived.Sort.LoopGhostIn
import Derived.Test.YtbjbjbnbapeajaaGreatDoorQ2
namespace Go.Proofs.YtbjbjbnbapeajaaGreatDoor
open Go Go.RowKit

theorem info_strR2 : (Tryz.prog.info? 9).map (fun i => (i.zero, i.size, i.bytes)) = some (some (.string ⟨#[]⟩), 1, 16) := by kernel_rfl
/-- The states behind the edges from a state with a label's number. -/
def nextB (k l : Int) (e : Edge) : Bool := (e.src == k) && (e.lab == l)
theorem next_take {t : Lts} {s l : Int} {k : Nat} (h : k < t.edges.length) (g : nextB s l t.edges[k] = true) :
  ((t.edges.take (k + 1)).filter (nextB s l)).map Edge.dst = ((t.edges.take k).filter (nextB s l)).map Edge.dst ++ [t.edges[k].dst] := by
 rw [List.take_succ_eq_append_getElem h, List.filter_append, List.map_append]
 simp [g]
theorem next_miss {t : Lts} {s l : Int} {k : Nat} (h : k < t.edges.length) (g : nextB s l t.edges[k] = false) :
  ((t.edges.take (k + 1)).filter (nextB s l)).map Edge.dst = ((t.edges.take k).filter (nextB s l)).map Edge.dst := by
 rw [List.take_succ_eq_append_getElem h, List.filter_append, List.map_append]
 simp [g]

set_option maxRecDepth 100000 in
set_option maxHeartbeats 1000000 in
theorem l11Next_any (p lo : Nat) (t : Lts) (s l : Int) (w : World) (hsmall : t.edges.length ≤ 1073741824) (hp : LtsPtr lo w p t) :
  Calls Tryz.prog 97 #[.pointer (some ⟨p, 0, none⟩), .int .i64 s, .int .i64 l] w (MadeNums ((t.edges.filter (nextB s l)).map Edge.dst) w) := by
 obtain ⟨lv, ev, hpl, -, -, -, q3, -, he⟩ := hp
 obtain ⟨ae, ce, rfl, hen, hec, hrow⟩ := he
 obtain ⟨i0, hi, hz0, hz1, hz2⟩ := info_parts info_int64
 have HQ3 := Lib.hid q3
 go_enter Tryz.func97, Tryz.ntmps97
 go_wp2
 clear q3
 go_loopw [7, 8] (fun v i wr => ∃ k : Nat, k ≤ t.edges.length ∧ i = .int .i64 k ∧ Below w.heap.size w wr ∧ wr.ownsRow w.heap.size 2 1 v (((t.edges.take k).filter (nextB s l)).map Edge.dst).length ((((t.edges.take k).filter (nextB s l)).map Edge.dst).map (Value.int .i64))) (fun _ i _ => t.edges.length - (intOf i).toNat)
 case atStart => exact ⟨0, Nat.zero_le _, rfl, (Below.refl _ _).alloc (Nat.le_refl _) _, World.ownsRow_lit (size := 1) w #[] 0 (Nat.le_refl _) (by simp [maxLen]) rfl⟩
 case round =>
  obtain ⟨k, hk, rfl, hbl, ho⟩ := hrel
  have HBL := Lib.hid hbl
  have HO := Lib.hid ho
  have hsz := hbl.size
  have q3 := keeps hbl hpl HQ3.out
  have hfl : (((t.edges.take k).filter (nextB s l)).map Edge.dst).length ≤ k := by rw [List.length_map]; exact Nat.le_trans (List.length_filter_le _ _) (List.length_take_le _ _)
  clear hbl ho
  by_cases hlt : k < t.edges.length
  ·obtain ⟨be, oe, rfl, -, hbe, e1, e2, e3⟩ := (hrow.below HBL.out).edge hlt
   clear hrow
   obtain ⟨e, hee⟩ : ∃ e, e = t.edges[k] := ⟨_, rfl⟩
   rw [← hee] at e1 e2 e3
   have HEE := Lib.hid hee
   clear hee
   cases g : (e.src == s)
   ·have HL : Hid (nextB s l t.edges[k] = false) := by unfold Hid nextB; rw [← HEE.out, g]; rfl
    go_wp2
    go_roundw
    case rel => exact ⟨k + 1, by omega, by go_num, HBL.out, by rw [next_miss hlt HL.out]; exact HO.out⟩
    case measure => simp [intOf]; omega
   ·cases g2 : (e.lab == l)
    ·have HL : Hid (nextB s l t.edges[k] = false) := by unfold Hid nextB; rw [← HEE.out, g, g2]; rfl
     go_wp2
     go_roundw
     case rel => exact ⟨k + 1, by omega, by go_num, HBL.out, by rw [next_miss hlt HL.out]; exact HO.out⟩
     case measure => simp [intOf]; omega
    ·have HL : Hid (nextB s l t.edges[k] = true) := by unfold Hid nextB; rw [← HEE.out, g, g2]; rfl
     generalize hfs : ((t.edges.take k).filter (nextB s l)).map Edge.dst = fs at *
     have HFS := Lib.hid hfs
     clear hfs
     go_wp2_with (at_builtin; refine wpList_append_own _ rfl _ _ 68 rfl w.heap.size 2 i0 (.int .i64 0) 1 8 Tryz.underlying68 hi hz0 hz1 hz2 rfl (by decide) _ _ _ rfl (HO.out.alloc _) ⟨wr.heap.size, 0, none⟩ 1 1 [.int .i64 e.dst] rfl rfl ?c1 ?c2 ?c3 ?c4 ?c5 ?_)
     case c1 => exact (cell_one_new _ _ _)
     case c2 => intro u hu; simp at hu; subst hu; rfl
     case c3 => simp [maxLen]; omega
     case c4 => omega
     case c5 => simp; omega
     intro v' w3 ho1 hg1 _
     have HO2 : Hid (w3.ownsRow w.heap.size 2 1 v' (fs ++ [e.dst]).length ((fs ++ [e.dst]).map (Value.int .i64))) := by
      unfold Hid
      rw [List.length_append, List.map_append]
      exact ho1
     have HB2 : Hid (Below w.heap.size w w3) := (HBL.out.alloc hsz _).grown hg1 (by simp; omega) (fun b e => (HO.out.lt b e).1)
     clear ho1 hg1
     go_wp2
     go_roundw
     case rel => exact ⟨k + 1, by omega, by go_num, HB2.out, by rw [next_take hlt HL.out, HFS.out, ← HEE.out]; exact HO2.out⟩
     case measure => simp [intOf]; omega
  ·clear hrow
   go_wp2
   go_ret
   obtain rfl : k = t.edges.length := by omega
   exact ⟨_, rfl, HBL.out, by have := HO.out; rw [List.take_length] at this; exact this⟩

set_option maxRecDepth 100000 in
set_option maxHeartbeats 1000000 in
theorem l11Texts_any (lo lo' : Nat) (va vb : Value) (xs ys : List ByteArray) (w : World) (hva : SliceK 1 encS lo w va xs) (hvb : SliceK 1 encS lo' w vb ys) (_hz : xs.length ≤ 1048576) (_hz2 : ys.length ≤ 1048576) :
  Calls Tryz.prog 77 #[va, vb] w fun e w' => ∃ b : Bool, e = .returned (.bool b) ∧ (b = true ↔ xs = ys) ∧ Below w.heap.size w w' := by
 obtain ⟨a, ca, rfl, hna, hca, ha⟩ := hva
 obtain ⟨b, cb, rfl, hnb, hcb, hb⟩ := hvb
 have HA := Lib.hid ha
 have HB := Lib.hid hb
 obtain ⟨N, hN⟩ : ∃ N, N = xs.length := ⟨_, rfl⟩
 obtain ⟨M, hM⟩ : ∃ M, M = ys.length := ⟨_, rfl⟩
 rw [← hN] at hna ⊢
 rw [← hM] at hnb ⊢
 have HN := Lib.hid hN
 have HM := Lib.hid hM
 clear ha hb hN hM hna hca hnb hcb
 by_cases hl : N = M
 ·have HL := Lib.hid hl
  have hlb : ((N : Int) == (M : Int)) = true := by rw [beq_iff_eq]; omega
  clear hl
  go_enter Tryz.func77, Tryz.ntmps77
  go_wp2
  go_loopw [5] (fun i wr => ∃ k : Nat, k ≤ N ∧ i = .int .i64 k ∧ Below w.heap.size w wr ∧ ∀ j (h1 : j < xs.length) (h2 : j < ys.length), j < k → xs[j].toList = ys[j].toList) (fun i _ => N - (intOf i).toNat)
  case atStart => exact ⟨0, Nat.zero_le _, rfl, Below.refl _ _, fun _ _ _ h => by omega⟩
  case round =>
   obtain ⟨k, hk, rfl, hbl, hx⟩ := hrel
   have HX := Lib.hid hx
   have HBL := Lib.hid hbl
   clear hx
   by_cases hlt : k < N
   ·have hl1 : k < xs.length := by have := HN.out; omega
    have hl2 : k < ys.length := by have := HM.out; have := HL.out; omega
    have hkM : k < M := by have := HL.out; omega
    obtain ⟨b1, o1, rfl, -, h1, c1⟩ := (HA.out.below hbl).one hl1
    obtain ⟨b2, o2, rfl, -, h2, c2⟩ := (HB.out.below hbl).one hl2
    simp only [encS, List.getElem?_cons_zero] at c1 c2
    obtain ⟨x, hx⟩ : ∃ x, x = xs[k] := ⟨_, rfl⟩
    obtain ⟨y, hy⟩ : ∃ y, y = ys[k] := ⟨_, rfl⟩
    rw [← hx] at c1
    rw [← hy] at c2
    have HXX := Lib.hid hx
    have HYY := Lib.hid hy
    clear hbl hx hy
    cases hxy : (x.toList == y.toList)
    ·have HF : Hid (¬ xs = ys) := fun e => by
      subst e
      rw [HXX.out, HYY.out, beq_self_eq_true] at hxy
      cases hxy
     go_wp2
     go_quiet (fail)
     go_wp2
     go_ret
     exact ⟨_, rfl, ⟨(fun h => by cases h), fun h => absurd h HF.out⟩, drews HBL.out _⟩
    ·have HF : Hid (xs[k].toList = ys[k].toList) := by
      rw [beq_iff_eq, HXX.out, HYY.out] at hxy
      exact hxy
     go_wp2
     go_quiet (fail)
     go_wp2
     go_roundw
     case rel => exact ⟨k + 1, by omega, by go_num, drews HBL.out _, fun j h1 h2 hj => by
      by_cases e : j = k
      ·subst e; exact HF.out
      ·exact HX.out j h1 h2 (by omega)⟩
     case measure => simp [intOf]; omega
   ·have HF : Hid (xs = ys) := list_same (by rw [← HN.out, ← HM.out, HL.out]) fun j h1 h2 => HX.out j h1 h2 (by have := HN.out; omega)
    clear hbl
    go_wp2
    go_ret
    exact ⟨_, rfl, ⟨fun _ => HF.out, fun _ => rfl⟩, HBL.out⟩
 ·have HL : Hid (¬ xs = ys) := fun e => hl (by rw [HN.out, HM.out, e])
  have hlb : ((N : Int) == (M : Int)) = false := by rw [beq_eq_false_iff_ne]; omega
  clear hl
  go_enter Tryz.func77, Tryz.ntmps77
  go_wp2
  go_ret
  exact ⟨_, rfl, ⟨(fun h => by cases h), fun h => absurd h HL.out⟩, Below.refl _ _⟩


theorem next_has (t : Lts) (k : Int) (i : Nat) : hasQ t k i = decide (0 < ((t.edges.filter (nextB k i)).map Edge.dst).length) := by
 rw [Bool.eq_iff_iff, decide_eq_true_eq, List.length_map, List.length_pos_iff_exists_mem]
 unfold hasQ nextB
 rw [List.any_eq_true]
 constructor
 ·rintro ⟨e, he, hb⟩; exact ⟨e, List.mem_filter.2 ⟨he, hb⟩⟩
 ·rintro ⟨e, he⟩; rw [List.mem_filter] at he; exact ⟨e, he.1, he.2⟩

set_option maxRecDepth 100000 in
set_option maxHeartbeats 2000000 in
theorem l17Ready_any (bt lo : Nat) (t : Lts) (k : Int) (w : World) (hv : Valid t) (hp : LtsPtr lo w bt t) :
  Calls Tryz.prog 78 #[.pointer (some ⟨bt, 0, none⟩), .int .i64 k] w fun e w' => ∃ v, e = .returned v ∧ Below w.heap.size w w' ∧ OwnStrs w.heap.size w' v (rdyQ t k) := by
 have HV := Lib.hid hv
 have HP := Lib.hid hp
 have HRA := Lib.hid (rdyTo_all hv k)
 have hmost := hv.labels.most
 obtain ⟨lv, ev, hpl, -, -, q2, -, hls, -⟩ := hp
 obtain ⟨al, cl, rfl, hln, hlc, hlrow⟩ := hls
 have HLR := Lib.hid hlrow
 obtain ⟨LN, hLN⟩ : ∃ LN, LN = t.labels.length := ⟨_, rfl⟩
 rw [← hLN] at q2 hln hmost HRA
 have HLN := Lib.hid hLN
 have HQ2 := Lib.hid q2
 obtain ⟨B, hB⟩ : ∃ B, B = w.heap.size := ⟨_, rfl⟩
 have HBE := Lib.hid hB
 obtain ⟨i3, hi3, hz30, hz31, hz32⟩ := info_parts info_strR2
 have hst0 : Below B w (w.alloc (.cells #[] 9)) := by rw [hB]; exact (Below.refl _ _).alloc (Nat.le_refl _) _
 have ho0 : (w.alloc (.cells #[] 9)).ownsRow B 9 1 (.slice (some ⟨w.heap.size, 0, none⟩) 0 0) 0 [] := World.ownsRow_lit (base := B) (e := 9) (size := 1) w #[] 0 (by rw [hB]; exact Nat.le_refl _) (by simp [maxLen]) rfl
 have HB0 := Lib.hid hst0
 have HO0 := Lib.hid ho0
 clear hv hlrow hLN hB q2 hst0 ho0
 go_enter Tryz.func78, Tryz.ntmps78
 go_wp2
 go_loopw [5, 6] (fun v5 v6 wr => ∃ n : Nat, n ≤ LN ∧ v6 = .int .i64 n ∧ Below B w wr ∧ wr.ownsRow B 9 1 v5 (rdyTo t k n).length ((rdyTo t k n).map Value.string)) (fun _ v6 _ => LN - (intOf v6).toNat)
 case atStart => exact ⟨0, Nat.zero_le _, rfl, HB0.out, HO0.out⟩
 case round =>
  clear HB0 HO0
  obtain ⟨n, hn, rfl, hbl, ho⟩ := hrel
  obtain ⟨wC, rfl⟩ : ∃ wC : World, wC = wr := ⟨_, rfl⟩
  have hbw : Below w.heap.size w wC := by have h := hbl; rw [HBE.out] at h; exact h
  have hsC : B ≤ wC.heap.size := by rw [HBE.out]; exact hbw.size
  have HBL := Lib.hid hbl
  have HO := Lib.hid ho
  obtain ⟨a5, c5, rfl, -, -⟩ := owns_slice ho
  have q2 := keeps hbw hpl HQ2.out
  have hplC : bt < wC.heap.size := Nat.lt_of_lt_of_le hpl hbw.size
  have hrl := rdyTo_len t k n
  by_cases hlt : n < LN
  ·have hni : (n : Int) < (LN : Int) := by omega
   have HNX := Lib.hid (l11Next_any bt lo t k n wC (by have := HV.out.most; omega) (HP.out.below hbw))
   have hhas := next_has t k n
   obtain ⟨ys, hys⟩ : ∃ ys, ys = (t.edges.filter (nextB k n)).map Edge.dst := ⟨_, rfl⟩
   rw [← hys] at HNX hhas
   obtain ⟨YL, hYL⟩ : ∃ YL, YL = ys.length := ⟨_, rfl⟩
   rw [← hYL] at hhas
   have HYL := Lib.hid hYL
   have HHAS := Lib.hid hhas
   have hnL : n < t.labels.length := by rw [← HLN.out]; exact hlt
   obtain ⟨bl, ol, rfl, -, hbl0, hlc1⟩ := HLR.out.one hnL
   simp only [encS, List.getElem?_cons_zero] at hlc1
   obtain ⟨l, hl⟩ : ∃ l, l = t.labels[n] := ⟨_, rfl⟩
   rw [← hl] at hlc1
   have hgd : t.labels.getD n ⟨#[]⟩ = l := by rw [List.getD_eq_getElem?_getD, List.getElem?_eq_getElem hnL, hl]; rfl
   have HGD := Lib.hid hgd
   have HLC := Lib.hid hlc1
   have HBW := Lib.hid hbw
   obtain ⟨RL, hRL⟩ : ∃ RL, RL = (rdyTo t k n).length := ⟨_, rfl⟩
   rw [← hRL] at hrl HO
   rw [← hRL]
   have HRL := Lib.hid hRL
   clear hbl ho hbw hys hYL hhas hl hgd hlc1 hRL
   go_wp2_with fail
   refine Calls.mono HNX.out ?_
   rintro e w5 ⟨yv, rfl, hb5, ho5⟩
   obtain ⟨ya, yc, rfl, -, -⟩ := owns_slice ho5
   rw [← HYL.out]
   have HB5 : Hid (Below B w w5) := HBL.out.trans (hb5.mono hsC)
   have HO5 := Lib.hid (owns_below HO.out hb5)
   have hbw5 : Below w.heap.size w w5 := HBW.out.trans (hb5.mono HBW.out.size)
   have q25 := keeps hbw5 hpl HQ2.out
   have lc5 := keeps hbw5 hbl0 HLC.out
   have hpl5 : bt < w5.heap.size := Nat.lt_of_lt_of_le hpl hbw5.size
   have hbl5 : bl < w5.heap.size := Nat.lt_of_lt_of_le hbl0 hbw5.size
   have hs5 : B ≤ w5.heap.size := by rw [HBE.out]; exact hbw5.size
   clear hb5 ho5 HNX q2 hbw5
   by_cases hy : 0 < YL
   ·have hyi : (0 : Int) < (YL : Int) := by omega
    have HYES : Hid (rdyTo t k (n + 1) = rdyTo t k n ++ [l]) := by
     unfold Hid
     rw [rdyTo_yes (by rw [HHAS.out]; exact decide_eq_true hy), HGD.out]
    go_wp2_with (at_builtin; refine wpList_append_own _ rfl _ _ 22 rfl B 9 i3 (.string ⟨#[]⟩) 1 16 Tryz.underlying22 hi3 hz30 hz31 hz32 rfl (by decide) _ RL _ rfl (HO5.out.alloc _) ⟨w5.heap.size, 0, none⟩ 1 1 [.string l] rfl rfl ?c1 ?c2 ?c3 ?c4 ?c5 ?_)
    case c1 => exact (cell_one_new _ _ _)
    case c2 => intro u hu; simp at hu; subst hu; rfl
    case c3 => simp [maxLen]; omega
    case c4 => omega
    case c5 => simp; omega
    intro v7 w7 ho7 hg7 _
    have HB7 : Hid (Below B w w7) := (HB5.out.alloc hs5 _).grown hg7 (by simp; omega) (fun b e => (HO5.out.lt b e).1)
    have HO7 : Hid (w7.ownsRow B 9 1 v7 (rdyTo t k (n + 1)).length ((rdyTo t k (n + 1)).map Value.string)) := by
     unfold Hid
     rw [HYES.out, List.length_append, List.length_singleton, List.map_append, ← HRL.out]
     exact ho7
    clear ho7 hg7 q25 lc5
    go_wp2
    go_roundw
    case rel => exact ⟨n + 1, by omega, by go_num, HB7.out, HO7.out⟩
    case measure => simp [intOf]; omega
   ·have hyi : ¬ (0 : Int) < (YL : Int) := by omega
    have HNO : Hid (rdyTo t k (n + 1) = rdyTo t k n) := rdyTo_no (by rw [HHAS.out]; exact decide_eq_false hy)
    go_wp2
    go_roundw
    case rel => exact ⟨n + 1, by omega, by go_num, HB5.out, by rw [HNO.out, ← HRL.out]; exact HO5.out⟩
    case measure => simp [intOf]; omega
  ·have HN : Hid (n = LN) := Lib.hid (show n = LN by omega)
   clear hbl ho
   go_wp2
   go_ret
   refine ⟨_, rfl, by rw [← HBE.out]; exact HBL.out, ?_⟩
   have h := HO.out
   rw [HN.out, ← HRA.out, HBE.out] at h
   rw [HN.out, ← HRA.out]
   exact h

end Go.Proofs.YtbjbjbnbapeajaaGreatDoor

namespace Go.Proofs.YtbjbjbnbapeajaaGreatDoor
open Go Go.RowKit

theorem stK_in {κ : Int} {a b : Lts} {S P x y : Nat} (hS : (S : Int) = a.states) (hP : (P : Int) = b.states) (hx : x < S) (hy : y < P) : stK κ a b x y = okK κ a b x y := by
 unfold stK
 have : allG a b x y = true := by rw [allG_iff]; omega
 rw [this, Bool.true_and]

set_option maxRecDepth 100000 in
set_option maxHeartbeats 4000000 in
theorem firstK_any (bt bb lo S P : Nat) (κ : Int) (t b : Lts) (w : World) (hv : Valid t) (hvb : Valid b) (hS : (S : Int) = t.states) (hP : (P : Int) = b.states) (hp : LtsPtr lo w bt t) (hpb : LtsPtr lo w bb b) :
  Calls Tryz.prog 58 #[.pointer (some ⟨bt, 0, none⟩), .pointer (some ⟨bb, 0, none⟩), .int .i64 κ] w fun e w' => ∃ (nb : Nat) (rv' : Value) (vs' : List Value), e = .returned (.pointer (some ⟨nb, 0, none⟩)) ∧ Below w.heap.size w w' ∧ TabK w.heap.size w' nb bt bb κ S P (stK κ t b) rv' vs' := by
 have HSS := Lib.hid hS
 have HPS := Lib.hid hP
 have HV := Lib.hid hv
 have HVB := Lib.hid hvb
 have HPA := Lib.hid hp
 have HPB := Lib.hid hpb
 have hP40 : P ≤ 40 := by have := hvb.st1; omega
 have hS0 : 0 < S := by have := hv.st0; omega
 have hS40 : S ≤ 40 := by have := hv.st1; omega
 obtain ⟨lv, ev, hpl, q0, -, -, -, -, -⟩ := hp
 obtain ⟨lv2, ev2, hpl2, p0, -, -, -, -, -⟩ := hpb
 rw [← hS] at q0
 rw [← hP] at p0
 have HP0 := Lib.hid p0
 have HQ0 := Lib.hid q0
 obtain ⟨W, hW⟩ : ∃ W, W = w.alloc (.cells #[.pointer (some ⟨bt, 0, none⟩), .pointer (some ⟨bb, 0, none⟩), .int .i64 κ, .slice none 0 0] 60) := ⟨_, rfl⟩
 obtain ⟨nb, hnb⟩ : ∃ nb, nb = w.heap.size := ⟨_, rfl⟩
 have hbW : Below w.heap.size w W := by rw [hW]; exact (Below.refl _ _).alloc (Nat.le_refl _) _
 have hNB : Blk W nb [.pointer (some ⟨bt, 0, none⟩), .pointer (some ⟨bb, 0, none⟩), .int .i64 κ, .slice none 0 0] 60 := by rw [hW, hnb]; exact Blk.new w _ _
 have HB0 := Lib.hid hbW
 have HNB := Lib.hid hNB
 have HWW := Lib.hid hW
 have HNBE := Lib.hid hnb
 have hnbw : w.heap.size ≤ nb := by omega
 obtain ⟨ib, hib, hzb0, hzb1, hzb2⟩ := info_parts info_boolG
 obtain ⟨ir, hir, hzr0, hzr1, hzr2⟩ := info_parts info_boolsG
 clear hv hvb hS hP hbW hNB hW hnb q0 p0
 go_enter Tryz.func58, Tryz.ntmps58
 go_wp2
 rw [← HWW.out, ← HNBE.out]
 go_loopw [8] (fun v8 wr => ∃ (x : Nat) (rv' : Value) (vs' : List Value), v8 = .int .i64 x ∧ x ≤ S ∧ Below w.heap.size w wr ∧ Blk wr nb [.pointer (some ⟨bt, 0, none⟩), .pointer (some ⟨bb, 0, none⟩), .int .i64 κ, rv'] 60 ∧ OwnVss 57 4 w.heap.size wr rv' vs' (tabG x P (stK κ t b))) (fun v8 _ => S - (intOf v8).toNat)
 case atStart => exact ⟨0, .slice none 0 0, [], rfl, Nat.zero_le _, HB0.out, HNB.out, OwnVss.nothing _ _ _ _⟩
 case round =>
  clear HB0 HNB
  obtain ⟨x, rv', vs', rfl, hx, hbl, hnbk, hown⟩ := hrel
  obtain ⟨wC, rfl⟩ : ∃ wC : World, wC = wr := ⟨_, rfl⟩
  have HBL := Lib.hid hbl
  have HNB := Lib.hid hnbk
  have HOW := Lib.hid hown
  have hszC := hbl.size
  obtain ⟨ra, rcc, rfl, -, -⟩ := owns_slice hown.2.1
  obtain ⟨VL, hVL⟩ : ∃ VL, VL = vs'.length := ⟨_, rfl⟩
  rw [← hVL] at HNB HOW
  have HVL := Lib.hid hVL
  have hvx : VL = x := by rw [hVL, hown.1, tabG_len]
  have hVS : VL ≤ 40 := by omega
  have Q0 := keeps hbl hpl HQ0.out
  have P0 := keeps hbl hpl2 HP0.out
  clear hbl hnbk hown hVL hvx
  by_cases hlt : x < S
  ·obtain ⟨B, hB⟩ : ∃ B, B = wC.heap.size := ⟨_, rfl⟩
   have hwB : w.heap.size ≤ B := by rw [hB]; exact hszC
   have hal : Below wC.heap.size wC (wC.alloc (.cells #[] 4)) := (Below.refl _ _).alloc (Nat.le_refl _) _
   have HROW : Hid ((wC.alloc (.cells #[] 4)).ownsRow B 4 1 (.slice (some ⟨B, 0, none⟩) 0 0) 0 []) := by
    rw [hB]; exact World.ownsRow_lit (size := 1) wC #[] 0 (Nat.le_refl _) (by decide) rfl
   have HAL := Lib.hid hal
   have HBB := Lib.hid hB
   have hxi : (x : Int) < (S : Int) := by omega
   clear hB hal
   go_wp2
   rw [← HBB.out]
   go_loopw [9, 10] (fun v9 v10 wr => ∃ (y : Nat), v10 = .int .i64 y ∧ y ≤ P ∧ Below wC.heap.size wC wr ∧ wr.ownsRow B 4 1 v9 y (rowG y (stK κ t b) x)) (fun _ v10 _ => P - (intOf v10).toNat)
   case atStart => exact ⟨0, rfl, Nat.zero_le _, HAL.out, HROW.out⟩
   case round =>
    clear HAL HROW Q0 P0
    obtain ⟨y, rfl, hy, hbl2, hrow⟩ := hrel
    obtain ⟨wD, rfl⟩ : ∃ wD : World, wD = wr := ⟨_, rfl⟩
    have HB2 := Lib.hid hbl2
    have HRW := Lib.hid hrow
    obtain ⟨a7, c7, rfl, -, -⟩ := owns_slice hrow
    have hsD : wC.heap.size ≤ wD.heap.size := hbl2.size
    have P0 := keeps (HBL.out.trans (hbl2.mono hszC)) hpl2 HP0.out
    by_cases hyl : y < P
    ·have hrs0 : rowG (y + 1) (stK κ t b) x = rowG y (stK κ t b) x ++ [.bool (okK κ t b x y)] := by
      rw [rowG_succ, stK_in HSS.out HPS.out hlt hyl]
     have hyi : (y : Int) < (P : Int) := by omega
     have hBW : B ≤ wD.heap.size := by rw [HBB.out]; exact hsD
     have HPA2 := Lib.hid (HPA.out.below (HBL.out.trans (hbl2.mono hszC)))
     have HPB2 := Lib.hid (HPB.out.below (HBL.out.trans (hbl2.mono hszC)))
     clear hbl2 hrow
     by_cases hk : κ = 1
     ·have hkb : (κ != 1) = false := by simp [hk]
      have hok : okK κ t b x y = decide (rdyQ t x = rdyQ b y) := by unfold okK; rw [hkb, Bool.false_or]
      obtain ⟨cb, hcb⟩ : ∃ cb, cb = decide (rdyQ t x = rdyQ b y) := ⟨_, rfl⟩
      rw [hok, ← hcb] at hrs0
      have HRS := Lib.hid hrs0
      have HCB := Lib.hid hcb
      have HR1 := Lib.hid (l17Ready_any bt lo t x wD HV.out HPA2.out)
      clear hok hcb hk hrs0
      go_wp2_with fail
      refine Calls.mono HR1.out ?_
      rintro e w5 ⟨u5, rfl, hb5, ho5⟩
      have HR2 := Lib.hid (l17Ready_any bb lo b y w5 HVB.out (HPB2.out.below hb5))
      have HB5 := Lib.hid (HB2.out.trans (hb5.mono hsD))
      have HO5 := Lib.hid ho5
      have hs5 : wC.heap.size ≤ w5.heap.size := HB5.out.size
      have HRW5 := Lib.hid (owns_below HRW.out hb5)
      clear hb5 ho5 HR1 P0
      go_wp2_with fail
      refine Calls.mono HR2.out ?_
      rintro e w6 ⟨u6, rfl, hb6, ho6⟩
      have hz1 : (rdyQ t x).length ≤ 1048576 := by rw [rdyTo_all HV.out]; have := rdyTo_len t x t.labels.length; have := HV.out.labels.most; omega
      have hz2 : (rdyQ b y).length ≤ 1048576 := by rw [rdyTo_all HVB.out]; have := rdyTo_len b y b.labels.length; have := HVB.out.labels.most; omega
      have HTX := Lib.hid (l11Texts_any wD.heap.size w5.heap.size u5 u6 (rdyQ t x) (rdyQ b y) w6 (HO5.out.at.below hb6) ho6.at hz1 hz2)
      have HB6 := Lib.hid (HB5.out.trans (hb6.mono hs5))
      have hs6 : wC.heap.size ≤ w6.heap.size := HB6.out.size
      have HRW6 := Lib.hid (owns_below HRW5.out hb6)
      clear hb6 ho6 HR2 hz1 hz2
      go_wp2_with fail
      refine Calls.mono HTX.out ?_
      rintro e w7 ⟨tb, rfl, htb, hb7⟩
      have hcc : tb = cb := by rw [HCB.out, Bool.eq_iff_iff, decide_eq_true_eq]; exact htb
      subst hcc
      have HB7 := Lib.hid (HB6.out.trans (hb7.mono hs6))
      have hs7 : wC.heap.size ≤ w7.heap.size := HB7.out.size
      have HRW7 := Lib.hid (owns_below HRW6.out hb7)
      have hBW7 : B ≤ w7.heap.size := by rw [HBB.out]; exact hs7
      clear hb7 htb HTX
      go_wp2_with (at_builtin; refine wpList_append_own_at _ rfl _ _ 57 rfl B 4 ib (.bool false) 1 1 Tryz.underlying57 hib hzb0 hzb1 hzb2 rfl (by decide) _ _ _ rfl (HRW7.out.alloc _) ⟨w7.heap.size, 0, none⟩ 1 1 [.bool tb] rfl rfl ?c1_1 ?c2_1 ?c3_1 ?c4_1 ?c5_1 ?_)
      try (case c1_1 => exact (cell_one_new _ _ _))
      case c2_1 => first | rfl | (intro u hu; simp at hu; subst hu; rfl)
      case c3_1 => first | omega | (simp [maxLen]; omega)
      case c4_1 => first | omega | (simp; omega)
      case c5_1 => first | omega | (simp; omega)
      intro v8 w8 ho8 hg8 hz1 hz2
      clear hz1 hz2
      have hal8 : Below w7.heap.size w7 (w7.alloc (.cells #[.bool tb] 4)) := (Below.refl _ _).alloc (Nat.le_refl _) _
      have HB8 : Hid (Below wC.heap.size wC w8) := (HB7.out.trans (hal8.mono hs7)).grown hg8 (by simp; omega) (fun b e => by rw [← HBB.out]; exact (HRW7.out.lt b e).1)
      have HO8 : Hid (w8.ownsRow B 4 1 v8 (y + 1) (rowG (y + 1) (stK κ t b) x)) := by
       unfold Hid
       rw [HRS.out]
       simpa using ho8
      obtain ⟨a8, c8, rfl, -, -⟩ := owns_slice HO8.out
      clear ho8 hg8 hal8
      go_wp2
      go_roundw
      case rel => exact ⟨y + 1, by go_num, by omega, HB8.out, HO8.out⟩
      case measure => simp [intOf]; omega
     ·have hkb : (κ != 1) = true := by simpa using hk
      have hok : okK κ t b x y = true := by unfold okK; rw [hkb, Bool.true_or]
      rw [hok] at hrs0
      have HRS := Lib.hid hrs0
      clear hok hk hrs0
      go_wp2_with (at_builtin; refine wpList_append_own_at _ rfl _ _ 57 rfl B 4 ib (.bool false) 1 1 Tryz.underlying57 hib hzb0 hzb1 hzb2 rfl (by decide) _ _ _ rfl (HRW.out.alloc _) ⟨wD.heap.size, 0, none⟩ 1 1 [.bool true] rfl rfl ?c1_2 ?c2_2 ?c3_2 ?c4_2 ?c5_2 ?_)
      try (case c1_2 => exact (cell_one_new _ _ _))
      case c2_2 => first | rfl | (intro u hu; simp at hu; subst hu; rfl)
      case c3_2 => first | omega | (simp [maxLen]; omega)
      case c4_2 => first | omega | (simp; omega)
      case c5_2 => first | omega | (simp; omega)
      intro v8 w8 ho8 hg8 hz1 hz2
      clear hz1 hz2
      have hal8 : Below wD.heap.size wD (wD.alloc (.cells #[.bool true] 4)) := (Below.refl _ _).alloc (Nat.le_refl _) _
      have HB8 : Hid (Below wC.heap.size wC w8) := (HB2.out.trans (hal8.mono hsD)).grown hg8 (by simp; omega) (fun b e => by rw [← HBB.out]; exact (HRW.out.lt b e).1)
      have HO8 : Hid (w8.ownsRow B 4 1 v8 (y + 1) (rowG (y + 1) (stK κ t b) x)) := by
       unfold Hid
       rw [HRS.out]
       simpa using ho8
      obtain ⟨a8, c8, rfl, -, -⟩ := owns_slice HO8.out
      clear ho8 hg8 hal8
      go_wp2
      go_roundw
      case rel => exact ⟨y + 1, by go_num, by omega, HB8.out, HO8.out⟩
      case measure => simp [intOf]; omega
    ·have HY : Hid (y = P) := Lib.hid (show y = P by omega)
     have HND := Lib.hid (HNB.out.below hbl2)
     have HOD := Lib.hid (HOW.out.below hbl2)
     have HOR : Hid (wD.ownsRow w.heap.size 57 1 (.slice ra VL rcc) VL vs') := by
      have h := HOD.out.2.1
      rw [← HVL.out] at h
      exact h
     have n3 := HND.out.cell 3 rfl
     have nf := HND.out.frozen 3
     have hnl := HND.out.lt
     have hsw : w.heap.size ≤ wD.heap.size := Nat.le_trans hszC hsD
     have hnv : some nb ≠ (Value.slice ra VL rcc).ownBlock := blk_own_neG HND.out HOR.out (by decide)
     have hyn : ¬ ((y : Int) < (P : Int)) := by omega
     clear hbl2 hrow
     go_wp2_with (at_builtin; refine wpList_append_own_at _ rfl _ _ 58 rfl w.heap.size 57 ir (.slice none 0 0) 1 24 Tryz.underlying58 hir hzr0 hzr1 hzr2 rfl (by decide) _ _ _ rfl (HOR.out.alloc _) ⟨wD.heap.size, 0, none⟩ 1 1 [.slice a7 y c7] rfl rfl ?d1 ?d2 ?d3 ?d4 ?d5 ?_)
     try (case d1 => exact (cell_one_new _ _ _))
     case d2 => first | rfl | (intro u hu; simp at hu; subst hu; rfl)
     case d3 => first | omega | (simp [maxLen]; omega)
     case d4 => first | omega | (simp; omega)
     case d5 => first | omega | (simp; omega)
     intro v8 w8 ho8 hg8 hz1 hz2
     clear hz1 hz2
     have hal8 : Below wD.heap.size wD (wD.alloc (.cells #[.slice a7 y c7] 57)) := (Below.refl _ _).alloc (Nat.le_refl _) _
     obtain ⟨a8, c8, rfl, -, -⟩ := owns_slice ho8
     have z2 : w8.cell? ⟨nb, 3, none⟩ = some (.slice ra VL rcc) := (hg8.cell_far ⟨nb, 3, none⟩ (by simp; omega) hnv).trans (keeps hal8 hnl n3)
     have z1 : w8.frozen? ⟨nb, 3, none⟩ = false := (hg8.frozen_far ⟨nb, 3, none⟩ (by simp; omega) hnv).trans ((hal8.frozen (p := ⟨nb, 3, none⟩) hnl).trans nf)
     have HB8 : Hid (Below w.heap.size w w8) := ((HBL.out.trans (HB2.out.mono hszC)).trans (hal8.mono hsw)).grown hg8 (by simp; omega) (fun b e => (HOR.out.lt b e).1)
     have HN8 := Lib.hid (((HND.out.below hal8).keptG hg8 hnv).set 3 (.slice a8 (VL + 1) c8))
     have hr := owns_below HRW.out hal8
     have hr2 : (wD.alloc (.cells #[.slice a7 y c7] 57)).ownsRow B 4 1 (.slice a7 y c7) (rowG P (stK κ t b) x).length (rowG P (stK κ t b) x) := by
      have e1 : rowG P (stK κ t b) x = rowG y (stK κ t b) x := by rw [HY.out]
      rw [e1, rowG_len]
      exact hr
     have hpu := (HOD.out.below hal8).push (by decide) hr2 hwB hg8 (by rw [← HVL.out]; exact ho8)
     rw [← tabG_succ] at hpu
     have HPU := Lib.hid (hpu.set1 ((HND.out.below hal8).keptG hg8 hnv) (by decide) (by decide) 3 (.slice a8 (VL + 1) c8))
     clear ho8 hg8 hal8 hr hr2 hpu n3 nf
     go_wp2
     go_roundw
     case rel => exact ⟨x + 1, _, _, by go_num, by omega, HB8.out.setCell hnbw _, HN8.out, HPU.out⟩
     case measure => simp [intOf]; omega
  ·have HX : Hid (x = S) := Lib.hid (show x = S by omega)
   go_wp2
   go_ret
   refine ⟨nb, _, vs', rfl, HBL.out, HNB.out, ?_⟩
   have := HOW.out; rw [HX.out] at this; exact this

end Go.Proofs.YtbjbjbnbapeajaaGreatDoor

namespace Go.Proofs.YtbjbjbnbapeajaaGreatDoor
open Go Go.RowKit

theorem countP_ltK {α : Type} {p r : α → Bool} : ∀ {l : List α}, (∀ q ∈ l, p q = true → r q = true) → (∃ q ∈ l, r q = true ∧ p q = false) → l.countP p < l.countP r
 | [], _, h => by obtain ⟨q, hq, -⟩ := h; cases hq
 | a :: l, h, he => by
  have hm : l.countP p ≤ l.countP r := List.countP_mono_left (fun x hx hp => h x (List.mem_cons_of_mem _ hx) hp)
  rw [List.countP_cons, List.countP_cons]
  obtain ⟨q, hq, h1, h2⟩ := he
  rcases List.mem_cons.1 hq with rfl | hq
  ·rw [h1, h2]
   simp
   omega
  ·have ih := countP_ltK (l := l) (fun x hx hp => h x (List.mem_cons_of_mem _ hx) hp) ⟨q, hq, h1, h2⟩
   cases hp : p a with
   | false => simp; split <;> omega
   | true => rw [h a (by simp) hp]; simp; omega
def cntA (S P : Nat) (N : PairSet) : Nat := (pall P S).countP fun q => N q.1 q.2
theorem cntA_le {S P : Nat} (N : PairSet) (hS : S ≤ 40) (hP : P ≤ 40) : cntA S P N ≤ 1600 := by
 unfold cntA
 refine Nat.le_trans List.countP_le_length ?_
 rw [pall_len]
 exact Nat.mul_le_mul hS hP
theorem cntA_next {A : PairAsk} {N : PairSet} {S P : Nat} (h : ChA A N P S 0) : cntA S P (nextA A N) < cntA S P N := by
 unfold cntA
 refine countP_ltK (fun q _ hn => ?_) ?_
 ·unfold nextA at hn
  rw [Bool.and_eq_true] at hn
  exact hn.1
 ·obtain ⟨i, j, hij, hn⟩ := h
  refine ⟨((i : Int), (j : Int)), mem_pall.2 ⟨⟨by show (0 : Int) ≤ (i : Int); omega, by show (i : Int) < (S : Int); omega⟩, by show (0 : Int) ≤ (j : Int); omega, by show (j : Int) < (P : Int); omega⟩, ?_⟩
  show N i j = true ∧ nextA A N i j = false
  unfold nextA at hn ⊢
  cases h1 : N i j with
  | false => rw [h1] at hn; simp at hn
  | true =>
   rw [h1] at hn
   cases h2 : A N i j with
   | false => exact ⟨rfl, rfl⟩
   | true => rw [h2] at hn; simp at hn
theorem AboveA.nextN {A : PairAsk} (hA : MonoA A) {st N : PairSet} (ha : AboveA A st N) : AboveA A st (nextA A N) := by
 refine ⟨fun x y hn => ?_, fun M hl hm x y hxy => ?_⟩
 ·unfold nextA at hn
  rw [Bool.and_eq_true] at hn
  exact ha.low x y hn.1
 ·have h1 := ha.all M hl hm
  unfold nextA
  rw [Bool.and_eq_true]
  exact ⟨h1 x y hxy, hA M _ h1 x y (hm x y hxy)⟩
theorem same_doneK {A : PairAsk} {N st : PairSet} {S P : Nat} (ha : AboveA A st N) (hr : ∀ x y, st x y = true → (0 ≤ x ∧ x < (S : Int)) ∧ 0 ≤ y ∧ y < (P : Int)) (h : ¬ ChA A N P S 0) : GreatA A st N := by
 refine ⟨ha.low, fun x y hn => ?_, ha.all⟩
 have hb := hr x y (ha.low x y hn)
 have e1 : ((x.toNat : Nat) : Int) = x := by omega
 have e2 : ((y.toNat : Nat) : Int) = y := by omega
 apply Classical.byContradiction
 intro hc
 refine h ⟨x.toNat, y.toNat, by omega, ?_⟩
 rw [e1, e2]
 unfold nextA
 rw [hn, Bool.true_and]
 exact hc
theorem stK_range {κ : Int} {a b : Lts} {S P : Nat} (hS : (S : Int) = a.states) (hP : (P : Int) = b.states) : ∀ x y, stK κ a b x y = true → (0 ≤ x ∧ x < (S : Int)) ∧ 0 ≤ y ∧ y < (P : Int) := by
 intro x y h
 unfold stK at h
 rw [Bool.and_eq_true, allG_iff] at h
 rw [hS, hP]
 exact h.1

set_option maxRecDepth 100000 in
set_option maxHeartbeats 4000000 in
theorem greatestK_any (bt bb lo S P : Nat) (κ : Int) (t b : Lts) (w : World) (hv : Valid t) (hvb : Valid b) (hS : (S : Int) = t.states) (hP : (P : Int) = b.states) (hp : LtsPtr lo w bt t) (hpb : LtsPtr lo w bb b) :
  Calls Tryz.prog 32 #[.pointer (some ⟨bt, 0, none⟩), .pointer (some ⟨bb, 0, none⟩), .int .i64 κ] w fun e w' => ∃ (tb : Nat) (N : PairSet) (rv : Value) (vs : List Value), e = .returned (.pointer (some ⟨tb, 0, none⟩)) ∧ Below w.heap.size w w' ∧ TabK w.heap.size w' tb bt bb κ S P N rv vs ∧ GreatA (ansK κ t b) (stK κ t b) N := by
 have HV := Lib.hid hv
 have HVB := Lib.hid hvb
 have HP := Lib.hid hp
 have HPB := Lib.hid hpb
 have HSS := Lib.hid hS
 have HPS := Lib.hid hP
 have hS40 : S ≤ 40 := by have := hv.st1; omega
 have hP40 : P ≤ 40 := by have := hvb.st1; omega
 have HFI := Lib.hid (firstK_any bt bb lo S P κ t b w hv hvb hS hP hp hpb)
 clear hv hvb hp hpb hS hP
 go_enter Tryz.func32, Tryz.ntmps32
 go_wp2_with fail
 refine Calls.mono HFI.out ?_
 rintro e w1 ⟨nb, rv, vs, rfl, hb1, htab⟩
 have HB1 := Lib.hid hb1
 have HT1 := Lib.hid htab
 clear hb1 htab HFI
 go_wp2
 go_loopg [7] 1601 (fun gk v7 wr => ∃ (tb : Nat) (N : PairSet) (rv : Value) (vs : List Value), v7 = .pointer (some ⟨tb, 0, none⟩) ∧ AboveA (ansK κ t b) (stK κ t b) N ∧ cntA S P N ≤ gk ∧ Below w.heap.size w wr ∧ TabK w.heap.size wr tb bt bb κ S P N rv vs)
 case atStart => exact ⟨nb, stK κ t b, rv, vs, rfl, AboveA.start _ _, Nat.le_succ_of_le (cntA_le _ hS40 hP40), HB1.out, HT1.out⟩
 case round =>
  clear HB1 HT1
  obtain ⟨tb, N, rv2, vs2, rfl, hab, hgk, hbl, htab⟩ := hrel
  obtain ⟨wC, rfl⟩ : ∃ wC : World, wC = wr := ⟨_, rfl⟩
  have HAB := Lib.hid hab
  have HGK := Lib.hid hgk
  have HBL := Lib.hid hbl
  have HTB := Lib.hid htab
  have hszC := hbl.size
  have HNX := Lib.hid (nextK_any tb bt bb lo w.heap.size S P κ t b N rv2 vs2 wC HV.out HVB.out HSS.out HPS.out (HP.out.below hbl) (HPB.out.below hbl) htab)
  clear hab hgk hbl htab
  go_wp2_with fail
  refine Calls.mono HNX.out ?_
  rintro e w5 ⟨nb5, ch, rv5, vs5, rfl, hb5, htab5, hch⟩
  have HB5 := Lib.hid (HBL.out.trans (hb5.mono hszC))
  have HT5 : Hid (TabK w.heap.size w5 nb5 bt bb κ S P (nextA (ansK κ t b) N) rv5 vs5) := ⟨htab5.blk, htab5.rows.lower hszC⟩
  have HTO := Lib.hid (HTB.out.below hb5)
  have HCH := Lib.hid hch
  clear hb5 htab5 hch HNX
  cases ch
  ·have hgr : GreatA (ansK κ t b) (stK κ t b) N := same_doneK HAB.out (stK_range HSS.out HPS.out) (fun h => by have := HCH.out.2 h; cases this)
   have HGR := Lib.hid hgr
   clear hgr
   go_wp2
   go_ret
   exact ⟨tb, N, rv2, vs2, rfl, HB5.out, HTO.out, HGR.out⟩
  ·have HLT := Lib.hid (cntA_next (HCH.out.1 rfl))
   have HAN := Lib.hid (HAB.out.nextN (ansK_mono κ t b))
   go_wp2
   go_roundg (cntA S P (nextA (ansK κ t b) N))
   case measure => have := HGK.out; have := HLT.out; omega
   case rel => exact ⟨nb5, nextA (ansK κ t b) N, rv5, vs5, rfl, HAN.out, Nat.le_refl _, HB5.out, HT5.out⟩

/-- The pairs of the first x rows, and of y columns of the next one. -/
def prsTo (P : Nat) (N : PairSet) (x y : Nat) : List (List Int) := ((pall P x ++ prow x y).filter fun q => N q.1 q.2).map fun q => [q.1, q.2]
theorem prsTo_zero (P : Nat) (N : PairSet) : prsTo P N 0 0 = [] := by simp [prsTo, pall, prow]
theorem prsTo_row (P : Nat) (N : PairSet) (x : Nat) : prsTo P N x P = prsTo P N (x + 1) 0 := by
 unfold prsTo
 rw [pall_succ, List.append_assoc]
 simp [prow]
theorem prsTo_yes {P x y : Nat} {N : PairSet} (h : N x y = true) : prsTo P N x (y + 1) = prsTo P N x y ++ [[(x : Int), (y : Int)]] := by
 unfold prsTo
 rw [prow_succ, ← List.append_assoc, List.filter_append, List.map_append]
 simp [h]
theorem prsTo_no {P x y : Nat} {N : PairSet} (h : N x y = false) : prsTo P N x (y + 1) = prsTo P N x y := by
 unfold prsTo
 rw [prow_succ, ← List.append_assoc, List.filter_append, List.map_append]
 simp [h]
theorem prsTo_all (S P : Nat) (N : PairSet) : prsTo P N S 0 = pairsL S P N := by
 unfold prsTo pairsL
 simp [prow]
theorem prsTo_len {S P x y : Nat} {N : PairSet} (hS : S ≤ 40) (hP : P ≤ 40) (hx : x ≤ S) (hy : y ≤ P) : (prsTo P N x y).length ≤ 1640 := by
 unfold prsTo
 rw [List.length_map]
 refine Nat.le_trans (List.length_filter_le _ _) ?_
 rw [List.length_append, pall_len]
 have h1 : (prow x y).length = y := by simp [prow]
 have h2 := Nat.mul_le_mul (show x ≤ 40 by omega) hP
 omega
theorem info_intsP : (Tryz.prog.info? 68).map (fun i => (i.zero, i.size, i.bytes)) = some (some (.slice none 0 0), 1, 24) := by kernel_rfl

end Go.Proofs.YtbjbjbnbapeajaaGreatDoor

namespace Go.Proofs.YtbjbjbnbapeajaaGreatDoor
open Go Go.RowKit

theorem intss_lit (w : World) (B : Nat) (hB : B ≤ w.heap.size) : OwnIntss 68 2 B (w.alloc (.cells #[] 68)) (.slice (some ⟨w.heap.size, 0, none⟩) 0 0) [] [] :=
 ⟨rfl, World.ownsRow_lit (base := B) (e := 68) (size := 1) w #[] 0 hB (by simp [maxLen]) rfl, fun _ h _ => absurd h (Nat.not_lt_zero _), fun _ _ h _ _ => absurd h (Nat.not_lt_zero _), fun _ h => absurd h (Nat.not_lt_zero _)⟩

set_option maxRecDepth 100000 in
set_option maxHeartbeats 4000000 in
theorem pairsK_any (tb bt bb lo S P : Nat) (κ : Int) (N : PairSet) (rv : Value) (vs : List Value) (w : World) (hS0 : 0 < S) (hP0 : 0 < P) (hS40 : S ≤ 40) (hP40 : P ≤ 40) (hT : TabK lo w tb bt bb κ S P N rv vs) :
  Calls Tryz.prog 33 #[.pointer (some ⟨tb, 0, none⟩)] w fun e w' => ∃ (v : Value) (vs' : List Value), e = .returned v ∧ Below w.heap.size w w' ∧ OwnIntss 68 2 w.heap.size w' v vs' (pairsL S P N) := by
 have HT := Lib.hid hT
 obtain ⟨rb, rc, rb2, rc2, hrv, -, -, -, -⟩ := hT.cell hS0 hP0
 subst hrv
 obtain ⟨i0, hi, hz0, hz1, hz2⟩ := info_parts info_intsP
 have HB0 : Hid (Below w.heap.size w (w.alloc (.cells #[] 68))) := (Below.refl _ _).alloc (Nat.le_refl _) _
 have HO0 := Lib.hid (intss_lit w w.heap.size (Nat.le_refl _))
 clear hT
 go_enter Tryz.func33, Tryz.ntmps33
 go_wp2
 go_loopw [3, 4] (fun v3 v4 wr => ∃ (x : Nat) (vs' : List Value), x ≤ S ∧ v4 = .int .i64 x ∧ Below w.heap.size w wr ∧ OwnIntss 68 2 w.heap.size wr v3 vs' (prsTo P N x 0)) (fun _ v4 _ => S - (intOf v4).toNat)
 case atStart => exact ⟨0, [], Nat.zero_le _, rfl, HB0.out, by rw [prsTo_zero]; exact HO0.out⟩
 case round =>
  clear HB0 HO0
  obtain ⟨x, vs', hx, rfl, hb, ho⟩ := hrel
  obtain ⟨wC, rfl⟩ : ∃ wC : World, wC = wr := ⟨_, rfl⟩
  have HB := Lib.hid hb
  have HO := Lib.hid ho
  have htab := HT.out.below hb
  have T3 := htab.blk.cell 3 rfl
  have htl := htab.blk.lt
  clear hb ho
  by_cases hlt : x < S
  ·have hxi : (x : Int) < (S : Int) := by omega
   clear htab
   go_wp2
   clear T3 htl
   go_loopw [3, 5] (fun v3 v5 wr => ∃ (y : Nat) (vs' : List Value), y ≤ P ∧ v5 = .int .i64 y ∧ Below w.heap.size w wr ∧ OwnIntss 68 2 w.heap.size wr v3 vs' (prsTo P N x y)) (fun _ v5 _ => P - (intOf v5).toNat)
   case atStart => exact ⟨0, vs', Nat.zero_le _, rfl, HB.out, HO.out⟩
   case round =>
    clear HB HO
    obtain ⟨y, vs', hy, rfl, hb, ho⟩ := hrel
    obtain ⟨wD, rfl⟩ : ∃ wD : World, wD = wr := ⟨_, rfl⟩
    have HB := Lib.hid hb
    have HO := Lib.hid ho
    have hsz := hb.size
    have hvl : vs'.length ≤ 1640 := by rw [ho.1]; exact prsTo_len hS40 hP40 hx hy
    have htab := HT.out.below hb
    have T3 := htab.blk.cell 3 rfl
    have htl := htab.blk.lt
    clear hb ho
    by_cases hyl : y < P
    ·obtain ⟨b, c, b2, c2, hq, hbl, hc1, hb2, hc2⟩ := htab.cell hlt hyl
     simp only [Value.slice.injEq, Option.some.injEq, Addr.mk.injEq, and_true, true_and] at hq
     obtain ⟨rfl, rfl⟩ := hq
     have hyi : (y : Int) < (P : Int) := by omega
     obtain ⟨nv, hnv⟩ : ∃ nv, nv = N x y := ⟨_, rfl⟩
     rw [← hnv] at hc2
     have HNV := Lib.hid hnv
     clear htab hnv
     cases nv
     ·have HNO : Hid (prsTo P N x (y + 1) = prsTo P N x y) := prsTo_no HNV.out.symm
      go_wp2
      go_roundw
      case rel => exact ⟨y + 1, vs', by omega, by go_num, HB.out, by rw [HNO.out]; exact HO.out⟩
      case measure => simp [intOf]; omega
     ·have HYES : Hid (prsTo P N x (y + 1) = prsTo P N x y ++ [[(x : Int), (y : Int)]]) := prsTo_yes HNV.out.symm
      go_wp2_with (at_builtin; refine wpList_append_own _ rfl _ _ 36 rfl w.heap.size 68 i0 (.slice none 0 0) 1 24 Tryz.underlying36 hi hz0 hz1 hz2 rfl (by decide) _ _ _ rfl ((HO.out.2.1.alloc _).alloc _) ⟨wD.heap.size + 1, 0, none⟩ 1 1 [.slice (some ⟨wD.heap.size, 0, none⟩) 2 2] rfl rfl ?c1 ?c2 ?c3 ?c4 ?c5 ?_)
      try (case c1 => have h := cell_one_new (wD.alloc (.cells #[.int .i64 x, .int .i64 y] 2)) (.slice (some ⟨wD.heap.size, 0, none⟩) 2 2) 68; simpa using h)
      case c2 => first | rfl | (intro u hu; simp at hu; subst hu; rfl)
      case c3 => simp [maxLen]; omega
      case c4 => omega
      case c5 => first | omega | (simp; omega)
      intro v' w3 ho1 hg1 _
      have HO2 : Hid (OwnIntss 68 2 w.heap.size w3 v' (vs' ++ [.slice (some ⟨wD.heap.size, 0, none⟩) 2 2]) (prsTo P N x (y + 1))) := by
       rw [HYES.out]
       exact OwnIntss.push (B := wD.heap.size) (xs := [(x : Int), (y : Int)]) (by decide) HO.out (Nat.le_refl _) (((Below.refl _ _).alloc (Nat.le_refl _) _).alloc (by simp) _)
        ((World.ownsRow_lit (size := 1) wD #[.int .i64 x, .int .i64 y] 2 (Nat.le_refl _) (by simp [maxLen]) rfl).alloc _) hsz hg1 ho1
      have HB2 : Hid (Below w.heap.size w w3) := ((HB.out.alloc hsz _).alloc (by simp; omega) _).grown hg1 (by simp; omega) (fun b e => (HO.out.2.1.lt b e).1)
      clear ho1 hg1
      go_wp2
      go_roundw
      case rel => exact ⟨y + 1, _, by omega, by go_num, HB2.out, HO2.out⟩
      case measure => simp [intOf]; omega
    ·have HY : Hid (y = P) := Lib.hid (show y = P by omega)
     obtain ⟨b, c, b2, c2, hq, hbl, hc1, hb2, hc2⟩ := htab.cell hlt hP0
     simp only [Value.slice.injEq, Option.some.injEq, Addr.mk.injEq, and_true, true_and] at hq
     obtain ⟨rfl, rfl⟩ := hq
     have hyn : ¬ ((y : Int) < (P : Int)) := by omega
     clear htab hc2
     go_wp2
     go_roundw
     case rel => exact ⟨x + 1, vs', by omega, by go_num, HB.out, by have h := HO.out; rw [HY.out, prsTo_row] at h; exact h⟩
     case measure => simp [intOf]; omega
  ·have HX : Hid (x = S) := Lib.hid (show x = S by omega)
   clear htab
   go_wp2
   go_ret
   exact ⟨_, vs', rfl, HB.out, by have h := HO.out; rw [HX.out, prsTo_all] at h; exact h⟩

theorem kind_any (κ : Int) (w : World) : Calls Tryz.prog 57 #[.int .i64 κ] w fun e w' => e = .returned (.bool (inB κ 0 2)) ∧ Below w.heap.size w w' := by
 have HI := Lib.hid (l00In_any κ 0 2 w)
 go_enter Tryz.func57, Tryz.ntmps57
 go_wp2_with fail
 refine Calls.mono HI.out ?_
 rintro e w1 ⟨rfl, rfl⟩
 go_wp2_with fail
 go_ret
 exact ⟨rfl, Below.refl _ _⟩

/-- The code for two systems and a kind. -/
def AskIs (a b : Lts) (κ code : Int) : Prop := (¬ (Valid a ∧ Valid b) ∧ code = 1) ∨ ((Valid a ∧ Valid b) ∧ ¬ (0 ≤ κ ∧ κ ≤ 2) ∧ code = 2) ∨ ((Valid a ∧ Valid b) ∧ (0 ≤ κ ∧ κ ≤ 2) ∧ code = 0)

set_option maxRecDepth 100000 in
set_option maxHeartbeats 1000000 in
theorem ask_any (ba bb lo : Nat) (κ : Int) (a b : Lts) (w : World) (hsa : Short a.labels) (hsb : Short b.labels) (hpa : LtsPtr lo w ba a) (hpb : LtsPtr lo w bb b) :
  Calls Tryz.prog 31 #[.pointer (some ⟨ba, 0, none⟩), .pointer (some ⟨bb, 0, none⟩), .int .i64 κ] w fun e w' => ∃ code, e = .returned (.int .i64 code) ∧ Below w.heap.size w w' ∧ AskIs a b κ code := by
 have HPB := Lib.hid hpb
 have HSB := Lib.hid hsb
 have HA := Lib.hid (l11Is_any ba lo a w hsa hpa)
 clear hpa hpb hsa hsb
 by_cases hva : Valid a
 ·have HVA := Lib.hid hva
  have HA2 := Lib.hid (Decides.yes HA.out hva)
  clear hva HA
  by_cases hvb : Valid b
  ·have HVB := Lib.hid hvb
   clear hvb
   obtain ⟨kb, hkb⟩ : ∃ kb, kb = inB κ 0 2 := ⟨_, rfl⟩
   have HKB := Lib.hid hkb
   clear hkb
   go_enter Tryz.func31, Tryz.ntmps31
   go_wp2_with fail
   refine Calls.mono HA2.out ?_
   rintro e w1 ⟨rfl, hb1⟩
   have HB2 := Lib.hid (Decides.yes (l11Is_any bb lo b w1 HSB.out (HPB.out.below hb1)) HVB.out)
   have HB1 := Lib.hid hb1
   have hs1 := hb1.size
   clear hb1 HA2
   go_wp2_with fail
   refine Calls.mono HB2.out ?_
   rintro e w2 ⟨rfl, hb2⟩
   have HK := Lib.hid (kind_any κ w2)
   rw [← HKB.out] at HK
   have HB3 := Lib.hid (HB1.out.trans (hb2.mono hs1))
   have hs2 : w.heap.size ≤ w2.heap.size := HB3.out.size
   clear hb2 HB2
   go_wp2_with fail
   refine Calls.mono HK.out ?_
   rintro e w3 ⟨rfl, hb3⟩
   have HB4 := Lib.hid (HB3.out.trans (hb3.mono hs2))
   clear hb3 HK
   cases kb
   ·go_wp2_with fail
    go_ret
    exact ⟨2, rfl, HB4.out, .inr (.inl ⟨⟨HVA.out, HVB.out⟩, (fun h => by have h2 := inB_iff.2 h; rw [← HKB.out] at h2; cases h2), rfl⟩)⟩
   ·go_wp2_with fail
    go_ret
    exact ⟨0, rfl, HB4.out, .inr (.inr ⟨⟨HVA.out, HVB.out⟩, inB_iff.1 HKB.out.symm, rfl⟩)⟩
  ·have HVB := Lib.hid hvb
   clear hvb
   go_enter Tryz.func31, Tryz.ntmps31
   go_wp2_with fail
   refine Calls.mono HA2.out ?_
   rintro e w1 ⟨rfl, hb1⟩
   have HB2 := Lib.hid (Decides.no (l11Is_any bb lo b w1 HSB.out (HPB.out.below hb1)) HVB.out)
   have HB1 := Lib.hid hb1
   have hs1 := hb1.size
   clear hb1 HA2
   go_wp2_with fail
   refine Calls.mono HB2.out ?_
   rintro e w2 ⟨rfl, hb2⟩
   have HB3 := Lib.hid (HB1.out.trans (hb2.mono hs1))
   clear hb2 HB2
   go_wp2_with fail
   go_ret
   exact ⟨1, rfl, HB3.out, .inl ⟨fun h => HVB.out h.2, rfl⟩⟩
 ·have HVA := Lib.hid hva
  have HA2 := Lib.hid (Decides.no HA.out hva)
  clear hva HA
  go_enter Tryz.func31, Tryz.ntmps31
  go_wp2_with fail
  refine Calls.mono HA2.out ?_
  rintro e w1 ⟨rfl, hb1⟩
  have HB1 := Lib.hid hb1
  clear hb1 HA2
  go_wp2_with fail
  go_ret
  exact ⟨1, rfl, HB1.out, .inl ⟨fun h => HVA.out h.1, rfl⟩⟩

theorem sim_none {a b : Lts} {κ code : Int} {w w' : World} (hb : Below w.heap.size w w') (h : SimIs a b κ [] code) : RetSim a b κ w (.returned (.tuple #[.slice none 0 0, .int .i64 code])) w' :=
 ⟨hb, [], code, _, [], rfl, h, ⟨rfl, World.ownsRow_nil _ _ _ _, fun _ h _ => absurd h (Nat.not_lt_zero _), fun _ _ h _ _ => absurd h (Nat.not_lt_zero _), fun _ h => absurd h (Nat.not_lt_zero _)⟩⟩

set_option maxRecDepth 100000 in
set_option maxHeartbeats 2000000 in
theorem specSimulationOf_any (lo : Nat) (a b : Lts) (κ : Int) (la ea lb eb : Value) (w : World) (hsa : Short a.labels) (hsb : Short b.labels) (hla : SliceK 1 encS lo w la a.labels) (hea : SliceK 3 encE lo w ea a.edges) (hlb : SliceK 1 encS lo w lb b.labels) (heb : SliceK 3 encE lo w eb b.edges) :
  Calls Tryz.prog 12 #[.agg #[.int .i64 a.states, .int .i64 a.initial, la, ea], .agg #[.int .i64 b.states, .int .i64 b.initial, lb, eb], .int .i64 κ] w (RetSim a b κ w) := by
 obtain ⟨ba, hba⟩ : ∃ ba, ba = w.heap.size := ⟨_, rfl⟩
 obtain ⟨bb, hbb⟩ : ∃ bb, bb = w.heap.size + 1 := ⟨_, rfl⟩
 obtain ⟨W, hW⟩ : ∃ W, W = (w.alloc (.cells #[.int .i64 a.states, .int .i64 a.initial, la, ea] 29)).alloc (.cells #[.int .i64 b.states, .int .i64 b.initial, lb, eb] 29) := ⟨_, rfl⟩
 have hb : Below w.heap.size w W := by rw [hW]; exact ((Below.refl _ _).alloc (Nat.le_refl _) _).alloc (by simp) _
 have hA : Blk W ba [.int .i64 a.states, .int .i64 a.initial, la, ea] 29 := by rw [hW, hba]; exact (Blk.new w _ _).alloc _
 have hB : Blk W bb [.int .i64 b.states, .int .i64 b.initial, lb, eb] 29 := by
  have h := Blk.new (w.alloc (.cells #[.int .i64 a.states, .int .i64 a.initial, la, ea] 29)) [.int .i64 b.states, .int .i64 b.initial, lb, eb] 29
  rw [World.size_alloc, ← hbb] at h
  rw [hW]
  exact h
 have hpa : LtsPtr lo W ba a := ⟨la, ea, hA.lt, hA.cell 0 rfl, hA.cell 1 rfl, hA.cell 2 rfl, hA.cell 3 rfl, hla.below hb, hea.below hb⟩
 have hpb : LtsPtr lo W bb b := ⟨lb, eb, hB.lt, hB.cell 0 rfl, hB.cell 1 rfl, hB.cell 2 rfl, hB.cell 3 rfl, hlb.below hb, heb.below hb⟩
 have HASK := Lib.hid (ask_any ba bb lo κ a b W hsa hsb hpa hpb)
 have HPA := Lib.hid hpa
 have HPB := Lib.hid hpb
 have HA := Lib.hid hA
 have HB := Lib.hid hB
 have HBW := Lib.hid hb
 have HW := Lib.hid hW
 have HBA := Lib.hid hba
 have HBB := Lib.hid hbb
 have hsW : w.heap.size ≤ W.heap.size := hb.size
 clear hsa hsb hla hea hlb heb hba hbb hW hb hA hB hpa hpb
 go_enter Tryz.func12, Tryz.ntmps12
 go_wp2_with fail
 rw [← HW.out]
 rw [← HBB.out, ← HBA.out]
 refine Calls.mono HASK.out ?_
 rintro e w1 ⟨code, rfl, hb1, ⟨h1, rfl⟩ | ⟨h1, h2, rfl⟩ | ⟨h1, h2, rfl⟩⟩
 ·have HB1 := Lib.hid (HBW.out.trans (hb1.mono hsW))
  have H1 := Lib.hid h1
  clear hb1 h1 HASK
  go_wp2
  go_ret2
  exact sim_none HB1.out (.inl ⟨H1.out, rfl, rfl⟩)
 ·have HB1 := Lib.hid (HBW.out.trans (hb1.mono hsW))
  have H1 := Lib.hid h1
  have H2 := Lib.hid h2
  clear hb1 h1 h2 HASK
  go_wp2
  go_ret2
  exact sim_none HB1.out (.inr (.inl ⟨H1.out, H2.out, rfl, rfl⟩))
 ·have hva := h1.1
  have hvb := h1.2
  obtain ⟨S, hS⟩ : ∃ S : Nat, (S : Int) = a.states := ⟨a.states.toNat, by have := hva.st0; omega⟩
  obtain ⟨P, hP⟩ : ∃ P : Nat, (P : Int) = b.states := ⟨b.states.toNat, by have := hvb.st0; omega⟩
  have hS0 : 0 < S := by have := hva.st0; omega
  have hP0 : 0 < P := by have := hvb.st0; omega
  have hS40 : S ≤ 40 := by have := hva.st1; omega
  have hP40 : P ≤ 40 := by have := hvb.st1; omega
  obtain ⟨ai, hai⟩ : ∃ ai : Nat, (ai : Int) = a.initial := ⟨a.initial.toNat, by have := hva.in0; omega⟩
  obtain ⟨bi, hbi⟩ : ∃ bi : Nat, (bi : Int) = b.initial := ⟨b.initial.toNat, by have := hvb.in0; omega⟩
  have haS : ai < S := by have := hva.in1; omega
  have hbP : bi < P := by have := hvb.in1; omega
  have HGR := Lib.hid (greatestK_any ba bb lo S P κ a b w1 hva hvb hS hP (HPA.out.below hb1) (HPB.out.below hb1))
  have HA1 := Lib.hid (HA.out.below hb1)
  have HB1 := Lib.hid (HB.out.below hb1)
  have HBW1 := Lib.hid (HBW.out.trans (hb1.mono hsW))
  have hs1 : w.heap.size ≤ w1.heap.size := HBW1.out.size
  have H1 := Lib.hid h1
  have H2 := Lib.hid h2
  have HSN : Hid (a.states.toNat = S) := by unfold Hid; omega
  have HPN : Hid (b.states.toNat = P) := by unfold Hid; omega
  have HAI := Lib.hid hai
  have HBI := Lib.hid hbi
  clear hb1 h1 h2 hva hvb hS hP hai hbi HASK
  go_wp2_with fail
  refine Calls.mono HGR.out ?_
  rintro e w2 ⟨tb, N, rv, vs, rfl, hb2, htab, hgr⟩
  have HT2 := Lib.hid htab
  have HGG := Lib.hid hgr
  obtain ⟨b1, c1, b2, c2, hrv, hbl, hc1, hb2l, hc2⟩ := htab.cell haS hbP
  subst hrv
  have HB2 := Lib.hid (HBW1.out.trans (hb2.mono hs1))
  have hs2 : w.heap.size ≤ w2.heap.size := HB2.out.size
  have a1 := (HA1.out.below hb2).cell 1 rfl
  have bb1 := (HB1.out.below hb2).cell 1 rfl
  rw [← HAI.out] at a1
  rw [← HBI.out] at bb1
  have l0 := later_cell htab.blk.lt (htab.blk.cell 3 rfl)
  have l1 := later_cell (HA1.out.below hb2).lt a1
  have l2 := later_cell (HB1.out.below hb2).lt bb1
  have l3 := later_cell hbl hc1
  have l4 := later_cell hb2l hc2
  obtain ⟨nv, hnv⟩ : ∃ nv, nv = N ai bi := ⟨_, rfl⟩
  rw [← hnv] at l4
  have HNV : Hid (N a.initial b.initial = nv) := by unfold Hid; rw [← HAI.out, ← HBI.out, hnv]
  have hai : (ai : Int) < (S : Int) := by omega
  have hbi : (bi : Int) < (P : Int) := by omega
  clear hb2 htab hgr hbl hc1 hb2l hc2 a1 bb1 hnv HGR
  cases nv
  ·go_wp2
   refine wp_region_later (by kernel_rfl) (by kernel_rfl) ?_
   repeat (go_big_quiet_step ((fail)))
   refine wpQuiet_nil ?_
   intro _ hw9
   obtain ⟨nl, hw8⟩ := hw9
   subst hw8
   have HB3 := Lib.hid (HB2.out.trans (nl.h.mono hs2))
   clear l0 l1 l2 l3 l4
   go_wp2
   go_ret2
   exact sim_none HB3.out (.inr (.inr ⟨H1.out, H2.out, N, HGG.out, .inl ⟨HNV.out, rfl, rfl⟩⟩))
  ·go_wp2
   refine wp_region_later (by kernel_rfl) (by kernel_rfl) ?_
   repeat (go_big_quiet_step ((fail)))
   refine wpQuiet_nil ?_
   intro _ hw9
   obtain ⟨nl, hw8⟩ := hw9
   subst hw8
   have HB3 := Lib.hid (HB2.out.trans (nl.h.mono hs2))
   have hs3 : w.heap.size ≤ nl.w.heap.size := HB3.out.size
   have HPR := Lib.hid (pairsK_any tb ba bb w1.heap.size S P κ N _ vs nl.w hS0 hP0 hS40 hP40 (HT2.out.below nl.h))
   clear l0 l1 l2 l3 l4
   go_wp2_with fail
   refine Calls.mono HPR.out ?_
   rintro e w4 ⟨v, vs', rfl, hb4, hown⟩
   have HB4 := Lib.hid (HB3.out.trans (hb4.mono hs3))
   have HO4 := Lib.hid (OwnIntss.lower hown hs3)
   clear hb4 hown HPR
   go_wp2
   go_ret2
   exact ⟨HB4.out, pairsL S P N, 0, v, vs', rfl, .inr (.inr ⟨H1.out, H2.out, N, HGG.out, .inr ⟨HNV.out, by rw [HSN.out, HPN.out], rfl⟩⟩), HO4.out⟩

end Go.Proofs.YtbjbjbnbapeajaaGreatDoor
