/-
  The search over blocks, edge by edge and label by label. Plain.
  The reference's l02Norm: numbers by first sight.
  The program's normal: numbers by first sight.
  The explorer at states: its memory, and what its find computes.
  What the explorer's find computes at states: the place of a state's block, a new row for a new block.
  An arc in memory.
-/
import Derived.Test.YtjghfgaincnegaaGreatDoorN10
import Derived.Test.YtjghfgaincnegaaGreatDoorN12
import Derived.Test.YtjghfgaincnegaaGreatDoorN1
import Derived.Test.YtjghfgaincnegaaGreatDoorN7
import Derived.Test.YtjghfgaincnegaaGreatDoorN3
import Derived.Maps.AppendAt
import Derived.Test.YtjghfgaincnegaaGreatDoorN8
import Derived.Test.YtjghfgaincnegaaGreatDoorN11
namespace Go.Proofs.YtjghfgaincnegaaGreatDoor
open Go Go.RowKit

theorem findIdx_fst : ∀ (xs : List Int) (n : Int), xs.findIdx (fun x => x == n) = fstIx xs n
 | [], _ => rfl
 | y :: xs, n => by
  rw [List.findIdx_cons, findIdx_fst xs n]
  show (bif y == n then 0 else fstIx xs n + 1) = if y = n then 0 else fstIx xs n + 1
  by_cases h : y = n
  ·rw [if_pos h, beq_iff_eq.2 h]; rfl
  ·rw [if_neg h, beq_eq_false_iff_ne.2 h]; rfl
theorem placeI_rows (p S : List Int) (x : Int) : placeI (S.map (bkOf p)) (bkOf p x) = if mplace p S x < S.length then (mplace p S x : Int) else -1 := by
 unfold placeI mplace
 rw [findIdx_fst, List.length_map]
theorem out_dst {d : Lts} (hv : Valid d) {k : Int} {e : Edge} (he : e ∈ outOf d k) : 0 ≤ e.dst ∧ e.dst < d.states := by
 obtain ⟨i, hi, rfl⟩ := List.mem_iff_getElem.1 (List.mem_filter.1 he).1
 have h1 := hv.edge i hi
 exact ⟨h1.d0, h1.d1⟩
/-- One label more. -/
theorem out_label {d : Lts} (hv : Valid d) (hu : Up d.edges) {x : Int} (hx : 0 ≤ x) {n : Nat} (hn : n < d.labels.length) :
  (goTo d x d.labels[n] < 0 ∧ outTo d x (n + 1) = outTo d x n) ∨ (0 ≤ goTo d x d.labels[n] ∧ ∃ e, e.lab = (n : Int) ∧ e.dst = goTo d x d.labels[n] ∧ outTo d x (n + 1) = outTo d x n ++ [e]) := by
 have h1 := goTo_lab hv hx hn
 have h2 := outTo_next hu x n
 cases hf : (outOf d x).find? fun e => e.lab == (n : Int) with
 | none =>
  rw [hf] at h1 h2
  exact .inl ⟨by rw [h1]; decide, by rw [h2]; simp⟩
 | some e =>
  rw [hf] at h1 h2
  have hm := List.mem_of_find?_eq_some hf
  have hl : e.lab = (n : Int) := by have := List.find?_some hf; simpa using this
  have h3 := out_dst hv hm
  have h4 : goTo d x d.labels[n] = e.dst := h1
  exact .inr ⟨by rw [h4]; exact h3.1, e, hl, h4.symm, h2⟩
theorem mstep_old {p : List Int} {i : Nat} {st : MNet} {e : Edge} (h : mplace p st.rows e.dst < st.rows.length) : mstep p i st e = ⟨st.rows, st.edges ++ [⟨(i : Int), e.lab, (mplace p st.rows e.dst : Int)⟩]⟩ := by
 unfold mstep madd; rw [if_pos h]
theorem mstep_new {p : List Int} {i : Nat} {st : MNet} {e : Edge} (h : ¬ mplace p st.rows e.dst < st.rows.length) : mstep p i st e = ⟨st.rows ++ [e.dst], st.edges ++ [⟨(i : Int), e.lab, (st.rows.length : Int)⟩]⟩ := by
 have h2 : mplace p st.rows e.dst = st.rows.length := by have := mplace_le p st.rows e.dst; omega
 unfold mstep madd; rw [if_neg h, h2]
theorem mout_few {d : Lts} (hv : Valid d) (hs : Single d) (hu : Up d.edges) (k : Int) : (outOf d k).length ≤ 11 := by
 have h1 := nodup_lt 11 ((outOf d k).map fun e => e.lab.toNat - 1) ?_ ?_
 ·rwa [List.length_map] at h1
 ·rw [List.nodup_iff_pairwise_ne, List.pairwise_map]
  refine List.Pairwise.imp_of_mem ?_ (out_up hu k)
  intro a b ha hb h
  have := (out_ok hv hs a ha).1
  have := (out_ok hv hs b hb).1
  omega
 ·intro z hz
  obtain ⟨e, he, rfl⟩ := List.mem_map.1 hz
  have := (out_ok hv hs e he).1
  have := hv.labels.most
  omega
theorem MGood.few {d : Lts} {p : List Int} {st : MNet} (h : MGood d p st) (hp : ∀ x ∈ p, 0 ≤ x ∧ x < (40 : Int)) : st.rows.length ≤ 40 := by
 have h1 := nodup_lt 40 ((st.rows.map (bkOf p)).map Int.toNat) ?_ ?_
 ·rwa [List.length_map, List.length_map] at h1
 ·rw [List.nodup_iff_pairwise_ne, List.pairwise_map]
  refine List.Pairwise.imp_of_mem ?_ (List.nodup_iff_pairwise_ne.1 h.nodup)
  intro a b ha hb hne e
  have h0 : ∀ z ∈ st.rows.map (bkOf p), 0 ≤ z := fun z hz => by
   obtain ⟨x, -, rfl⟩ := List.mem_map.1 hz
   unfold bkOf
   rw [List.getD_eq_getElem?_getD]
   cases hx : p[x.toNat]? with
   | none => exact Int.le_refl 0
   | some y => exact (hp y (List.mem_of_getElem? hx)).1
  have := h0 a ha
  have := h0 b hb
  omega
 ·intro z hz
  obtain ⟨y, hy, rfl⟩ := List.mem_map.1 hz
  obtain ⟨x, -, rfl⟩ := List.mem_map.1 hy
  unfold bkOf
  rw [List.getD_eq_getElem?_getD]
  cases hx : p[x.toNat]? with
  | none => exact (by decide : (0 : Int).toNat < 40)
  | some y =>
   have := hp y (List.mem_of_getElem? hx)
   show y.toNat < 40
   omega
theorem outTo_sub {d : Lts} {x : Int} {n : Nat} : ∀ e ∈ outTo d x n, e ∈ outOf d x := fun _ he => (List.mem_filter.1 he).1

/-- The rows' texts and edges, as the reference makes the system out of them. -/
theorem min_made {d : Lts} {p : List Int} {st : MNet} (hv : Valid d) (hG : MGood d p st) (hu : Up st.edges) {R : List Edge} {L : List ByteArray} (hL : L = labSet (tauT :: usedTs ⟨st.rows.length, 0, d.labels, st.edges⟩ st.edges.length))
  (hm : MkEdges L (usedTs ⟨st.rows.length, 0, d.labels, st.edges⟩ st.edges.length) (usedEs st.edges st.edges.length) R) : L = (sysOf d (mNet st)).labels ∧ R = (sysOf d (mNet st)).edges := by
 have hDG := mNet_good hG
 have hlab : ∀ e : Edge, labAt (⟨st.rows.length, 0, d.labels, st.edges⟩ : Lts) e = labAt d e := fun _ => rfl
 have hts : usedTs ⟨st.rows.length, 0, d.labels, st.edges⟩ st.edges.length = tauT :: (arcsOf d (mNet st)).map Arc.lab := by
  unfold usedTs arcsOf
  show tauT :: (st.edges.take st.edges.length).map _ = _
  rw [List.take_length, List.map_map]
  rfl
 have hLs : L = (sysOf d (mNet st)).labels := by
  rw [hL, hts]
  show labSet (tauT :: tauT :: _) = labSet (tauT :: _)
  exact labSet_eq (labSet_is _).1 fun x => by rw [(labSet_is _).2]; simp
 refine ⟨hLs, rise_same hm.1 (sys_rise hv hDG hu) fun x => ?_⟩
 rw [hm.2.2, hLs, hts]
 have key : (usedEs st.edges st.edges.length).map (makeE (sysOf d (mNet st)).labels (tauT :: (arcsOf d (mNet st)).map Arc.lab)) = (sysOf d (mNet st)).edges := by
  show _ = (arcsOf d (mNet st)).map (edgeIn (sysOf d (mNet st)).labels)
  refine List.ext_getElem? fun k => ?_
  have hal : (arcsOf d (mNet st)).length = st.edges.length := by unfold arcsOf; rw [List.length_map]; rfl
  by_cases hk : k < st.edges.length
  ·have hk2 : k < (arcsOf d (mNet st)).length := by omega
   have hmem := arc_mem hv hDG _ (List.getElem_mem hk2)
   have he : (arcsOf d (mNet st))[k] = arcOf d st.edges[k] := by simp [arcsOf, mNet]
   rw [List.getElem?_map, List.getElem?_map, List.getElem?_eq_getElem hk2]
   have hu1 : (usedEs st.edges st.edges.length)[k]? = some ⟨st.edges[k].src, (k : Int) + 1, st.edges[k].dst⟩ := by
    unfold usedEs
    rw [List.getElem?_map, List.getElem?_range hk]
    simp [List.getD_eq_getElem?_getD, List.getElem?_eq_getElem hk]
   rw [hu1]
   simp only [Option.map_some]
   congr 1
   unfold makeE edgeIn
   have hg : (tauT :: (arcsOf d (mNet st)).map Arc.lab).getD ((k : Int) + 1).toNat ByteArray.empty = (arcsOf d (mNet st))[k].lab := by
    rw [show ((k : Int) + 1).toNat = k + 1 from by omega, List.getD_eq_getElem?_getD, List.getElem?_cons_succ, List.getElem?_map, List.getElem?_eq_getElem hk2]
    rfl
   simp only [hg]
   rw [sus_text hmem, he]
   rfl
  ·rw [List.getElem?_eq_none (by rw [List.length_map, usedEs_len]; omega), List.getElem?_eq_none (by rw [List.length_map]; omega)]
 rw [key]

end Go.Proofs.YtjghfgaincnegaaGreatDoor

namespace Go.Proofs.YtjghfgaincnegaaGreatDoor
open Go Go.RowKit

theorem info_int64N : (Tryz.prog.info? 2).map (fun i => (i.zero, i.size, i.bytes)) = some (some (.int .i64 0), 1, 8) := by kernel_rfl
theorem filled_old {α : Type} (xs : List α) (f : α → Value) (z : Value) (k j : Nat) (h : k ≤ xs.length) (hj : j < k) : ((xs.take k).map f ++ List.replicate (xs.length - k) z)[j]? = some (f (xs[j]'(by omega))) := by
 have hl : ((xs.take k).map f).length = k := by simp; omega
 rw [List.getElem?_append_left (by omega), List.getElem?_map, List.getElem?_take_of_lt hj, List.getElem?_eq_getElem (by omega)]
 rfl
theorem normL_of {xs : List Int} {j k : Nat} (hj : j < xs.length) (hk : k < xs.length) (h : xs[j] = xs[k]) : (normL xs)[j]'(by rw [normL_len]; exact hj) = (normL xs)[k]'(by rw [normL_len]; exact hk) := (normL_same hj hk).2 h
theorem normL_new {xs : List Int} {k : Nat} (hk : k < xs.length) (h : ∀ j (hj : j < xs.length), j < k → (xs[j] == xs[k]) = false) : (normL xs)[k]'(by rw [normL_len]; exact hk) = ((firsts (xs.take k)).length : Int) ∧ (firsts (xs.take (k + 1))).length = (firsts (xs.take k)).length + 1 := by
 have hm : xs[k] ∉ firsts (xs.take k) := fun hm => by
  obtain ⟨j, hj, e⟩ := List.mem_iff_getElem.1 ((firsts_mem _ _).1 hm)
  have hj2 : j < k := by rw [List.length_take] at hj; omega
  have h1 := h j (by omega) hj2
  rw [beq_eq_false_iff_ne] at h1
  exact h1 (by rw [← e, List.getElem_take])
 have h1 := normL_at hk
 rw [List.getElem?_eq_getElem (by rw [normL_len]; exact hk), fstIx_not hm] at h1
 refine ⟨Option.some.inj h1, ?_⟩
 rw [List.take_succ_eq_append_getElem hk, firsts_snoc]
 unfold addNew
 rw [if_neg hm]
 simp
theorem firsts_old {xs : List Int} {j k : Nat} (hj : j < k) (hk : k < xs.length) (h : xs[j]'(by omega) = xs[k]) : firsts (xs.take (k + 1)) = firsts (xs.take k) := by
 rw [List.take_succ_eq_append_getElem hk, firsts_snoc]
 unfold addNew
 rw [if_pos ((firsts_mem _ _).2 (by rw [← h]; exact List.mem_iff_getElem.2 ⟨j, by rw [List.length_take]; omega, by rw [List.getElem_take]⟩))]

set_option maxRecDepth 100000 in
set_option maxHeartbeats 4000000 in
theorem l02Norm_any (lo : Nat) (v : Value) (xs : List Int) (w : World) (hz : xs.length ≤ 1000000) (hv : SliceK 1 encI lo w v xs) : Calls Tryz.prog 87 #[v] w (MadeNums (normL xs) w) := by
 obtain ⟨a, cap, rfl, hn, hcap, hrow⟩ := hv
 obtain ⟨Q, hQ⟩ : ∃ Q, Q = normL xs := ⟨_, rfl⟩
 obtain ⟨N, hN⟩ : ∃ N, N = xs.length := ⟨_, rfl⟩
 have hQN : Q.length = N := by rw [hQ, normL_len, hN]
 rw [← hQ]
 rw [← hN] at hz hn ⊢
 have HN := Lib.hid hN
 have HQ := Lib.hid hQ
 have HQN := Lib.hid hQN
 have HR := Lib.hid hrow
 obtain ⟨i1, hi1, hz10, hz11, hz12⟩ := info_parts info_int64N
 clear hrow hN hQ hQN
 go_enter Tryz.func87, Tryz.ntmps87
 go_wp2_with (at_make; refine wpList_make_full _ rfl _ _ 26 rfl w.heap.size 2 i1 _ 1 Tryz.underlying26 hi1 hz10 hz11 .i64 .i64 _ _ N rfl rfl rfl rfl ?_ ?_ ?_ ?_)
 ·rw [hz12]; omega
 ·simp [maxLen]; omega
 ·exact Nat.le_refl _
 intro w1 ho hg
 rw [toList_madeCells_one] at ho
 obtain ⟨G, hG⟩ : ∃ G, G = w.heap.size := ⟨_, rfl⟩
 have HB1 : Hid (Below w.heap.size w w1) := (Below.refl _ w).grown hg (Nat.le_refl _) (fun _ h => by cases h)
 rw [← hG] at ho ⊢
 have HO : Hid (w1.ownsRow G 2 1 (.slice (some ⟨G, 0, none⟩) N N) N (List.replicate N (.int .i64 0))) := by
  unfold Hid; simpa using ho
 have HG := Lib.hid hG
 clear ho hg hG hi1 hz10 hz11 hz12
 go_wp2
 go_loopw [4, 5] (fun v4 v5 wr => ∃ k : Nat, k ≤ N ∧ v5 = .int .i64 k ∧ v4 = .int .i64 (firsts (xs.take k)).length ∧ Below w.heap.size w wr ∧ wr.ownsRow G 2 1 (.slice (some ⟨G, 0, none⟩) N N) N ((Q.take k).map (Value.int .i64) ++ List.replicate (Q.length - k) (.int .i64 0))) (fun _ v5 _ => N - (intOf v5).toNat)
 case atStart => exact ⟨0, Nat.zero_le _, rfl, by simp [firsts], HB1.out, by simpa [HQN.out] using HO.out⟩
 case round =>
  clear HO HB1
  obtain ⟨k, hk, rfl, rfl, hbl, ho⟩ := hrel
  obtain ⟨wC, rfl⟩ : ∃ wC : World, wC = wr := ⟨_, rfl⟩
  have HBL := Lib.hid hbl
  have HO := Lib.hid ho
  have hszC := hbl.size
  obtain ⟨M, hM⟩ : ∃ M, M = (firsts (xs.take k)).length := ⟨_, rfl⟩
  rw [← hM]
  have hMk : M ≤ 1000000 := by
   rw [hM]
   have h1 := firsts_len (xs.take k)
   rw [List.length_take] at h1
   omega
  have HM := Lib.hid hM
  clear hbl ho hM
  by_cases hlt : k < N
  ·have hltx : k < xs.length := by rw [← HN.out]; exact hlt
   have hltq : k < Q.length := by rw [HQN.out]; exact hlt
   go_wp2
   go_loopw [6, 7] (fun v6 v7 wr => ∃ j : Nat, j ≤ k ∧ v7 = .int .i64 j ∧ v6 = .int .i64 (-1) ∧ Below wC.heap.size wC wr ∧ ∀ i (h : i < xs.length), i < j → (xs[i] == xs[k]) = false) (fun _ v7 _ => k - (intOf v7).toNat)
   case atStart => exact ⟨0, Nat.zero_le _, rfl, rfl, Below.refl _ _, fun _ _ h => by omega⟩
   case round =>
    obtain ⟨j, hj, rfl, rfl, hbj, hx⟩ := hrel
    obtain ⟨wD, rfl⟩ : ∃ wD : World, wD = wr := ⟨_, rfl⟩
    have HX := Lib.hid hx
    have HBJ := Lib.hid hbj
    have hB2 := HBL.out.trans (hbj.mono hszC)
    have HB2 := Lib.hid hB2
    have HO2 := Lib.hid (owns_below HO.out hbj)
    have hszD := hB2.size
    have hszj := hbj.size
    clear hx hbj
    by_cases hjk : j < k
    ·have hjx : j < xs.length := by omega
     obtain ⟨b, o, rfl, -, hb, c1⟩ := (HR.out.below hB2).one hjx
     obtain ⟨b', o', e', -, hb', c2⟩ := (HR.out.below hB2).one hltx
     obtain ⟨rfl, rfl⟩ : b = b' ∧ o = o' := by simpa using e'
     simp only [encI, List.getElem?_cons_zero] at c1 c2
     replace c1 := later_cell hb c1
     replace c2 := later_cell hb c2
     clear e' hb' hB2
     cases g : (xs[j] == xs[k])
     ·have HF := Lib.hid g
      go_wp2
      refine wp_region_later (by kernel_rfl) (by kernel_rfl) ?_
      repeat (go_big_quiet_step ((fail)))
      refine wpQuiet_nil ?_
      intro _ hw9
      obtain ⟨nl, hw8⟩ := hw9
      subst hw8
      have HN2 := Lib.hid (HBJ.out.trans (nl.h.mono hszj))
      go_wp2
      go_roundw
      case rel => exact ⟨j + 1, by omega, by go_num, rfl, HN2.out, fun i h h' => by
       by_cases e : i = j
       ·subst e; exact HF.out
       ·exact HX.out i h (by omega)⟩
      case measure => simp [intOf]; omega
     ·have HEQ : Hid (xs[j] = xs[k]) := by rw [beq_iff_eq] at g; exact g
      go_wp2
      refine wp_region_later (by kernel_rfl) (by kernel_rfl) ?_
      repeat (go_big_quiet_step ((fail)))
      refine wpQuiet_nil ?_
      intro _ hw9
      obtain ⟨nl, hw8⟩ := hw9
      subst hw8
      have HB3 := Lib.hid (HB2.out.trans (nl.h.mono hszD))
      have HO3 := Lib.hid (owns_below HO2.out nl.h)
      have hgG := (HO3.out.lt G rfl).2
      have d1 := HO3.out.cellAt j (by omega)
      rw [filled_old _ _ _ _ _ (by omega) hjk] at d1
      have d2 := HO3.out.cellAt k (by omega)
      rw [filled_get _ _ _ _ hltq] at d2
      have d3 := HO3.out.frozenAt k
      have ho4 := (HO3.out.stored k (.int .i64 (Q[j]'(by omega)))).1
      have hQjk : Q[j]'(by omega) = Q[k] := by
       have h := normL_of hjx hltx HEQ.out
       simp only [← HQ.out] at h
       exact h
      have hset := filled_set Q (Value.int .i64) (.int .i64 0) k hltq
      rw [hQjk, hset] at ho4
      rw [hQjk] at d1
      have HO4 := Lib.hid ho4
      have HFO : Hid ((firsts (xs.take (k + 1))).length = M) := by unfold Hid; rw [firsts_old hjk hltx HEQ.out]; exact HM.out.symm
      clear ho4 hset hQjk c1 c2 g
      go_wp2
      go_roundw
      case rel => exact ⟨k + 1, by omega, by go_num, by rw [HFO.out], HB3.out.setCell (by rw [← HG.out]; exact Nat.le_refl _) _, HO4.out⟩
      case measure => simp [intOf]; omega
    ·obtain rfl : j = k := by omega
     have hNW := normL_new hltx HX.out
     have d2 := HO2.out.cellAt j (by omega)
     rw [filled_get _ _ _ _ hltq] at d2
     have d3 := HO2.out.frozenAt j
     have ho4 := (HO2.out.stored j (.int .i64 (M : Int))).1
     have hQM : (M : Int) = Q[j] := by
      have h := hNW.1
      simp only [← HQ.out] at h
      rw [h, HM.out]
     have hset := filled_set Q (Value.int .i64) (.int .i64 0) j hltq
     rw [← hQM] at hset
     rw [hset] at ho4
     have HO4 := Lib.hid ho4
     have HFO : Hid ((firsts (xs.take (j + 1))).length = M + 1) := by unfold Hid; rw [hNW.2, HM.out]
     clear ho4 hset hQM hNW hB2
     go_wp2
     go_roundw
     case rel => exact ⟨j + 1, by omega, by go_num, by rw [HFO.out]; go_num, HB2.out.setCell (by rw [← HG.out]; exact Nat.le_refl _) _, HO4.out⟩
     case measure => simp [intOf]; omega
  ·obtain rfl : k = N := by omega
   have HF : Hid (wC.ownsRow G 2 1 (.slice (some ⟨G, 0, none⟩) Q.length k) Q.length (Q.map (Value.int .i64))) := by
    have h := HO.out
    unfold Hid
    rw [← HQN.out] at h ⊢
    simpa using h
   go_wp2
   go_ret
   refine ⟨_, rfl, HBL.out, ?_⟩
   rw [← HG.out]
   have h := HF.out
   rw [HQN.out] at h ⊢
   exact h

end Go.Proofs.YtjghfgaincnegaaGreatDoor

namespace Go.Proofs.YtjghfgaincnegaaGreatDoor
open Go Go.RowKit
open Go.Maps (Keyed)

def I64 (x : Int) : Prop := -9223372036854775808 ≤ x ∧ x ≤ 9223372036854775807
theorem keyedI : Keyed Tryz.prog 2 := Go.Maps.int_keyed Tryz.underlying2
theorem keyOfI {x : Int} (h : I64 x) : ∃ l, keyOf Tryz.prog 2 (.int .i64 x) = some l := ⟨.int .i64 x, by
 have h1 := h.1
 have h2 := h.2
 have hw : (Lit.int .i64 x).wf = true := by
  unfold Lit.wf
  rw [Bool.and_eq_true, decide_eq_true_iff, decide_eq_true_iff]
  exact ⟨h1, h2⟩
 simp [keyOf, mapKey, Tryz.underlying2, hw]⟩
theorem underMapI : Tryz.prog.underlying 127 = some (.map 2 2) := Tryz.underlying127
theorem zeroI64N (w : World) : (zeroValue 2).run Tryz.prog w = .ok (.int .i64 0) w := by kernel_rfl
theorem NumMap.len {P : Program} {k t e : TypeId} {q : IntKind} {w : World} {b : Nat} {ks : List Value} (h : NumMap q w b ks) (ht : P.underlying t = some (.map k e)) (ty : TypeId) : (Builtin.len_ #[t] ty #[.map (some b)]).run P w = .ok (.int .i64 ks.length) w := by
 have hb : w.heap[b]? = some (.map (ks.mapIdx fun i k => (⟨k, .int q i, i⟩ : MapEntry)).toArray ks.length) := h
 simp [Builtin.len_, run_underlying ht, MapKept.run_getObj_map hb, goInt, Result.andThen]
def keysI (D : List Int) : List Value := D.map (Value.int .i64)
theorem keysI_nodup {D : List Int} (h : D.Nodup) : (keysI D).Nodup := by
 unfold keysI
 rw [List.nodup_iff_pairwise_ne, List.pairwise_map]
 exact (List.nodup_iff_pairwise_ne.1 h).imp fun {a b} hne e => hne (by simpa using e)
theorem firsts_nodup (l : List Int) : (firsts l).Nodup := by
 have h : ∀ (m acc : List Int), acc.Nodup → (m.foldl addNew acc).Nodup := by
  intro m
  induction m with
  | nil => exact fun acc h => h
  | cons y m ih =>
   intro acc h
   rw [List.foldl_cons]
   refine ih _ ?_
   unfold addNew
   by_cases hy : y ∈ acc
   ·rw [if_pos hy]; exact h
   ·rw [if_neg hy, List.nodup_append]
    refine ⟨h, by simp, ?_⟩
    intro a ha b hb
    rw [List.mem_singleton] at hb
    subst hb
    exact fun e => hy (e ▸ ha)
 exact h l [] List.nodup_nil

set_option maxRecDepth 100000 in
set_option maxHeartbeats 4000000 in
theorem normal_any (lo : Nat) (v : Value) (xs : List Int) (w : World) (hz : xs.length ≤ 1000000) (h64 : ∀ x ∈ xs, I64 x) (hv : SliceK 1 encI lo w v xs) : Calls Tryz.prog 54 #[v] w (MadeNums (normL xs) w) := by
 obtain ⟨a, cap, rfl, hn, hcap, hrow⟩ := hv
 obtain ⟨Q, hQ⟩ : ∃ Q, Q = normL xs := ⟨_, rfl⟩
 obtain ⟨N, hN⟩ : ∃ N, N = xs.length := ⟨_, rfl⟩
 have hQN : Q.length = N := by rw [hQ, normL_len, hN]
 rw [← hQ]
 rw [← hN] at hz hn ⊢
 have HN := Lib.hid hN
 have HQ := Lib.hid hQ
 have HQN := Lib.hid hQN
 have HR := Lib.hid hrow
 have H64 := Lib.hid h64
 obtain ⟨i1, hi1, hz10, hz11, hz12⟩ := info_parts info_int64N
 obtain ⟨mb, hmb⟩ : ∃ mb, mb = w.heap.size := ⟨_, rfl⟩
 have hMM : NumMap .i64 (w.alloc (.map #[] 0)) mb [] := by rw [hmb]; exact NumMap.made .i64 w
 have hbM : Below w.heap.size w (w.alloc (.map #[] 0)) := (Below.refl _ _).alloc (Nat.le_refl _) _
 have HMM := Lib.hid hMM
 have HBM := Lib.hid hbM
 have HMB := Lib.hid hmb
 have hmm := @run_makeMap Tryz.prog
 have hsm : (w.alloc (.map #[] 0)).heap.size = mb + 1 := by rw [hmb]; simp
 clear hrow hN hQ hQN hMM hbM h64
 go_enter Tryz.func54, Tryz.ntmps54
 go_wp2_with (at_make; refine wpList_make_full _ rfl _ _ 26 rfl (mb + 1) 2 i1 _ 1 Tryz.underlying26 hi1 hz10 hz11 .i64 .i64 _ _ N rfl rfl rfl rfl ?_ ?_ ?_ ?_)
 ·rw [hz12]; omega
 ·simp [maxLen]; omega
 ·simp; omega
 intro w1 ho hg
 rw [toList_madeCells_one] at ho
 try rw [← hmb] at ho
 have HB1 : Hid (Below w.heap.size w w1) := HBM.out.grown hg (by simp) (fun _ h => by cases h)
 have HM1 : Hid (NumMap .i64 w1 mb (keysI [])) := HMM.out.kept hg (by simp)
 have HO : Hid (w1.ownsRow (mb + 1) 2 1 (.slice (some ⟨mb + 1, 0, none⟩) N N) N (List.replicate N (.int .i64 0))) := by
  unfold Hid; simpa using ho
 try rw [hsm]
 try rw [← hmb]
 obtain ⟨G, hG⟩ : ∃ G, G = mb + 1 := ⟨_, rfl⟩
 rw [← hG] at HO
 try rw [← hG]
 have HG := Lib.hid hG
 have hle : w.heap.size ≤ G := by omega
 clear ho hg hi1 hz10 hz11 hz12 HMM HBM hmm hsm hmb hG
 go_wp2
 go_loopw [15] (fun v15 wr => ∃ k : Nat, k ≤ N ∧ v15 = .int .i64 k ∧ Below w.heap.size w wr ∧ NumMap .i64 wr mb (keysI (firsts (xs.take k))) ∧ wr.ownsRow G 2 1 (.slice (some ⟨G, 0, none⟩) N N) N ((Q.take k).map (Value.int .i64) ++ List.replicate (Q.length - k) (.int .i64 0))) (fun v15 _ => N - (intOf v15).toNat)
 case atStart => exact ⟨0, Nat.zero_le _, rfl, HB1.out, HM1.out, by simpa [HQN.out] using HO.out⟩
 case round =>
  clear HO HB1 HM1
  obtain ⟨k, hk, rfl, hbl, hmap, ho⟩ := hrel
  obtain ⟨wC, rfl⟩ : ∃ wC : World, wC = wr := ⟨_, rfl⟩
  have HBL := Lib.hid hbl
  have HO := Lib.hid ho
  have HMP := Lib.hid hmap
  have hszC := hbl.size
  by_cases hlt : k < N
  ·have hltx : k < xs.length := by rw [← HN.out]; exact hlt
   have hltq : k < Q.length := by rw [HQN.out]; exact hlt
   obtain ⟨b, o, rfl, -, hb, c1⟩ := (HR.out.below hbl).one hltx
   simp only [encI, List.getElem?_cons_zero] at c1
   obtain ⟨x, hx⟩ : ∃ x, x = xs[k] := ⟨_, rfl⟩
   rw [← hx] at c1
   obtain ⟨D, hD⟩ : ∃ D, D = firsts (xs.take k) := ⟨_, rfl⟩
   rw [← hD] at HMP hmap
   have hDn : D.Nodup := by rw [hD]; exact firsts_nodup _
   have hDl : D.length ≤ 1000000 := by
    rw [hD]
    have h1 := firsts_len (xs.take k)
    rw [List.length_take] at h1
    omega
   have hks : ∀ v ∈ keysI D, ∃ l, keyOf Tryz.prog 2 v = some l := fun v hv => by
    obtain ⟨y, hy, rfl⟩ := List.mem_map.1 hv
    rw [hD] at hy
    exact keyOfI (H64.out y (List.mem_of_mem_take ((firsts_mem _ _).1 hy)))
   have hQk : Q[k] = (fstIx D x : Int) := by
    have h := normL_at hltx
    rw [← HQ.out, List.getElem?_eq_getElem hltq, ← hD, ← hx] at h
    exact Option.some.inj h
   have hgG := (ho.lt G rfl).2
   by_cases hm : x ∈ D
   ·have hj := fstIx_lt hm
    have hjk : fstIx D x < (keysI D).length := by unfold keysI; rw [List.length_map]; exact hj
    have hfd := hmap.found keyedI underMapI hks (keysI_nodup hDn) hjk
    have hkj : (keysI D)[fstIx D x] = .int .i64 x := by
     have h : (keysI D)[fstIx D x]? = some (.int .i64 x) := by unfold keysI; rw [List.getElem?_map, fstIx_get hm]; rfl
     rw [List.getElem?_eq_getElem hjk] at h
     exact Option.some.inj h
    rw [hkj] at hfd
    obtain ⟨j, hjj⟩ : ∃ j, j = fstIx D x := ⟨_, rfl⟩
    rw [← hjj] at hfd hQk
    have d2 := ho.cellAt k (by omega)
    rw [filled_get _ _ _ _ hltq] at d2
    have d3 := ho.frozenAt k
    have ho4 := (ho.stored k (.int .i64 (j : Int))).1
    have hset := filled_set Q (Value.int .i64) (.int .i64 0) k hltq
    rw [hQk] at hset
    rw [hset] at ho4
    have HO4 := Lib.hid ho4
    have hM4 : NumMap .i64 (wC.setCell ⟨G, k, none⟩ (.int .i64 (j : Int))) mb (keysI (firsts (xs.take (k + 1)))) := by
     have e : firsts (xs.take (k + 1)) = D := by
      rw [List.take_succ_eq_append_getElem hltx, firsts_snoc, ← hD, ← hx]
      unfold addNew
      rw [if_pos hm]
     rw [e]
     exact hmap.kept (grown_setCell wC ⟨G, k, none⟩ _) (by have := HG.out; simp; omega)
    have HM4 := Lib.hid hM4
    clear ho ho4 hset hmap hM4 hkj hjk hj hjj hm hQk hks hDn hDl hD hx hbl
    go_wp2
    go_roundw
    case rel => exact ⟨k + 1, by omega, by go_num, HBL.out.setCell hle _, HM4.out, by simpa using HO4.out⟩
    case measure => simp [intOf]; omega
   ·obtain ⟨kl, hkl⟩ := keyOfI (show I64 x from by rw [hx]; exact H64.out _ (List.getElem_mem hltx))
    have hkn : Value.int .i64 x ∉ keysI D := fun h => by
     obtain ⟨y, hy, e⟩ := List.mem_map.1 h
     rw [show y = x from by simpa using e] at hy
     exact hm hy
    have hmi := hmap.missing keyedI underMapI hks (zeroI64N wC) hkl hkn
    have hln := hmap.len underMapI 3
    obtain ⟨w2, hup, hm2, hg2⟩ := hmap.store keyedI underMapI hks hkl hkn (by unfold keysI; rw [List.length_map]; unfold maxLen; omega)
    have hkl2 : (keysI D).length = D.length := by unfold keysI; rw [List.length_map]
    rw [hkl2] at hln hup
    obtain ⟨M, hM⟩ : ∃ M, M = D.length := ⟨_, rfl⟩
    rw [← hM] at hln hup
    have hQM : Q[k] = (M : Int) := by rw [hQk, fstIx_not hm, hM]
    have hblk : wC.heap[mb]? = some (.map (((keysI D).mapIdx fun i k => (⟨k, .int .i64 i, i⟩ : MapEntry)).toArray) (keysI D).length) := hmap
    have ho2 := ho.kept hg2 (own_map_ne ho hblk)
    have d2 := ho2.cellAt k (by omega)
    rw [filled_get _ _ _ _ hltq] at d2
    have d3 := ho2.frozenAt k
    have ho4 := (ho2.stored k (.int .i64 (M : Int))).1
    have hset := filled_set Q (Value.int .i64) (.int .i64 0) k hltq
    rw [hQM] at hset
    rw [hset] at ho4
    have HO4 := Lib.hid ho4
    have hM4 : NumMap .i64 (w2.setCell ⟨G, k, none⟩ (.int .i64 (M : Int))) mb (keysI (firsts (xs.take (k + 1)))) := by
     have e : firsts (xs.take (k + 1)) = D ++ [x] := by
      rw [List.take_succ_eq_append_getElem hltx, firsts_snoc, ← hD, ← hx]
      unfold addNew
      rw [if_neg hm]
     have e2 : keysI (D ++ [x]) = keysI D ++ [.int .i64 x] := by unfold keysI; rw [List.map_append]; rfl
     rw [e, e2]
     exact hm2.kept (grown_setCell w2 ⟨G, k, none⟩ _) (by have := HG.out; simp; omega)
    have HM4 := Lib.hid hM4
    have HB2 := Lib.hid (HBL.out.grown hg2 hszC (fun b e => by cases e; rw [HMB.out]; exact Nat.le_refl _))
    clear ho ho2 ho4 hset hmap hM4 hm2 hg2 hblk hkl2 hm hQk hQM hks hDn hD hx hbl hkl hkn hM
    go_wp2
    go_roundw
    case rel => exact ⟨k + 1, by omega, by go_num, HB2.out.setCell hle _, HM4.out, by simpa using HO4.out⟩
    case measure => simp [intOf]; omega
  ·obtain rfl : k = N := by omega
   have HF : Hid (wC.ownsRow G 2 1 (.slice (some ⟨G, 0, none⟩) Q.length k) Q.length (Q.map (Value.int .i64))) := by
    have h := HO.out
    unfold Hid
    rw [← HQN.out] at h ⊢
    simpa using h
   clear ho hmap hbl
   go_wp2
   go_ret
   refine ⟨_, rfl, HBL.out, ?_⟩
   have h := HF.out
   rw [HQN.out] at h ⊢
   exact own_lower h hle

end Go.Proofs.YtjghfgaincnegaaGreatDoor

namespace Go.Proofs.YtjghfgaincnegaaGreatDoor
open Go Go.RowKit
open Go.Maps (Keyed)

def keyM (z : Int) : Value := .string ⟨(Lib.itoa z).toArray⟩
def Low40 (z : Int) : Prop := 0 ≤ z ∧ z < 40
theorem keyM_inj {a b : Int} (ha : Low40 a) (hb : Low40 b) (h : keyM a = keyM b) : a = b := by
 obtain ⟨m, rfl⟩ : ∃ m : Nat, a = (m : Int) := ⟨a.toNat, by have := ha.1; omega⟩
 obtain ⟨n, rfl⟩ : ∃ n : Nat, b = (n : Int) := ⟨b.toNat, by have := hb.1; omega⟩
 unfold keyM at h
 have h1 := Value.string.inj h
 have h2 : (Lib.itoa (m : Int)).toArray = (Lib.itoa (n : Int)).toArray := congrArg ByteArray.data h1
 have h3 : Lib.itoa (m : Int) = Lib.itoa (n : Int) := by simpa using congrArg Array.toList h2
 rw [itoa_eq, itoa_eq] at h3
 rw [decDigits_inj h3]
theorem keyM_key {z : Int} (h : Low40 z) : ∃ l, keyOf Tryz.prog 9 (keyM z) = some l := by
 refine keyOfS _ ?_
 have h1 := Lib.itoa_length_le z (by have := h.1; omega) (by have := h.2; omega)
 show (Lib.itoa z).toArray.size ≤ 1048576
 rw [List.size_toArray]
 omega
def keysM (P S : List Int) : List Value := (S.map (bkOf P)).map keyM
theorem keysM_nodup {P S : List Int} (hd : (S.map (bkOf P)).Nodup) (ho : ∀ z ∈ S.map (bkOf P), Low40 z) : (keysM P S).Nodup := by
 unfold keysM
 rw [List.nodup_iff_pairwise_ne, List.pairwise_map]
 refine List.Pairwise.imp_of_mem ?_ (List.nodup_iff_pairwise_ne.1 hd)
 intro a b ha hb hne e
 exact hne (keyM_inj (ho a ha) (ho b hb) e)
theorem keysM_snoc (P S : List Int) (x : Int) : keysM P (S ++ [x]) = keysM P S ++ [keyM (bkOf P x)] := by unfold keysM; simp
theorem keysM_len (P S : List Int) : (keysM P S).length = S.length := by unfold keysM; simp

/-- The explorer: its four fields, the variable that holds its address, the loop's variable. -/
structure ExpM (B xb mb pb ib rb cb : Nat) (on : Bool) (i : Nat) (d : Lts) (P : List Int) (st : MNet) (sv av : Value) (w : World) : Prop where
 base : B ≤ xb
 mbase : B ≤ mb
 pbase : B ≤ pb
 ibase : B ≤ ib
 rbase : B ≤ rb
 box : Blk w xb [sv, .map (some mb), av, .func (.func 58) #[] #[.pointer (some ⟨cb, 0, none⟩)]] 135
 ptr : Blk w pb [.pointer (some ⟨xb, 0, none⟩)] 132
 idx : on = true → Blk w ib [.int .i64 i] 3
 res : Blk w rb [.int .i64 0, .int .i64 0, .slice none 0 0, .slice none 0 0] 32
 rows : w.ownsRow B 2 1 sv st.rows.length (st.rows.map (Value.int .i64))
 map : NumMap .i64 w mb (keysM P st.rows)
 arcs : w.ownsRow B 138 3 av st.edges.length (st.edges.flatMap (encA d))
theorem ExpM.below {on : Bool} {B xb mb pb ib rb cb i : Nat} {d : Lts} {P : List Int} {st : MNet} {sv av : Value} {w w' : World} (h : ExpM B xb mb pb ib rb cb on i d P st sv av w) (hb : Below w.heap.size w w') : ExpM B xb mb pb ib rb cb on i d P st sv av w' :=
 ⟨h.base, h.mbase, h.pbase, h.ibase, h.rbase, h.box.below hb, h.ptr.below hb, fun ho => (h.idx ho).below hb, h.res.below hb, owns_below h.rows hb, h.map.below hb, owns_below h.arcs hb⟩

/-- After the map and the list have grown. -/
theorem ExpM.grow {on : Bool} {B xb mb pb ib rb cb i : Nat} {d : Lts} {P : List Int} {st : MNet} {sv av sv' : Value} {x : Int} {w1 w2 w3 w4 : World} (h : ExpM B xb mb pb ib rb cb on i d P st sv av w1) (hg2 : w1.grownBy w2 (some mb)) (hm2 : NumMap .i64 w2 mb (keysM P st.rows ++ [keyM (bkOf P x)]))
  (hb3 : Below w2.heap.size w2 w3) (hg4 : w3.grownBy w4 sv.ownBlock) (ho4 : w4.ownsRow B 2 1 sv' (st.rows.length + 1) (st.rows.map (Value.int .i64) ++ [.int .i64 x])) :
  ExpM B xb mb pb ib rb cb on i d P ⟨st.rows ++ [x], st.edges⟩ sv' av (w4.setCell ⟨xb, 0, none⟩ sv') := by
 have mblk : w1.heap[mb]? = some (.map (((keysM P st.rows).mapIdx fun i k => (⟨k, .int .i64 i, i⟩ : MapEntry)).toArray) (keysM P st.rows).length) := h.map
 have X2 : Blk w2 xb _ _ := (hg2.block xb h.box.lt (fun e => blk_map_ne' h.box mblk (Option.some.inj e))).trans h.box
 have P2 : Blk w2 pb _ _ := (hg2.block pb h.ptr.lt (fun e => blk_map_ne' h.ptr mblk (Option.some.inj e))).trans h.ptr
 have I2 := fun (ho : on = true) => (show Blk w2 ib [.int .i64 i] 3 from (hg2.block ib (h.idx ho).lt (fun e => blk_map_ne' (h.idx ho) mblk (Option.some.inj e))).trans (h.idx ho))
 have S2 : Blk w2 rb _ _ := (hg2.block rb h.res.lt (fun e => blk_map_ne' h.res mblk (Option.some.inj e))).trans h.res
 have R2 := h.rows.kept hg2 (own_map_ne h.rows mblk)
 have A2 := h.arcs.kept hg2 (own_map_ne h.arcs mblk)
 have X3 := X2.below hb3
 have P3 := P2.below hb3
 have I3 := fun ho => (I2 ho).below hb3
 have S3 := S2.below hb3
 have R3 := owns_below R2 hb3
 have A3 := owns_below A2 hb3
 have M3 := hm2.below hb3
 have X4 : Blk w4 xb _ _ := (hg4.block xb X3.lt (blk_own_ne' X3 R3 (by decide))).trans X3
 have P4 : Blk w4 pb _ _ := (hg4.block pb P3.lt (blk_own_ne' P3 R3 (by decide))).trans P3
 have I4 := fun (ho : on = true) => (show Blk w4 ib [.int .i64 i] 3 from (hg4.block ib (I3 ho).lt (blk_own_ne' (I3 ho) R3 (by decide))).trans (I3 ho))
 have S4 : Blk w4 rb _ _ := (hg4.block rb S3.lt (blk_own_ne' S3 R3 (by decide))).trans S3
 have M4 := M3.kept hg4 (fun e => by
  rcases own_map_ne R3 M3 with h | h
  ·rw [h] at e; cases e
  ·exact h e.symm)
 have A4 := A3.kept hg4 (own_types A3 R3 (by decide))
 have hs := grown_setCell w4 ⟨xb, 0, none⟩ sv'
 refine ⟨h.base, h.mbase, h.pbase, h.ibase, h.rbase, X4.set 0 sv', P4.setOther _ _ (blk_blk_ne P4 X4 (by decide)), (fun ho => (I4 ho).setOther _ _ (blk_blk_ne (I4 ho) X4 (by decide))), S4.setOther _ _ (blk_blk_ne S4 X4 (by decide)), ?_, ?_, ?_⟩
 ·have := ho4.kept hs (own_type_ne ho4 X4 (by decide))
  simpa using this
 ·have := M4.kept hs (fun e => blk_map_ne' X4 M4 (Option.some.inj e).symm)
  show NumMap .i64 _ mb (keysM P (st.rows ++ [x]))
  rw [keysM_snoc]
  exact this
 ·exact A4.kept hs (own_type_ne A4 X4 (by decide))
/-- After the list of arcs has grown. -/
theorem ExpM.arc {on : Bool} {B xb mb pb ib rb cb i : Nat} {d : Lts} {P : List Int} {st : MNet} {e : Edge} {sv av av' : Value} {w1 w2 w3 : World} (h : ExpM B xb mb pb ib rb cb on i d P st sv av w1) (hb : Below w1.heap.size w1 w2) (hg : w2.grownBy w3 av.ownBlock)
  (ho : w3.ownsRow B 138 3 av' (st.edges.length + 1) (st.edges.flatMap (encA d) ++ encA d e)) : ExpM B xb mb pb ib rb cb on i d P ⟨st.rows, st.edges ++ [e]⟩ sv av' (w3.setCell ⟨xb, 2, none⟩ av') := by
 have H2 := h.below hb
 have X3 : Blk w3 xb _ _ := (hg.block xb H2.box.lt (blk_own_ne' H2.box H2.arcs (by decide))).trans H2.box
 have P3 : Blk w3 pb _ _ := (hg.block pb H2.ptr.lt (blk_own_ne' H2.ptr H2.arcs (by decide))).trans H2.ptr
 have I3 := fun (ho : on = true) => (show Blk w3 ib [.int .i64 i] 3 from (hg.block ib (H2.idx ho).lt (blk_own_ne' (H2.idx ho) H2.arcs (by decide))).trans (H2.idx ho))
 have S3 : Blk w3 rb _ _ := (hg.block rb H2.res.lt (blk_own_ne' H2.res H2.arcs (by decide))).trans H2.res
 have M3 := H2.map.kept hg (fun e => by
  rcases own_map_ne H2.arcs H2.map with h | h
  ·rw [h] at e; cases e
  ·exact h e.symm)
 have R3 := H2.rows.kept hg (own_types H2.rows H2.arcs (by decide))
 have hs := grown_setCell w3 ⟨xb, 2, none⟩ av'
 refine ⟨h.base, h.mbase, h.pbase, h.ibase, h.rbase, X3.set 2 av', P3.setOther _ _ (blk_blk_ne P3 X3 (by decide)), (fun ho => (I3 ho).setOther _ _ (blk_blk_ne (I3 ho) X3 (by decide))), S3.setOther _ _ (blk_blk_ne S3 X3 (by decide)), ?_, ?_, ?_⟩
 ·exact R3.kept hs (own_type_ne R3 X3 (by decide))
 ·exact M3.kept hs (fun e => blk_map_ne' X3 M3 (Option.some.inj e).symm)
 ·have := ho.kept hs (own_type_ne ho X3 (by decide))
  simpa using this

theorem Only.putM {Ts : List TypeId} {w w' : World} (h : Only Ts w w') {b : Nat} {cs : List Value} {t : TypeId} (hb : Blk w' b cs t) (ht : t ∈ Ts) (i : Nat) (v : Value) : Only Ts w (w'.setCell ⟨b, i, none⟩ v) := fun x a T fr hx hT => by
 have h1 := h x a T fr hx hT
 by_cases e : x = b
 ·subst e
  rw [show w'.heap[x]? = _ from hb] at h1
  cases h1
  exact absurd ht hT
 ·exact (heap_setCell_other w' ⟨b, i, none⟩ x v e).trans h1
theorem Only.mapM {Ts : List TypeId} {w w' : World} {mb : Nat} {es : Array MapEntry} {c : Nat} (hm : w.heap[mb]? = some (.map es c)) (hg : w.grownBy w' (some mb)) : Only Ts w w' := fun b a T fr h _ =>
 (hg.block b (Array.getElem?_eq_some_iff.1 h).1 (fun e => by
  cases e
  rw [hm] at h
  cases h)).trans h
theorem ExpM.growOnly {on : Bool} {B xb mb pb ib rb cb i : Nat} {d : Lts} {P : List Int} {st : MNet} {sv av sv' : Value} {w1 w2 w3 w4 : World} (h : ExpM B xb mb pb ib rb cb on i d P st sv av w1) (hg2 : w1.grownBy w2 (some mb))
  (hb3 : Below w2.heap.size w2 w3) (hg4 : w3.grownBy w4 sv.ownBlock) : Only [2, 135] w1 (w4.setCell ⟨xb, 0, none⟩ sv') := by
 have mblk : w1.heap[mb]? = some (.map (((keysM P st.rows).mapIdx fun i k => (⟨k, .int .i64 i, i⟩ : MapEntry)).toArray) (keysM P st.rows).length) := h.map
 have X2 : Blk w2 xb _ _ := (hg2.block xb h.box.lt (fun e => blk_map_ne' h.box mblk (Option.some.inj e))).trans h.box
 have R2 := h.rows.kept hg2 (own_map_ne h.rows mblk)
 have R3 := owns_below R2 hb3
 have X3 := X2.below hb3
 have X4 : Blk w4 xb _ _ := (hg4.block xb X3.lt (blk_own_ne' X3 R3 (by decide))).trans X3
 have o1 : Only [2, 135] w1 w2 := Only.mapM mblk hg2
 have o2 : Only [2, 135] w2 w3 := Only.below _ hb3
 have o3 : Only [2, 135] w3 w4 := (Only.grown R3 hg4).mono (by simp)
 exact ((o1.step o2).step o3).putM X4 (by simp) 0 sv'
theorem ExpM.arcOnly {on : Bool} {B xb mb pb ib rb cb i : Nat} {d : Lts} {P : List Int} {st : MNet} {sv av av' : Value} {w1 w2 w3 : World} (h : ExpM B xb mb pb ib rb cb on i d P st sv av w1) (hb : Below w1.heap.size w1 w2) (hg : w2.grownBy w3 av.ownBlock) :
  Only [2, 138, 135] w1 (w3.setCell ⟨xb, 2, none⟩ av') := by
 have H2 := h.below hb
 have X3 : Blk w3 xb _ _ := (hg.block xb H2.box.lt (blk_own_ne' H2.box H2.arcs (by decide))).trans H2.box
 have o1 : Only [2, 138, 135] w1 w2 := Only.below _ hb
 have o2 : Only [2, 138, 135] w2 w3 := (Only.grown H2.arcs hg).mono (by simp)
 exact (o1.step o2).putM X3 (by simp) 2 av'

set_option maxRecDepth 100000 in
theorem keyfnM_any (cb gP cP N : Nat) (P : List Int) (x : Int) (w : World) (_hP : P.length = N) (hcb : w.cell? ⟨cb, 0, none⟩ = some (.slice (some ⟨gP, 0, none⟩) N cP)) (hrow : ∀ j, j < N → w.cell? ⟨gP, j, none⟩ = some (.int .i64 (P.getD j 0))) (hx0 : 0 ≤ x) (hx1 : x < (N : Int)) (h40 : Low40 (bkOf P x)) (g : Glob w) :
  Calls Tryz.prog 58 #[.int .i64 x, .pointer (some ⟨cb, 0, none⟩)] w fun e w' => e = .returned (keyM (bkOf P x)) ∧ Below w.heap.size w w' := by
 obtain ⟨n, rfl⟩ : ∃ n : Nat, x = (n : Int) := ⟨x.toNat, by omega⟩
 have hnN : n < N := by omega
 have c1 := hrow n hnN
 have hb : bkOf P (n : Int) = P.getD n 0 := by unfold bkOf; rw [Int.toNat_natCast]
 rw [hb] at h40 ⊢
 obtain ⟨z, hz⟩ : ∃ z, z = P.getD n 0 := ⟨_, rfl⟩
 rw [← hz] at c1 h40 ⊢
 have HD := Lib.hid (Decimal_any z w (by have := h40.1; omega) (by have := h40.2; omega) g)
 clear hb hrow h40 g hz hx0 hx1
 go_enter Tryz.func58, Tryz.ntmps58
 go_wp2_with fail
 refine Calls.mono HD.out ?_
 rintro e w1 ⟨rfl, hb1⟩
 have HB1 := Lib.hid hb1
 clear hb1 HD c1 hcb
 go_wp2
 go_ret
 exact ⟨rfl, HB1.out⟩

end Go.Proofs.YtjghfgaincnegaaGreatDoor

namespace Go.Proofs.YtjghfgaincnegaaGreatDoor
open Go Go.RowKit
open Go.Maps (Keyed)

/-- The partition as it lies in the memory. -/
structure PMem (B cb gP cP N : Nat) (P : List Int) (w : World) : Prop where
 len : P.length = N
 low : ∀ z ∈ P, Low40 z
 cbB : cb < B
 gpB : gP < B
 cbw : cb < w.heap.size
 gpw : gP < w.heap.size
 cell : w.cell? ⟨cb, 0, none⟩ = some (.slice (some ⟨gP, 0, none⟩) N cP)
 rows : ∀ j, j < N → w.cell? ⟨gP, j, none⟩ = some (.int .i64 (P.getD j 0))
theorem PMem.below {B cb gP cP N : Nat} {P : List Int} {w w' : World} (h : PMem B cb gP cP N P w) (hb : Below B w w') : PMem B cb gP cP N P w' :=
 ⟨h.len, h.low, h.cbB, h.gpB, Nat.lt_of_lt_of_le h.cbw hb.size, Nat.lt_of_lt_of_le h.gpw hb.size, keeps hb h.cbB h.cell, fun j hj => keeps hb h.gpB (h.rows j hj)⟩
theorem PMem.at {B cb gP cP N : Nat} {P : List Int} {w : World} (h : PMem B cb gP cP N P w) {x : Int} (h0 : 0 ≤ x) (h1 : x < (N : Int)) : Low40 (bkOf P x) := by
 have hx : x.toNat < P.length := by rw [h.len]; omega
 unfold bkOf
 rw [getD_eq hx]
 exact h.low _ (List.getElem_mem _)
theorem PMem.all {B cb gP cP N : Nat} {P : List Int} {w : World} (h : PMem B cb gP cP N P w) {S : List Int} (hS : ∀ x ∈ S, 0 ≤ x ∧ x < (N : Int)) : ∀ z ∈ S.map (bkOf P), Low40 z := fun z hz => by
 obtain ⟨x, hx, rfl⟩ := List.mem_map.1 hz
 exact h.at (hS x hx).1 (hS x hx).2
theorem info_int64F : (Tryz.prog.info? 2).map (fun i => (i.zero, i.size, i.bytes)) = some (some (.int .i64 0), 1, 8) := by kernel_rfl

set_option maxRecDepth 100000 in
set_option maxHeartbeats 4000000 in
theorem findM_any (B xb mb pb ib rb cb gP cP N : Nat) (on : Bool) (i : Nat) (d : Lts) (P : List Int) (st : MNet) (sv av : Value) (x : Int) (w : World) (hB : B ≤ w.heap.size) (h : ExpM B xb mb pb ib rb cb on i d P st sv av w) (hp : PMem B cb gP cP N P w) (hnd : (st.rows.map (bkOf P)).Nodup)
  (hS : ∀ y ∈ st.rows, 0 ≤ y ∧ y < (N : Int)) (hx0 : 0 ≤ x) (hx1 : x < (N : Int)) (hfew : st.rows.length ≤ 1000) (g : Glob w) :
  Calls Tryz.prog 95 #[.pointer (some ⟨xb, 0, none⟩), .int .i64 x] w fun e w' => e = .returned (.int .i64 (mplace P st.rows x)) ∧ Below B w w' ∧ ∃ sv', ExpM B xb mb pb ib rb cb on i d P ⟨madd P st.rows x, st.edges⟩ sv' av w' ∧ Only [2, 135] w w' := by
 have h40 := hp.at hx0 hx1
 have hall := hp.all hS
 have hks : ∀ v ∈ keysM P st.rows, ∃ l, keyOf Tryz.prog 9 v = some l := fun v hv => by obtain ⟨z, hz, rfl⟩ := List.mem_map.1 hv; exact keyM_key (hall z hz)
 have HK := Lib.hid (keyfnM_any cb gP cP N P x w hp.len hp.cell hp.rows hx0 hx1 h40 g)
 have HE := Lib.hid h
 have HBB := Lib.hid hB
 have x3 := h.box.cell 3 rfl
 have hxl := h.box.lt
 by_cases hm : bkOf P x ∈ st.rows.map (bkOf P)
 ·have hpl := mplace_lt.2 hm
  have hpk : mplace P st.rows x < (keysM P st.rows).length := by rw [keysM_len]; exact hpl
  have HL := Lib.hid (fun (w' : World) (hm : NumMap .i64 w' mb (keysM P st.rows)) => hm.found keyedS underMapS hks (keysM_nodup hnd hall) hpk)
  have hk3 : (keysM P st.rows)[mplace P st.rows x] = keyM (bkOf P x) := by
   have h1 : (keysM P st.rows)[mplace P st.rows x]? = some (keyM (bkOf P x)) := by
    unfold keysM
    rw [List.getElem?_map]
    have h2 := fstIx_get hm
    rw [show mplace P st.rows x = fstIx (st.rows.map (bkOf P)) (bkOf P x) from rfl, h2]
    rfl
   rw [List.getElem?_eq_getElem hpk] at h1
   exact Option.some.inj h1
  rw [hk3] at HL
  obtain ⟨n, hn⟩ : ∃ n, n = mplace P st.rows x := ⟨_, rfl⟩
  rw [← hn] at HL ⊢
  have HAD : Hid (madd P st.rows x = st.rows) := madd_old hm
  clear h hp hnd hS hx0 hx1 g h40 hall hks hm hpl hpk hk3 hn hB
  go_enter Tryz.func95, Tryz.ntmps95
  go_wp2_with fail
  refine Calls.mono HK.out ?_
  rintro e w1 ⟨rfl, hb1⟩
  have HB1 := Lib.hid hb1
  have x1 := (HE.out.below hb1).box.cell 1 rfl
  have hlk := HL.out w1 (HE.out.map.below hb1)
  unfold keyM at hlk ⊢
  clear hb1 HK x3
  go_wp2
  go_ret
  refine ⟨rfl, HB1.out.mono HBB.out, sv, ?_, Only.below _ HB1.out⟩
  rw [HAD.out]
  exact HE.out.below HB1.out
 ·obtain ⟨kl, hkl⟩ := keyM_key h40
  have hkn : keyM (bkOf P x) ∉ keysM P st.rows := fun hmm => by
   obtain ⟨z, hz, e⟩ := List.mem_map.1 hmm
   rw [keyM_inj (hall z hz) h40 e] at hz
   exact hm hz
  have HL := Lib.hid (fun (w' : World) (hm : NumMap .i64 w' mb (keysM P st.rows)) => hm.missing keyedS underMapS hks (zeroI64 w') hkl hkn)
  have HU := Lib.hid (fun (w' : World) (hm : NumMap .i64 w' mb (keysM P st.rows)) => hm.store keyedS underMapS hks hkl hkn (by rw [keysM_len]; unfold maxLen; omega))
  rw [keysM_len] at HU
  obtain ⟨hm1, hm2⟩ := madd_new hm
  have HAD : Hid (madd P st.rows x = st.rows ++ [x]) := hm1
  rw [hm2]
  obtain ⟨a0, c0, rfl, -, -⟩ := owns_slice h.rows
  obtain ⟨NN, hN⟩ : ∃ NN, NN = st.rows.length := ⟨_, rfl⟩
  rw [← hN] at HU hfew HE ⊢
  have HNN := Lib.hid hN
  obtain ⟨i0, hi, hz0, hz1, hz2⟩ := info_parts info_int64F
  clear h hp hnd hS hx0 hx1 g h40 hall hks hm hkl hkn hm1 hm2 hN hB
  go_enter Tryz.func95, Tryz.ntmps95
  go_wp2_with fail
  refine Calls.mono HK.out ?_
  rintro e w1 ⟨rfl, hb1⟩
  have HB1 := Lib.hid (Below.mono hb1 HBB.out)
  have HO1 : Hid (Only [2, 135] w w1) := Only.below _ hb1
  have HE1 := Lib.hid (HE.out.below hb1)
  have x1 := HE1.out.box.cell 1 rfl
  have x0 := HE1.out.box.cell 0 rfl
  have hlk := HL.out w1 HE1.out.map
  obtain ⟨w2, hup, hm2, hg2⟩ := HU.out w1 HE1.out.map
  unfold keyM at hlk hup ⊢
  have hs1 : B ≤ w1.heap.size := Nat.le_trans HBB.out hb1.size
  clear hb1 HK x3 HE
  have mblk : w1.heap[mb]? = some (.map (((keysM P st.rows).mapIdx fun i k => (⟨k, .int .i64 i, i⟩ : MapEntry)).toArray) (keysM P st.rows).length) := HE1.out.map
  have X2 : Hid (Blk w2 xb _ _) := (hg2.block xb HE1.out.box.lt (fun e => blk_map_ne' HE1.out.box mblk (Option.some.inj e))).trans HE1.out.box
  have hrw := HE1.out.rows
  rw [← HNN.out] at hrw
  have R2 := Lib.hid (hrw.kept hg2 (own_map_ne hrw mblk))
  have HG2 := Lib.hid hg2
  have HM2 := Lib.hid hm2
  have HB2 := Lib.hid (HB1.out.grown hg2 hs1 (fun k e => by cases e; exact HE1.out.mbase))
  have y0 := X2.out.cell 0 rfl
  have hs2 : B ≤ w2.heap.size := Nat.le_trans hs1 hg2.size
  have hx2 := X2.out.lt
  clear hg2 hm2 mblk hrw
  go_wp2_with (at_builtin; refine wpList_append_own_at _ rfl _ _ 26 rfl B 2 i0 (.int .i64 0) 1 8 Tryz.underlying26 hi hz0 hz1 hz2 rfl (by decide) _ _ _ rfl (R2.out.alloc _) ⟨w2.heap.size, 0, none⟩ 1 1 [.int .i64 x] rfl rfl ?c1 ?c2 ?c3 ?c4 ?c5 ?_)
  case c1 => exact (cell_one_new _ _ _)
  case c2 => first | rfl | (intro u hu; simp at hu; subst hu; rfl)
  case c3 => first | omega | (simp [maxLen]; omega)
  case c4 => first | omega | (simp; omega)
  case c5 => first | omega | (simp; omega)
  intro v4 w4 ho4 hg4 _ _
  obtain ⟨a4, c4, rfl, -, -⟩ := owns_slice ho4
  have hal : Below w2.heap.size w2 (w2.alloc (.cells #[.int .i64 x] 2)) := (Below.refl _ _).alloc (Nat.le_refl _) _
  have HF := Lib.hid (ExpM.grow (x := x) HE1.out HG2.out HM2.out hal hg4 (by rw [← HNN.out]; exact ho4))
  have HO4 : Hid (Only [2, 135] w (w4.setCell ⟨xb, 0, none⟩ (.slice a4 (NN + 1) c4))) := HO1.out.step (ExpM.growOnly HE1.out HG2.out hal hg4)
  have hne : some xb ≠ (Value.slice a0 NN c0).ownBlock := blk_own_ne' X2.out R2.out (by decide)
  have hsv : w4.heap.size ≥ w2.heap.size := by have h1 := hal.size; have h2 := hg4.size; omega
  have z0 : w4.cell? ⟨xb, 0, none⟩ = some (.slice a0 NN c0) := (hg4.cell_far ⟨xb, 0, none⟩ (by simp; omega) hne).trans (keeps hal hx2 y0)
  have z1 : w4.frozen? ⟨xb, 0, none⟩ = false := (hg4.frozen_far ⟨xb, 0, none⟩ (by simp; omega) hne).trans ((hal.frozen (p := ⟨xb, 0, none⟩) hx2).trans (X2.out.frozen 0))
  have HB4 : Hid (Below B w w4) := (HB2.out.trans (hal.mono hs2)).grown hg4 (by simp; omega) (fun b e => (R2.out.lt b e).1)
  clear ho4 hg4 hal hup y0 x0 x1 hlk
  go_wp2
  go_ret
  refine ⟨rfl, HB4.out.setCell HE1.out.base (.slice a4 (NN + 1) c4), .slice a4 (NN + 1) c4, ?_, HO4.out⟩
  rw [HAD.out]
  exact HF.out

end Go.Proofs.YtjghfgaincnegaaGreatDoor

namespace Go.Proofs.YtjghfgaincnegaaGreatDoor
open Go Go.RowKit

theorem info_arc : (Tryz.prog.info? 138).map (fun i => (i.zero, i.size, i.bytes)) = some (some (.agg #[.int .i64 0, .string ⟨#[]⟩, .int .i64 0]), 3, 32) := by kernel_rfl

end Go.Proofs.YtjghfgaincnegaaGreatDoor
