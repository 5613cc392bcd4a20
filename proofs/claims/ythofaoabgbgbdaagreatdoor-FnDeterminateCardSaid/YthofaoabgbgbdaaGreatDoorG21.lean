/-
  What determinize's closure over the labels computes: all steps from one row.
  A system out of the search: plain facts, and a struct of four cells.
  What explored computes at sets of states: the net, and whether its system is valid.
  The reference's sets of states: l14List, l12Marks, l12Close.
-/
import Derived.Test.YthofaoabgbgbdaaGreatDoorG20
import Derived.Test.YthofaoabgbgbdaaGreatDoorG15
import Derived.Test.YthofaoabgbgbdaaGreatDoorG10
import Derived.Test.YthofaoabgbgbdaaGreatDoorG12
import Derived.Handy
import Derived.Test.YthofaoabgbgbdaaGreatDoorG7
import Derived.Test.YthofaoabgbgbdaaGreatDoorG4
namespace Go.Proofs.YthofaoabgbgbdaaGreatDoor
open Go Go.RowKit

theorem dmid_few (t : Lts) (i : Nat) (cur : List Int) (st : DNet) : ∀ j, (dmid t i cur st j).rows.length ≤ st.rows.length + j ∧ (dmid t i cur st j).edges.length ≤ st.edges.length + j
 | 0 => by rw [dmid_zero]; omega
 | j + 1 => by
  have h := dmid_few t i cur st j
  rw [dmid_succ]
  unfold dstep
  split
  ·omega
  ·constructor
   ·show (dadd _ _).length ≤ _
    unfold dadd
    split
    ·omega
    ·rw [List.length_append, List.length_singleton]; omega
   ·show ((dmid t i cur st j).edges ++ [_]).length ≤ _
    rw [List.length_append, List.length_singleton]; omega
theorem dAt_few {t : Lts} (h : t.labels.length ≤ 12) : ∀ n, (dAt t n).edges.length ≤ 11 * n
 | 0 => by simp [dAt]
 | n + 1 => by
  have h1 := dAt_few h n
  rw [dAt]
  unfold drow
  split
  ·omega
  ·next cur _ =>
   have := (dmid_few t n cur (dAt t n) (t.labels.length - 1)).2
   omega
theorem DGood.rowOk {t : Lts} (hv : Valid t) {st : DNet} (h : DGood t st) : ∀ r ∈ st.rows, RowOk r := by
 intro r hr
 obtain ⟨h1, h2, h3⟩ := h.rows r hr
 have h4 := hv.st1
 refine ⟨h3, few_states ?_ h1 h4, fun x hx => by have := h1 x hx; omega⟩
 rw [List.nodup_iff_pairwise_ne]
 exact h2.imp fun h => by omega
theorem next_rowOk {t : Lts} (hv : Valid t) {cur : List Int} {k : Int} (h : nextS t cur k ≠ []) : RowOk (nextS t cur k) := by
 have hs := nextS_is hv cur k
 have h1 : ∀ x ∈ nextS t cur k, 0 ≤ x ∧ x < t.states := fun x hx => clos.inside hv (fun y hy => behindP_in hv hy) x ((hs.mem x).1 hx)
 have h4 := hv.st1
 refine ⟨h, few_states ?_ h1 h4, fun x hx => by have := h1 x hx; omega⟩
 rw [List.nodup_iff_pairwise_ne]
 exact hs.asc.imp fun h => by omega
theorem first_rowOk {t : Lts} (hv : Valid t) : RowOk (firstS t) := by
 have := (DGood.start hv).rowOk hv (firstS t) (by simp [dAt])
 exact this

set_option maxRecDepth 100000 in
set_option maxHeartbeats 4000000 in
theorem movesS_any (B xb mb pb ib rb n tb lo : Nat) (t : Lts) (S0 : DNet) (cur : List Int) (sv av lv ev rn : Value) (vs : List Value) (w0 w : World) (hv : Valid t) (hB : B = w0.heap.size) (hbl : Below B w0 w) (hE : ExpAt B xb mb pb ib rb true n t S0 sv av vs w)
  (hl : SliceK 1 encS lo w0 lv t.labels) (he : SliceK 3 encE lo w0 ev t.edges) (ht : Blk w0 tb [.int .i64 t.states, .int .i64 t.initial, lv, ev] 27) (g : Glob w0) (hG : DGood t S0) (h40 : S0.rows.length ≤ 40) (he440 : S0.edges.length ≤ 440)
  (hcur : S0.rows[n]? = some cur) (hrn : vs[n]? = some rn) :
  Calls Tryz.prog 48 #[rn, .func (.func 87) #[] #[.pointer (some ⟨pb, 0, none⟩), .pointer (some ⟨ib, 0, none⟩)], .pointer (some ⟨tb, 0, none⟩)] w fun e w' =>
   e = .returned (.bool true) ∧ Below B w0 w' ∧ ∃ sv' av' vs', ExpAt B xb mb pb ib rb true n t (dmid t n cur S0 (t.labels.length - 1)) sv' av' vs' w' ∧ ∃ tail, vs' = vs ++ tail := by
 have HV := Lib.hid hv
 have HL := Lib.hid hl
 have HEE := Lib.hid he
 have HG := Lib.hid hG
 have HGL := Lib.hid g
 have HX := Lib.hid hE
 have HBL := Lib.hid hbl
 have HT := Lib.hid ht
 have HCU := Lib.hid hcur
 have HRN := Lib.hid hrn
 have HB := Lib.hid hB
 have htl := ht.lt
 have hlpos := hv.labels.pos
 have hlmost := hv.labels.most
 obtain ⟨al, cl, rfl, hln, hlc, hlrow⟩ := hl
 obtain ⟨bl, ol, rfl, hblw, hcells⟩ : ∃ bl ol, al = some ⟨bl, ol, none⟩ ∧ bl < w0.heap.size ∧ ∀ i (h : i < t.labels.length), w0.cell? ⟨bl, ol + i, none⟩ = some (.string t.labels[i]) := by
  rcases hlrow with h | ⟨bl, ol, h1, -, h3, h4⟩
  ·omega
  ·exact ⟨bl, ol, h1, h3, fun i hi => by have := h4 i hi 0 (by omega); simpa [encS] using this⟩
 have HCE := Lib.hid hcells
 have T2 := keeps (hB ▸ hbl) htl (ht.cell 2 rfl)
 obtain ⟨L, hL⟩ : ∃ L, L = t.labels.length := ⟨_, rfl⟩
 rw [← hL] at hlpos hlmost hln T2 HT HL
 rw [← hL]
 have HLL := Lib.hid hL
 have hcl0 : ¬ cl = 0 := by omega
 clear hv he ht g hG hE hbl hlrow hcells hcur hrn hL hB
 have h0 := HX.out
 by_cases hc1 : cl = 1
 ·have hL1 : L = 1 := by omega
  have HD : Hid (dmid t n cur S0 (L - 1) = S0) := by unfold Hid; rw [hL1]; exact dmid_zero t n cur S0
  subst hc1 hL1
  clear h0
  go_enter Tryz.func48, Tryz.ntmps48
  go_wp2
  go_loop [13] (fun v13 => v13 = .int .i64 0) (fun _ => 0)
  case atStart => rfl
  case round =>
   subst hrel
   go_wp2
   go_ret
   refine ⟨rfl, HBL.out, sv, av, vs, ?_, [], by simp⟩
   rw [HD.out]
   exact HX.out
 ·clear h0
  go_enter Tryz.func48, Tryz.ntmps48
  go_wp2
  go_loopw [13] (fun v13 wr => ∃ (j : Nat) (sv' av' : Value) (tail : List Value), v13 = .int .i64 j ∧ j ≤ L - 1 ∧ Below B w0 wr ∧ ExpAt B xb mb pb ib rb true n t (dmid t n cur S0 j) sv' av' (vs ++ tail) wr) (fun v13 _ => L - (intOf v13).toNat)
  case atStart => exact ⟨0, sv, av, [], rfl, Nat.zero_le _, HBL.out, by rw [dmid_zero, List.append_nil]; exact HX.out⟩
  case round =>
   clear HBL HX
   obtain ⟨j, sv2, av2, tail, rfl, hj, hbl, hx⟩ := hrel
   obtain ⟨wC, rfl⟩ : ∃ wC : World, wC = wr := ⟨_, rfl⟩
   have HBL := Lib.hid hbl
   have HX := Lib.hid hx
   have hszC : B ≤ wC.heap.size := by rw [HB.out]; exact hbl.size
   have hbl0 : Below w0.heap.size w0 wC := by have := hbl; rw [HB.out] at this; exact this
   clear hbl hx
   by_cases hlt : j < L - 1
   ·have hk : j + 1 < t.labels.length := by rw [← HLL.out]; omega
    have hc := keeps hbl0 hblw (HCE.out (j + 1) hk)
    rw [show ol + (j + 1) = ol + 1 + j from by omega] at hc
    obtain ⟨l, hl⟩ : ∃ l, l = t.labels[j + 1] := ⟨_, rfl⟩
    rw [← hl] at hc
    have hgl : t.labels.getD (j + 1) ByteArray.empty = l := by rw [List.getD_eq_getElem?_getD, List.getElem?_eq_getElem hk, hl]; rfl
    have HTC := Lib.hid (HT.out.below hbl0)
    have t0 := HTC.out.cell 0 rfl
    have t1 := HTC.out.cell 1 rfl
    have t2 := HTC.out.cell 2 rfl
    have t3 := HTC.out.cell 3 rfl
    have hrn : (vs ++ tail)[n]? = some rn := by rw [List.getElem?_append_left (List.getElem?_eq_some_iff.1 HRN.out).1]; exact HRN.out
    have hrs : SliceK 1 encI B wC rn cur := by
     have hm := dmid_rowAt (t := t) HCU.out j
     obtain ⟨hn1, hn2⟩ := List.getElem?_eq_some_iff.1 hrn
     obtain ⟨hm1, hm2⟩ := List.getElem?_eq_some_iff.1 hm
     have h3 := HX.out.rows.2.2.1 n hn1 hm1
     rw [hn2, hm2] at h3
     exact SliceK.of_owns (enc := encI) encI_len rfl (by rw [flat_encI]; exact h3)
    have HVI := Lib.hid (visible_any lo B t _ ev rn cur l wC HV.out (HL.out.below hbl0) (HEE.out.below hbl0) hrs hk hl.symm)
    have hGM := HG.out.mid HV.out (List.getElem?_eq_some_iff.1 HCU.out).1 cur j (by rw [← HLL.out]; omega)
    have hfew := dmid_few t n cur S0 j
    have hds := dmid_succ t n cur S0 j
    obtain ⟨M, hM⟩ : ∃ M, M = dmid t n cur S0 j := ⟨_, rfl⟩
    rw [← hM] at HX hGM hfew hds
    have HGM := Lib.hid hGM
    have HDS := Lib.hid hds
    have hkj : (((j + 1 : Nat)) : Int) = (j : Int) + 1 := by omega
    rw [hkj] at HVI
    have hML : (M.rows.length ≤ 1000 ∧ M.edges.length ≤ 1000) := by omega
    have HLO : Hid (∀ (i : Nat) (h : i < (vs ++ tail).length) b, (vs ++ tail)[i].ownBlock = some b → b < wC.heap.size) := fun i h b e => (HX.out.rows.2.2.1 i h (by rw [← HX.out.rows.1]; exact h)).lt b e |>.2
    obtain ⟨hm1, hm2⟩ := hML
    have HGC := Lib.hid (HGL.out.below hbl0)
    have HGT := Lib.hid hgl
    have hcw : bl < wC.heap.size := Nat.lt_of_lt_of_le hblw hbl0.size
    clear hl hrn hrs hM hGM hfew hds hk hgl hbl0
    go_wp2_with fail
    refine Calls.mono HVI.out ?_
    rintro e8 w8 ⟨v8, rfl, hb8, ho8⟩
    have HB8 := Lib.hid (HBL.out.trans (hb8.mono hszC))
    have HX8 := Lib.hid (HX.out.below hb8)
    obtain ⟨nx, hnx⟩ : ∃ nx, nx = nextS t cur ((j : Int) + 1) := ⟨_, rfl⟩
    have HNX := Lib.hid hnx
    rw [← hnx] at ho8
    have HO8 := Lib.hid ho8
    obtain ⟨a8, c8, rfl, -, -⟩ := owns_slice ho8
    have hs8 : B ≤ w8.heap.size := Nat.le_trans hszC hb8.size
    have HG8 := Lib.hid (HGC.out.below hb8)
    clear hb8 ho8 HVI t0 t1 t2 t3 hc hnx
    by_cases hem : nx = []
    ·subst hem
     have HN : Hid (dmid t n cur S0 (j + 1) = M) := by
      unfold Hid
      rw [HDS.out]
      exact dstep_none HNX.out.symm
     go_wp2
     go_roundw
     case rel => exact ⟨j + 1, sv2, av2, tail, by go_num, by omega, HB8.out, by rw [HN.out]; exact HX8.out⟩
     case measure => simp [intOf]; omega
    ·have hne : nextS t cur ((j : Int) + 1) ≠ [] := by rw [← HNX.out]; exact hem
     have hnl : 0 < nx.length := List.length_pos_iff.2 hem
     have HN : Hid (dmid t n cur S0 (j + 1) = ⟨dadd M.rows nx, M.edges ++ [⟨(n : Int), ((j + 1 : Nat) : Int), (dplace M.rows nx : Int)⟩]⟩) := by
      unfold Hid
      rw [HDS.out]
      unfold dstep
      rw [if_neg hne, ← HNX.out, hkj]
     have hrok : RowOk nx := by rw [HNX.out]; exact next_rowOk HV.out hne
     have HTO := Lib.hid (to_any B xb mb pb ib rb n (j + 1) wC.heap.size t M sv2 av2 (.slice a8 nx.length c8) (vs ++ tail) nx w8 hs8 HX8.out HGM.out.nodup (HGM.out.rowOk HV.out) hrok HLO.out hszC HO8.out hm1 hm2 HG8.out l HGT.out)
     have hnb : decide (0 < ((nx.length : Nat) : Int)) = true := by rw [decide_eq_true_eq]; omega
     obtain ⟨NL, hNL⟩ : ∃ NL, NL = nx.length := ⟨_, rfl⟩
     rw [← hNL] at HTO hnl hnb ⊢
     clear hem hne hrok hNL
     go_wp2_with fail
     refine Calls.mono HTO.out ?_
     rintro e9 w9 ⟨rfl, hb9, sv9, av9, vs9, hx9, tail9, rfl⟩
     have HB9 := Lib.hid (HB8.out.trans hb9)
     have HX9 := Lib.hid hx9
     clear hb9 hx9 HTO
     go_wp2
     go_roundw
     case rel => exact ⟨j + 1, sv9, av9, tail ++ tail9, by go_num, by omega, HB9.out, by rw [HN.out, ← List.append_assoc]; exact HX9.out⟩
     case measure => simp [intOf]; omega
   ·have hj2 : j = L - 1 := by omega
    go_wp2
    go_ret
    refine ⟨rfl, HBL.out, sv2, av2, vs ++ tail, ?_, tail, rfl⟩
    rw [← hj2]
    exact HX.out

end Go.Proofs.YthofaoabgbgbdaaGreatDoor

namespace Go.Proofs.YthofaoabgbgbdaaGreatDoor
open Go Go.RowKit

theorem encA_encC (t : Lts) (es : List Edge) : es.flatMap (encA t) = (es.map (arcOf t)).flatMap encC := by
 rw [List.flatMap_map]
 rfl
theorem blk_new9 (w : World) : Blk (w.alloc (.cells #[.int .i64 0, .int .i64 0, .slice none 0 0, .slice none 0 0] 27)) w.heap.size [.int .i64 0, .int .i64 0, .slice none 0 0, .slice none 0 0] 27 := Blk.new w _ _
theorem box_below9 (w : World) (a : Array Value) (T : TypeId) : Below w.heap.size w (w.alloc (.cells a T)) := (Below.refl _ _).alloc (Nat.le_refl _) _
theorem found_full {t : Lts} {st : DNet} (h : DFound t st) (h0 : 0 < st.rows.length) (hs : ¬ DSmall st) : DFull t := by
 obtain ⟨n, hc, rfl, hl⟩ := h
 obtain ⟨m, rfl⟩ : ∃ m, n = m + 1 := ⟨n - 1, by omega⟩
 have hm := hc m (by omega)
 refine ⟨m, t.labels.length - 1, (dAt t m).rows[m], fun k hk => hc k (by omega), List.getElem?_eq_getElem hm, Nat.le_refl _, ?_⟩
 rw [← dAt_succ (List.getElem?_eq_getElem hm)]
 exact hs
theorem own4 {w : World} {b : Nat} {x0 x1 x2 x3 v0 v1 v2 v3 : Value} (hb : Blk w b [x0, x1, x2, x3] 27) {base e size n : Nat} {v : Value} {xs : List Value} (ho : w.ownsRow base e size v n xs) (he : e ≠ 27) :
  ((((w.setCell ⟨b, 0, none⟩ v0).setCell ⟨b, 1, none⟩ v1).setCell ⟨b, 2, none⟩ v2).setCell ⟨b, 3, none⟩ v3).ownsRow base e size v n xs :=
 own_sets (own_sets (own_sets (own_sets ho hb he 0 _) (hb.set 0 v0) he 1 _) ((hb.set 0 v0).set 1 v1) he 2 _) (((hb.set 0 v0).set 1 v1).set 2 v2) he 3 _
theorem OwnIntss.set1 {eo ei lo : Nat} {w : World} {v : Value} {vs : List Value} {xss : List (List Int)} (h : OwnIntss eo ei lo w v vs xss) {b : Nat} {cs : List Value} {t : TypeId} (hb : Blk w b cs t) (he : eo ≠ t) (hi : ei ≠ t) (i : Nat) (u : Value) : OwnIntss eo ei lo (w.setCell ⟨b, i, none⟩ u) v vs xss :=
 h.kept (grown_setCell w ⟨b, i, none⟩ u) (own_type_ne h.2.1 hb he) (fun j hj => own_type_ne (h.2.2.1 j hj (by rw [← h.1]; exact hj)) hb hi)
theorem sys_short {t : Lts} {st : DNet} (hv : Valid t) (hG : DGood t st) (h : Short20 t.labels) : Short20 (sysOf t st).labels := by
 intro i hi
 have hm := ((used_is hv.labels (used_mem hG)).2 (sysOf t st).labels[i]).1 (List.getElem_mem hi)
 rcases List.mem_cons.1 hm with e | hm
 ·rw [e]; decide
 ·obtain ⟨j, hj, e⟩ := List.mem_iff_getElem.1 (used_mem hG _ hm)
  rw [← e]
  exact h j hj
theorem four_sets {w w8 : World} {b : Nat} {x0 x1 x2 x3 v0 v1 v2 v3 : Value} (hb : Blk w8 b [x0, x1, x2, x3] 27) (hB : Below w.heap.size w w8) (hw : w.heap.size ≤ b) :
  Below w.heap.size w ((((w8.setCell ⟨b, 0, none⟩ v0).setCell ⟨b, 1, none⟩ v1).setCell ⟨b, 2, none⟩ v2).setCell ⟨b, 3, none⟩ v3) ∧ Blk ((((w8.setCell ⟨b, 0, none⟩ v0).setCell ⟨b, 1, none⟩ v1).setCell ⟨b, 2, none⟩ v2).setCell ⟨b, 3, none⟩ v3) b [v0, v1, v2, v3] 27
   ∧ ∀ {base e size n : Nat} {v : Value} {xs : List Value}, w8.ownsRow base e size v n xs → e ≠ 27 → ((((w8.setCell ⟨b, 0, none⟩ v0).setCell ⟨b, 1, none⟩ v1).setCell ⟨b, 2, none⟩ v2).setCell ⟨b, 3, none⟩ v3).ownsRow base e size v n xs :=
 ⟨(((hB.setCell hw _).setCell hw _).setCell hw _).setCell hw _, (((hb.set 0 v0).set 1 v1).set 2 v2).set 3 v3,
  fun ho he => own_sets (own_sets (own_sets (own_sets ho hb he 0 _) (hb.set 0 v0) he 1 _) ((hb.set 0 v0).set 1 v1) he 2 _) (((hb.set 0 v0).set 1 v1).set 2 v2) he 3 _⟩

end Go.Proofs.YthofaoabgbgbdaaGreatDoor

namespace Go.Proofs.YthofaoabgbgbdaaGreatDoor
open Go Go.RowKit

/-- The next round's variable. -/
theorem ExpAt.turn {B xb mb pb ib rb i : Nat} {t : Lts} {st : DNet} {sv av : Value} {vs : List Value} {w : World} {j : Nat} (h : ExpAt B xb mb pb ib rb true i t st sv av vs w) (hB : B ≤ w.heap.size) :
  ExpAt B xb mb pb w.heap.size rb true j t st sv av vs (w.alloc (.cells #[.int .i64 j] 3)) := by
 have hb : Below w.heap.size w (w.alloc (.cells #[.int .i64 j] 3)) := (Below.refl _ _).alloc (Nat.le_refl _) _
 have h2 := h.below hb
 exact ⟨h2.base, h2.mbase, h2.pbase, hB, h2.rbase, h2.box, h2.ptr, fun _ => Blk.new w [.int .i64 j] 3, h2.res, h2.rows, h2.map, h2.arcs⟩

theorem expl_results {w : World} {b : Nat} {v0 v1 v2 v3 : Value} {tmps : Array Value} (hc : tmps.getD 6 undef = .pointer (some ⟨b, 0, none⟩)) (hb : Blk w b [v0, v1, v2, v3] 27) :
  (results Tryz.f45 tmps).run Tryz.prog w = .ok (.tuple #[.agg #[v0, v1, v2, v3], tmps.getD 7 undef, tmps.getD 8 undef]) w := by
 have h0 := hb.cell 0 rfl
 have h1 := hb.cell 1 rfl
 have h2 := hb.cell 2 rfl
 have h3 := hb.cell 3 rfl
 simp only [Array.getD_eq_getD_getElem?] at hc
 simp [results, Tryz.results45, go_sem, hc, h0, h1, h2, h3, Result.andThen]

/-- What explored returns: too large, or the net with its system. -/
def RetExp (t : Lts) (B : Nat) (w0 : World) (e : Ending) (w' : World) : Prop :=
 Below B w0 w' ∧ ((DFull t ∧ ∃ a b a1 n1 c1 a2 n2 c2 v, e = .returned (.tuple #[.agg #[.int .i64 a, .int .i64 b, .slice a1 n1 c1, .slice a2 n2 c2], v, .bool false]))
  ∨ ∃ st lv ev sv, DOk t st ∧ DGood t st ∧ Up st.edges ∧ e = .returned (.tuple #[.agg #[.int .i64 st.rows.length, .int .i64 0, lv, ev], sv, .bool true])
   ∧ w'.ownsRow B 9 1 lv (sysOf t st).labels.length ((sysOf t st).labels.map .string) ∧ w'.ownsRow B 68 3 ev (sysOf t st).edges.length ((sysOf t st).edges.flatMap encE) ∧ ∃ vs, OwnIntss 34 2 B w' sv vs st.rows)

set_option maxRecDepth 100000 in
set_option maxHeartbeats 8000000 in
theorem explored_any (B tb lo : Nat) (t : Lts) (lv ev fv : Value) (w0 w : World) (hv : Valid t) (hB : B = w0.heap.size) (hbl : Below B w0 w) (hf : w.ownsRow B 2 1 fv (firstS t).length ((firstS t).map (Value.int .i64)))
  (hl : SliceK 1 encS lo w0 lv t.labels) (he : SliceK 3 encE lo w0 ev t.edges) (ht : Blk w0 tb [.int .i64 t.states, .int .i64 t.initial, lv, ev] 27) (g : Glob w0) (hsh : Short20 t.labels) :
  Calls Tryz.prog 45 #[fv, .func (.func 46) #[] #[], .func (.func 48) #[] #[.pointer (some ⟨tb, 0, none⟩)]] w (RetExp t B w0) := by
 have HV := Lib.hid hv
 have HL := Lib.hid hl
 have HEV := Lib.hid he
 have HT := Lib.hid ht
 have HG := Lib.hid g
 have HSH := Lib.hid hsh
 have HB := Lib.hid hB
 have hszB : B ≤ w.heap.size := by rw [hB]; exact hbl.size
 obtain ⟨rb, hrb⟩ : ∃ rb, rb = w.heap.size := ⟨_, rfl⟩
 -- the world at the first find
 obtain ⟨w1, hw1⟩ : ∃ w1, w1 = (((w.alloc (.cells #[.int .i64 0, .int .i64 0, .slice none 0 0, .slice none 0 0] 27)).alloc (.map #[] 0)).alloc (.cells #[.slice none 0 0, .map (some (w.heap.size + 1)), .slice none 0 0, .func (.func 46) #[] #[]] 123)).alloc (.cells #[.pointer (some ⟨w.heap.size + 1 + 1, 0, none⟩)] 120) := ⟨_, rfl⟩
 have hb1 : Below w.heap.size w w1 := by rw [hw1]; exact ((((Below.refl _ _).alloc (Nat.le_refl _) _).alloc (by simp) _).alloc (by simp; omega) _).alloc (by simp; omega) _
 have HX1 : Hid (ExpAt B (rb + 1 + 1) (rb + 1) (rb + 1 + 1 + 1) rb rb false 0 t ⟨[], []⟩ (.slice none 0 0) (.slice none 0 0) [] w1) := by
  unfold Hid
  rw [hw1, hrb]
  refine ⟨by omega, by omega, by omega, by omega, by omega, ?_, ?_, (fun h => by cases h), ?_, ?_, ?_, World.ownsRow_nil _ _ _ _⟩
  ·have := (Blk.new ((w.alloc (.cells #[.int .i64 0, .int .i64 0, .slice none 0 0, .slice none 0 0] 27)).alloc (.map #[] 0)) [.slice none 0 0, .map (some (w.heap.size + 1)), .slice none 0 0, .func (.func 46) #[] #[]] 123)
   rw [World.size_alloc, World.size_alloc] at this
   exact this.alloc _
  ·have := Blk.new (((w.alloc (.cells #[.int .i64 0, .int .i64 0, .slice none 0 0, .slice none 0 0] 27)).alloc (.map #[] 0)).alloc (.cells #[.slice none 0 0, .map (some (w.heap.size + 1)), .slice none 0 0, .func (.func 46) #[] #[]] 123)) [.pointer (some ⟨w.heap.size + 1 + 1, 0, none⟩)] 120
   rw [World.size_alloc, World.size_alloc, World.size_alloc] at this
   exact this
  ·exact (((Blk.new w _ _).alloc _).alloc _).alloc _
  ·exact ⟨rfl, World.ownsRow_nil _ _ _ _, fun i h _ => absurd h (Nat.not_lt_zero _), fun i j h _ _ => absurd h (Nat.not_lt_zero _), fun i h => absurd h (Nat.not_lt_zero _)⟩
  ·have := NumMap.made .i64 (w.alloc (.cells #[.int .i64 0, .int .i64 0, .slice none 0 0, .slice none 0 0] 27))
   rw [World.size_alloc] at this
   have h2 : Below (w.heap.size + 1 + 1) ((w.alloc (.cells #[.int .i64 0, .int .i64 0, .slice none 0 0, .slice none 0 0] 27)).alloc (.map #[] 0)) ((((w.alloc (.cells #[.int .i64 0, .int .i64 0, .slice none 0 0, .slice none 0 0] 27)).alloc (.map #[] 0)).alloc (.cells #[.slice none 0 0, .map (some (w.heap.size + 1)), .slice none 0 0, .func (.func 46) #[] #[]] 123)).alloc (.cells #[.pointer (some ⟨w.heap.size + 1 + 1, 0, none⟩)] 120)) := ((Below.refl _ _).alloc (by simp) _).alloc (by simp) _
   exact this.below (by simpa using h2)
 have hf1 := owns_below hf hb1
 have HBL1 := Lib.hid (hbl.trans (hb1.mono hszB))
 have hg1 : Glob w1 := g.below (by have := HBL1.out; rw [hB] at this; exact this)
 have HF1 := Lib.hid (findS_any B (rb + 1 + 1) (rb + 1) (rb + 1 + 1 + 1) rb rb false 0 B t ⟨[], []⟩ (.slice none 0 0) (.slice none 0 0) fv [] (firstS t) w1 (Nat.le_trans hszB hb1.size) HX1.out List.nodup_nil (fun r hr => by cases hr) (first_rowOk hv) (fun i h => by cases h) (Nat.le_refl _) hf1 (by simp) hg1)
 have HW1 := Lib.hid hw1
 have HRB := Lib.hid hrb
 have p1 := HX1.out.ptr.cell 0 rfl
 have hmm := @run_makeMap Tryz.prog
 clear hv hl he ht g hsh hbl hw1 hb1 hf hf1 hg1 HX1 hB hrb
 go_enter Tryz.func45, Tryz.ntmps45
 go_wp2_with fail
 rw [← HW1.out, ← HRB.out]
 refine Calls.mono HF1.out ?_
 rintro e2 w2 ⟨rfl, hb2, sv2, vs2, hx2, -, -⟩
 have HX2 := Lib.hid hx2
 have HB2 := Lib.hid (HBL1.out.trans hb2)
 obtain ⟨xb, hxb⟩ : ∃ xb, xb = rb + 1 + 1 := ⟨_, rfl⟩
 obtain ⟨mb, hmb⟩ : ∃ mb, mb = rb + 1 := ⟨_, rfl⟩
 obtain ⟨pb, hpb⟩ : ∃ pb, pb = rb + 1 + 1 + 1 := ⟨_, rfl⟩
 rw [← hpb, ← hxb, ← hmb] at HX2
 rw [← hpb]
 have hs2 : B ≤ w2.heap.size := by have h1 := HX2.out.ptr.lt; have h2 := HX2.out.pbase; omega
 clear hx2 hb2 HF1 HBL1 p1 hmm hxb hmb hpb
 have HX3 : Hid (ExpAt B xb mb pb w2.heap.size rb true 0 t (dAt t 0) sv2 (.slice none 0 0) vs2 (w2.alloc (.cells #[.int .i64 0] 3))) := by
  have hb : Below w2.heap.size w2 (w2.alloc (.cells #[.int .i64 0] 3)) := (Below.refl _ _).alloc (Nat.le_refl _) _
  have h2 := HX2.out.below hb
  have hd : (⟨dadd [] (firstS t), []⟩ : DNet) = dAt t 0 := by rw [dAt]; rfl
  rw [hd] at h2
  exact ⟨h2.base, h2.mbase, h2.pbase, hs2, h2.rbase, h2.box, h2.ptr, fun _ => Blk.new w2 _ _, h2.res, h2.rows, h2.map, h2.arcs⟩
 go_wp2
 go_loopg [10] 64 (fun gk v10 wr => ∃ (n ib : Nat) (sv av : Value) (vs : List Value), v10 = .pointer (some ⟨ib, 0, none⟩) ∧ DCome t n ∧ (dAt t n).rows.length ≤ 40 ∧ 64 - n ≤ gk ∧ ExpAt B xb mb pb ib rb true n t (dAt t n) sv av vs wr ∧ Below B w0 wr)
 case atStart => exact ⟨0, w2.heap.size, sv2, _, vs2, rfl, DCome.zero t, by simp [dAt], by omega, HX3.out, HB2.out.alloc hs2 _⟩
 case round =>
  clear HX3 HB2 HX2
  obtain ⟨n, ib, sv, av, vs, rfl, hcome, h40, hgk, hx, hbl⟩ := hrel
  obtain ⟨wC, rfl⟩ : ∃ wC : World, wC = wr := ⟨_, rfl⟩
  have HCO := Lib.hid hcome
  have HX := Lib.hid hx
  have HBL := Lib.hid hbl
  have HGK := Lib.hid hgk
  have HGD := Lib.hid (DGood.at HV.out n)
  have HUP := Lib.hid (up_at t n)
  have hfew := dAt_few HV.out.labels.most n
  have hszC : B ≤ wC.heap.size := by rw [HB.out]; exact hbl.size
  have hvl : vs.length = (dAt t n).rows.length := hx.rows.1
  obtain ⟨sa, cs, rfl, -, -⟩ := owns_slice hx.rows.2.1
  have hn40 : n ≤ 40 := by
   rcases Nat.eq_zero_or_pos n with h | h
   ·omega
   ·have h1 := hcome (n - 1) (by omega)
    have h2 := dAt_le t (n - 1) 1
    rw [show n - 1 + 1 = n from by omega] at h2
    obtain ⟨⟨r, hr⟩, -⟩ := h2
    rw [hr, List.length_append] at h40
    omega
  obtain ⟨S0, hS0⟩ : ∃ S0, S0 = dAt t n := ⟨_, rfl⟩
  rw [← hS0] at HX HGD HUP h40 hvl hfew
  have HS0 := Lib.hid hS0
  rw [hvl] at HX
  obtain ⟨R, hR⟩ : ∃ R, R = S0.rows.length := ⟨_, rfl⟩
  rw [← hR] at HX h40 hvl
  have HR := Lib.hid hR
  have hxl := HX.out.box.lt
  have hpl := HX.out.ptr.lt
  have hil := (HX.out.idx rfl).lt
  have lx := later_cell hxl (HX.out.box.cell 0 rfl)
  have lp := later_cell hpl (HX.out.ptr.cell 0 rfl)
  have li := later_cell hil ((HX.out.idx rfl).cell 0 rfl)
  clear hcome hx hbl hgk hS0 hR
  by_cases hlt : n < R
  ·have hlR : n < S0.rows.length := by rw [← HR.out]; exact hlt
   obtain ⟨cur, hcur⟩ : ∃ cur, S0.rows[n]? = some cur := ⟨_, List.getElem?_eq_getElem hlR⟩
   obtain ⟨rn, hrn⟩ : ∃ rn, vs[n]? = some rn := ⟨_, List.getElem?_eq_getElem (show n < vs.length by omega)⟩
   obtain ⟨bs, e1, hbs, hcs⟩ : ∃ bs, sa = some ⟨bs, 0, none⟩ ∧ bs < wC.heap.size ∧ wC.cell? ⟨bs, n, none⟩ = some rn := by
    have h1 := HX.out.rows.2.1
    rw [hvl] at h1
    rcases h1.2 with ⟨h, h0⟩ | ⟨bs, c, u, h, -⟩
    ·omega
    ·simp only [Value.slice.injEq, true_and] at h
     obtain ⟨rfl, rfl⟩ := h
     refine ⟨bs, rfl, (h1.lt bs rfl).2, ?_⟩
     have := h1.cellAt n (by omega)
     rw [this, hrn]
   subst e1
   have HCU := Lib.hid hcur
   have HRN := Lib.hid hrn
   clear hcur hrn hlR
   go_wp2
   refine wp_region_later (by kernel_rfl) (by kernel_rfl) ?_
   repeat (go_big_quiet_step ((fail)))
   refine wpQuiet_nil ?_
   intro _ hw9
   obtain ⟨nl, hw8⟩ := hw9
   subst hw8
   have HX4 := Lib.hid (HX.out.below nl.h)
   have HB4 := Lib.hid (HBL.out.trans (nl.h.mono hszC))
   have hs4 := nl.h.size
   have hcs4 := keeps nl.h hbs hcs
   obtain ⟨wD, hwD⟩ : ∃ wD, wD = nl.w := ⟨_, rfl⟩
   rw [← hwD] at HX4 HB4 hs4 hcs4 ⊢
   have hbs4 : bs < wD.heap.size := by omega
   have hszD : B ≤ wD.heap.size := by omega
   clear lx lp li hcs hwD HX HBL
   have lx := later_cell HX4.out.box.lt (HX4.out.box.cell 0 rfl)
   have lp := later_cell HX4.out.ptr.lt (HX4.out.ptr.cell 0 rfl)
   have li := later_cell (HX4.out.idx rfl).lt ((HX4.out.idx rfl).cell 0 rfl)
   have lc := later_cell hbs4 hcs4
   have hni : (n : Int) < (R : Int) := by omega
   go_wp2
   refine wp_region_later_tail 9 (by kernel_rfl) (by kernel_rfl) ?_
   simp only [List.take_succ_cons, List.take_zero, List.drop_succ_cons, List.drop_zero]
   repeat (go_big_quiet_step ((fail)))
   refine wpQuiet_nil ?_
   intro _ hw9
   obtain ⟨nl, hw8⟩ := hw9
   subst hw8
   have HX5 := Lib.hid (HX4.out.below nl.h)
   have HB5 := Lib.hid (HB4.out.trans (nl.h.mono hszD))
   have HMV := Lib.hid (movesS_any B xb mb pb ib rb n tb lo t S0 cur (.slice (some ⟨bs, 0, none⟩) R cs) av lv ev rn vs w0 nl.w HV.out HB.out HB5.out HX5.out HL.out HEV.out HT.out HG.out HGD.out (by rw [← HR.out]; exact h40) (by omega) HCU.out HRN.out)
   have hda := dAt_succ (t := t) (n := n) (cur := cur) (by rw [← HS0.out]; exact HCU.out)
   rw [← HS0.out] at hda
   rw [← hda] at HMV
   have HDA := Lib.hid hda
   clear lx lp li lc hcs4 hbs4 HX4 HX5 HB4 hda hbs
   go_wp2_with fail
   refine Calls.mono HMV.out ?_
   rintro e6 w6 ⟨rfl, hb6, sv6, av6, vs6, hx6, -⟩
   have HX6 := Lib.hid hx6
   have HB6 := Lib.hid hb6
   have hvl6 : vs6.length = (dAt t (n + 1)).rows.length := hx6.rows.1
   obtain ⟨sa6, cs6, rfl, -, -⟩ := owns_slice hx6.rows.2.1
   have HCN := Lib.hid (HCO.out.succ (by rw [← HS0.out, ← HR.out]; exact hlt))
   obtain ⟨R6, hR6⟩ : ∃ R6, R6 = (dAt t (n + 1)).rows.length := ⟨_, rfl⟩
   rw [← hR6] at hvl6
   rw [hvl6] at HX6
   have HR6 := Lib.hid hR6
   have hs6 : B ≤ w6.heap.size := by have h1 := HX6.out.ptr.lt; have h2 := HX6.out.pbase; omega
   have p6 := HX6.out.ptr.cell 0 rfl
   have x6 := HX6.out.box.cell 0 rfl
   have i6 := (HX6.out.idx rfl).cell 0 rfl
   have i6f := (HX6.out.idx rfl).frozen 0
   have hil6 := (HX6.out.idx rfl).lt
   clear hx6 hb6 HMV hR6
   by_cases h41 : 40 < R6
   ·have HFU : Hid (DFull t) := by
     refine ⟨n, t.labels.length - 1, cur, HCO.out, by rw [← HS0.out]; exact HCU.out, Nat.le_refl _, fun h => ?_⟩
     rw [← HS0.out, ← HDA.out] at h
     have h1 := h.1
     have h2 := HR6.out
     omega
    have r0 := HX6.out.res.cell 0 rfl
    have r1 := HX6.out.res.cell 1 rfl
    have r2 := HX6.out.res.cell 2 rfl
    have r3 := HX6.out.res.cell 3 rfl
    have f0 := HX6.out.res.frozen 0
    have f1 := HX6.out.res.frozen 1
    have f2 := HX6.out.res.frozen 2
    have f3 := HX6.out.res.frozen 3
    have h41b : decide ((40 : Int) < ((R6 : Nat) : Int)) = true := by rw [decide_eq_true_eq]; omega
    go_wp2
    refine bodyPost_ret (expl_results rfl ((((HX6.out.res.set 0 _).set 1 _).set 2 _).set 3 _)) rfl ?_
    exact ⟨(((HB6.out.setCell HX6.out.rbase _).setCell HX6.out.rbase _).setCell HX6.out.rbase _).setCell HX6.out.rbase _, .inl ⟨HFU.out, _, _, _, _, _, _, _, _, _, rfl⟩⟩
   ·have h41b : decide ((40 : Int) < ((R6 : Nat) : Int)) = false := by rw [decide_eq_false_iff_not]; omega
    have HXT := Lib.hid (HX6.out.turn (j := n + 1) hs6)
    have hcast : (((n + 1 : Nat)) : Int) = (n : Int) + 1 := by omega
    rw [hcast] at HXT
    clear hcast
    go_wp2
    go_roundg (64 - (n + 1))
    case measure => have := HGK.out; omega
    case rel =>
     refine ⟨n + 1, w6.heap.size, _, _, _, rfl, HCN.out, by rw [← HR6.out]; omega, Nat.le_refl _, HXT.out, HB6.out.alloc hs6 _⟩
  ·have hdone := HCO.out
   have HFD : Hid (DFound t S0) := by
    refine ⟨n, HCO.out, HS0.out.symm, ?_⟩
    have h1 : n ≤ R := by
     rcases Nat.eq_zero_or_pos n with h | h
     ·omega
     ·have h2 := HCO.out (n - 1) (by omega)
      have h3 := dAt_le t (n - 1) 1
      rw [show n - 1 + 1 = n from by omega] at h3
      obtain ⟨⟨r, hr⟩, -⟩ := h3
      have h4 := HR.out
      rw [HS0.out, hr, List.length_append] at h4
      omega
    rw [← HR.out]
    omega
   clear hdone
   go_wp2
   refine wp_region_later (by kernel_rfl) (by kernel_rfl) ?_
   repeat (go_big_quiet_step ((fail)))
   refine wpQuiet_nil ?_
   intro _ hw9
   obtain ⟨nl, hw8⟩ := hw9
   subst hw8
   have HX4 := Lib.hid (HX.out.below nl.h)
   have HB4 := Lib.hid (HBL.out.trans (nl.h.mono hszC))
   have hs4 := nl.h.size
   obtain ⟨wD, hwD⟩ : ∃ wD, wD = nl.w := ⟨_, rfl⟩
   rw [← hwD] at HX4 HB4 hs4 ⊢
   have hszD : B ≤ wD.heap.size := by omega
   clear lx lp li hwD HX HBL
   have hxl := HX4.out.box.lt
   have hpl := HX4.out.ptr.lt
   have hD : Below wD.heap.size wD wD.drew := (Below.refl _ _).drew
   have p0 := HX4.out.ptr.cell 0 rfl
   have x0 := HX4.out.box.cell 0 rfl
   have x2 := HX4.out.box.cell 2 rfl
   have P0 := keeps hD hpl p0
   have X0 := keeps hD hxl x0
   have X2 := keeps hD hxl x2
   have hfe : S0.edges.length ≤ 440 := by omega
   have HAR : Hid (wD.ownsRow B 125 3 av (arcsOf t S0).length ((arcsOf t S0).flatMap encC)) := by
    have h1 := HX4.out.arcs
    rw [encA_encC] at h1
    unfold Hid arcsOf
    rw [List.length_map]
    exact h1
   have hal : (arcsOf t S0).length ≤ 1000 := by unfold arcsOf; rw [List.length_map]; omega
   obtain ⟨us, hus⟩ : ∃ us, us = (arcsOf t S0).map Arc.lab := ⟨_, rfl⟩
   obtain ⟨Ls, hLs⟩ : ∃ Ls, Ls = (sysOf t S0).labels := ⟨_, rfl⟩
   obtain ⟨Es, hEs⟩ : ∃ Es, Es = (sysOf t S0).edges := ⟨_, rfl⟩
   have hul : us.length = (arcsOf t S0).length := by rw [hus, List.length_map]
   have HLO : Hid (∀ (W : World), Below wD.heap.size wD W → Calls Tryz.prog 88 #[av] W (fun e w9 => ∃ v9, e = .returned v9 ∧ Below wD.heap.size wD w9 ∧ Below W.heap.size W w9 ∧ w9.ownsRow wD.heap.size 9 1 v9 us.length (us.map .string))) := by
    intro W hb
    rw [hus]
    refine (labelsOf_any B av (arcsOf t S0) W ((SliceK.of_owns (enc := encC) encC_len rfl HAR.out).below hb) (by omega)).mono ?_
    rintro e w9 ⟨v9, h1, h2, h3⟩
    exact ⟨v9, h1, hb.trans (h2.mono hb.size), h2, own_lower h3 hb.size⟩
   have HLT : Hid (∀ (v9 : Value) (W : World), Below wD.heap.size wD W → SrcS W v9 us → Calls Tryz.prog 49 #[.int .i64 R, .int .i64 0, v9, av] W (fun e w8 => ∃ la lc ea ec, e = .returned (.agg #[.int .i64 R, .int .i64 0, .slice la Ls.length lc, .slice ea Es.length ec]) ∧ Below wD.heap.size wD w8 ∧ Below W.heap.size W w8
     ∧ w8.ownsRow wD.heap.size 9 1 (.slice la Ls.length lc) Ls.length (Ls.map .string) ∧ w8.ownsRow wD.heap.size 68 3 (.slice ea Es.length ec) Es.length (Es.flatMap encE))) := by
    intro v9 W hb h1
    have h3 := lts_any B R 0 us (arcsOf t S0) v9 av W h1 ((SliceK.of_owns (enc := encC) encC_len rfl HAR.out).below hb) (by rw [hul]; exact hal) hal Ls (by rw [hLs, hus]; rfl) (by rw [hLs]; exact arc_mem HV.out HGD.out) (by rw [hLs]; exact sys_rise HV.out HGD.out HUP.out)
    have hEs2 : (arcsOf t S0).map (edgeIn Ls) = Es := by rw [hEs, hLs]; rfl
    rw [hEs2] at h3
    refine h3.mono ?_
    rintro e w8 ⟨lv8, ev8, h4, h5, h6, h7⟩
    obtain ⟨la, lc, rfl, -, -⟩ := owns_slice h6
    obtain ⟨ea, ec, rfl, -, -⟩ := owns_slice h7
    exact ⟨la, lc, ea, ec, h4, hb.trans (h5.mono hb.size), h5, own_lower h6 hb.size, own_lower h7 hb.size⟩
   have HLs := Lib.hid hLs
   have HEs := Lib.hid hEs
   have hDZ : Below wD.heap.size wD ((wD.alloc (.cells #[.int .i64 0, .int .i64 0, .slice none 0 0, .slice none 0 0] 27)).drew) := ((Below.refl _ _).alloc (Nat.le_refl _) _).drew
   have BZ : Blk ((wD.alloc (.cells #[.int .i64 0, .int .i64 0, .slice none 0 0, .slice none 0 0] 27)).drew) wD.heap.size [.int .i64 0, .int .i64 0, .slice none 0 0, .slice none 0 0] 27 := (Blk.new wD _ _)
   have HDZ := Lib.hid hDZ
   have HBZ := Lib.hid BZ
   have HDD := Lib.hid hD
   clear hfe hus hLs hEs hDZ BZ hD
   go_wp2
   go_region_held3 (fun w' => w'.cell? ⟨pb, 0, none⟩ = some (.pointer (some ⟨xb, 0, none⟩)) ∧ w'.cell? ⟨xb, 0, none⟩ = some (.slice sa R cs) ∧ w'.cell? ⟨xb, 2, none⟩ = some av)
    (first
     | (refine ⟨?_, ?_, ?_⟩ <;> with_reducible assumption)
     | (refine ⟨?_, ?_, ?_⟩ <;> (rw [World.cell?_setCell_far _ _ _ _ (by first | exact fun e => np e.symm | exact fun e => nx e.symm), World.cell?_setCell_far _ _ _ _ (by first | exact fun e => np e.symm | exact fun e => nx e.symm), World.cell?_setCell_far _ _ _ _ (by first | exact fun e => np e.symm | exact fun e => nx e.symm), World.cell?_setCell_far _ _ _ _ (by first | exact fun e => np e.symm | exact fun e => nx e.symm)]; with_reducible assumption))
     | go_keep)
    (first
     | (go_at_call 88; refine Calls.mono (HLO.out _ (by first | with_reducible exact HDD.out | with_reducible exact HDZ.out)) ?_; rintro e w9 ⟨v9, rfl, hw9, hb9, ho9⟩; have k0 := keeps hw9 hpl p0; have k1 := keeps hw9 hxl x0; have k2 := keeps hw9 hxl x2; (try (have QZ : Hid (Blk w9 wD.heap.size [.int .i64 0, .int .i64 0, .slice none 0 0, .slice none 0 0] 27) := Lib.hid (by with_reducible exact HBZ.out.below hb9))); have HSL := Lib.hid (SrcS.of_own ho9))
     | (go_at_call 49; refine Calls.mono (HLT.out v9 _ (by first | with_reducible exact hw9 | with_reducible exact hw9.alloc hw9.size _) (by first | with_reducible exact HSL.out | with_reducible exact HSL.out.below (box_below9 _ _ _))) ?_; rintro e w8 ⟨la, lc, ea, ec, rfl, hw8, hb8, ho8, he8⟩; have k4 := keeps hw8 hpl p0; have k5 := keeps hw8 hxl x0; have k6 := keeps hw8 hxl x2; ((try (have QY : Blk w8 wD.heap.size [.int .i64 0, .int .i64 0, .slice none 0 0, .slice none 0 0] 27 := by with_reducible exact QZ.out.below hb8)); (try (have q0 := QY.cell 0 rfl; have q1 := QY.cell 1 rfl; have q2 := QY.cell 2 rfl; have q3 := QY.cell 3 rfl; have f0 := QY.frozen 0; have f1 := QY.frozen 1; have f2 := QY.frozen 2; have f3 := QY.frozen 3; have hq := QY.lt; have np : pb ≠ wD.heap.size := (by omega); have nx : xb ≠ wD.heap.size := (by omega)))); ((have HN9 := blk_new9 w9); (try (have QX : Blk w8 w9.heap.size [.int .i64 0, .int .i64 0, .slice none 0 0, .slice none 0 0] 27 := by with_reducible exact HN9.below hb8)); (try (have q0 := QX.cell 0 rfl; have q1 := QX.cell 1 rfl; have q2 := QX.cell 2 rfl; have q3 := QX.cell 3 rfl; have f0 := QX.frozen 0; have f1 := QX.frozen 1; have f2 := QX.frozen 2; have f3 := QX.frozen 3; have hq := QX.lt; have np : pb ≠ w9.heap.size := (by have := hw9.size; omega); have nx : xb ≠ w9.heap.size := (by have := hw9.size; omega))))))
   all_goals (
    first
     | (
      have h1 := four_sets (v0 := .int .i64 R) (v1 := .int .i64 0) (v2 := .slice la Ls.length lc) (v3 := .slice ea Es.length ec) QX hw8 hw9.size
      have hle := h1.2.2 ho8 (by decide)
      have hee := h1.2.2 he8 (by decide)
      have hwe := h1.1
      have hbe := h1.2.1
      have hlo : wD.heap.size ≤ w9.heap.size := hw9.size
      obtain ⟨WE, hWE⟩ : ∃ WE, WE = (((w8.setCell ⟨w9.heap.size, 0, none⟩ (.int .i64 R)).setCell ⟨w9.heap.size, 1, none⟩ (.int .i64 0)).setCell ⟨w9.heap.size, 2, none⟩ (.slice la Ls.length lc)).setCell ⟨w9.heap.size, 3, none⟩ (.slice ea Es.length ec) := ⟨_, rfl⟩
      rw [← hWE] at hle hee hwe hbe ⊢
      obtain ⟨b12, hb12⟩ : ∃ b12, b12 = w9.heap.size := ⟨_, rfl⟩
      rw [← hb12] at hbe hlo ⊢
      clear hWE hb12 h1)
     | (
      have h1 := four_sets (v0 := .int .i64 R) (v1 := .int .i64 0) (v2 := .slice la Ls.length lc) (v3 := .slice ea Es.length ec) QY hw8 (Nat.le_refl _)
      have hle := h1.2.2 ho8 (by decide)
      have hee := h1.2.2 he8 (by decide)
      have hwe := h1.1
      have hbe := h1.2.1
      obtain ⟨WE, hWE⟩ : ∃ WE, WE = (((w8.setCell ⟨wD.heap.size, 0, none⟩ (.int .i64 R)).setCell ⟨wD.heap.size, 1, none⟩ (.int .i64 0)).setCell ⟨wD.heap.size, 2, none⟩ (.slice la Ls.length lc)).setCell ⟨wD.heap.size, 3, none⟩ (.slice ea Es.length ec) := ⟨_, rfl⟩
      rw [← hWE] at hle hee hwe hbe ⊢
      obtain ⟨b12, hb12⟩ : ∃ b12, b12 = wD.heap.size := ⟨_, rfl⟩
      have hlo : wD.heap.size ≤ b12 := Nat.le_of_eq hb12.symm
      rw [← hb12] at hbe ⊢
      clear hWE hb12 h1)
     | (
      have hle : (w8.alloc (.cells #[.int .i64 R, .int .i64 0, .slice la Ls.length lc, .slice ea Es.length ec] 27)).ownsRow wD.heap.size 9 1 (.slice la Ls.length lc) Ls.length (Ls.map .string) := ho8.alloc _
      have hee : (w8.alloc (.cells #[.int .i64 R, .int .i64 0, .slice la Ls.length lc, .slice ea Es.length ec] 27)).ownsRow wD.heap.size 68 3 (.slice ea Es.length ec) Es.length (Es.flatMap encE) := he8.alloc _
      have hwe : Below wD.heap.size wD (w8.alloc (.cells #[.int .i64 R, .int .i64 0, .slice la Ls.length lc, .slice ea Es.length ec] 27)) := hw8.alloc hw8.size _
      have hbe : Blk (w8.alloc (.cells #[.int .i64 R, .int .i64 0, .slice la Ls.length lc, .slice ea Es.length ec] 27)) w8.heap.size [.int .i64 R, .int .i64 0, .slice la Ls.length lc, .slice ea Es.length ec] 27 := Blk.new w8 _ _
      have hlo : wD.heap.size ≤ w8.heap.size := hw8.size
      obtain ⟨WE, hWE⟩ : ∃ WE, WE = w8.alloc (.cells #[.int .i64 R, .int .i64 0, .slice la Ls.length lc, .slice ea Es.length ec] 27) := ⟨_, rfl⟩
      rw [← hWE] at hle hee hwe hbe ⊢
      obtain ⟨b12, hb12⟩ : ∃ b12, b12 = w8.heap.size := ⟨_, rfl⟩
      rw [← hb12] at hbe hlo ⊢
      clear hWE hb12)
    have HLE := Lib.hid hle
    have HEE2 := Lib.hid hee
    have HWE := Lib.hid hwe
    have HBE := Lib.hid hbe
    clear hle hee hwe hbe
    have hWd : Below WE.heap.size WE WE.drew := (Below.refl _ _).drew
    have hDW : Below wD.heap.size wD WE.drew := HWE.out.trans (hWd.mono HWE.out.size)
    have hgl : Glob WE.drew := HG.out.below (by have h9 := HB4.out.trans (hDW.mono hszD); rw [HB.out] at h9; exact h9)
    obtain ⟨bv, hbv, HVL⟩ : ∃ bv : Bool, (bv = true ↔ DSmall S0) ∧ Hid (Calls Tryz.prog 15 #[.agg #[.int .i64 R, .int .i64 0, .slice la Ls.length lc, .slice ea Es.length ec]] WE.drew fun e w' => e = .returned (.bool bv) ∧ Below WE.drew.heap.size WE.drew w') := by
     have h1 := ValidLts_any wD.heap.size (sysOf t S0) (.slice la Ls.length lc) (.slice ea Es.length ec) WE.drew (sys_short HV.out HGD.out HSH.out)
      (by have h9 := (SliceK.of_owns (enc := encS) encS_len rfl (by rw [flat_encS]; exact HLE.out)).below hWd; rw [HLs.out] at h9 ⊢; exact h9)
      (by have h9 := (SliceK.of_owns (enc := encE) encE_len rfl HEE2.out).below hWd; rw [HEs.out] at h9 ⊢; exact h9) hgl
     have h2 : (sysOf t S0).states = (R : Int) := by rw [HR.out]; rfl
     have h3 : (sysOf t S0).initial = 0 := rfl
     rw [h2, h3] at h1
     have h4 := sys_valid HV.out HGD.out HUP.out
     by_cases hs : DSmall S0
     ·exact ⟨true, by simp [hs], Decides.yes h1 (h4.2 hs)⟩
     ·exact ⟨false, by simp [hs], Decides.no h1 (fun h => hs (h4.1 h))⟩
    have HBV := Lib.hid hbv
    have hlb := HBE.out.lt
    have hpW : pb < WE.heap.size := by have := HWE.out.size; omega
    have hxW : xb < WE.heap.size := by have := HWE.out.size; omega
    have b0 := keeps hWd hlb (HBE.out.cell 0 rfl)
    have b1 := keeps hWd hlb (HBE.out.cell 1 rfl)
    have b2 := keeps hWd hlb (HBE.out.cell 2 rfl)
    have b3 := keeps hWd hlb (HBE.out.cell 3 rfl)
    have b4 := keeps hDW hpl p0
    have b5 := keeps hDW hxl x0
    have hrl := HX4.out.res.lt
    have hnb : b12 ≠ rb := by omega
    have hnp : pb ≠ rb := blk_blk_ne HX4.out.ptr HX4.out.res (by decide)
    have hnx : xb ≠ rb := blk_blk_ne HX4.out.box HX4.out.res (by decide)
    have HDWW := Lib.hid hDW
    clear hbv hWd hDW hgl k0 k1 k2 k4 k5 k6
    go_wp2
    go_region_held3 (fun w' => w'.cell? ⟨b12, 0, none⟩ = some (.int .i64 R) ∧ w'.cell? ⟨b12, 1, none⟩ = some (.int .i64 0) ∧ w'.cell? ⟨b12, 2, none⟩ = some (.slice la Ls.length lc) ∧ w'.cell? ⟨b12, 3, none⟩ = some (.slice ea Es.length ec) ∧ w'.cell? ⟨pb, 0, none⟩ = some (.pointer (some ⟨xb, 0, none⟩)) ∧ w'.cell? ⟨xb, 0, none⟩ = some (.slice sa R cs))
     (first
      | (refine ⟨?_, ?_, ?_, ?_, ?_, ?_⟩ <;> with_reducible assumption)
      | (refine ⟨?_, ?_, ?_, ?_, ?_, ?_⟩ <;> (rw [World.cell?_setCell_far _ _ _ _ (by first | exact fun e => hnb e.symm | exact fun e => hnp e.symm | exact fun e => hnx e.symm), World.cell?_setCell_far _ _ _ _ (by first | exact fun e => hnb e.symm | exact fun e => hnp e.symm | exact fun e => hnx e.symm), World.cell?_setCell_far _ _ _ _ (by first | exact fun e => hnb e.symm | exact fun e => hnp e.symm | exact fun e => hnx e.symm), World.cell?_setCell_far _ _ _ _ (by first | exact fun e => hnb e.symm | exact fun e => hnp e.symm | exact fun e => hnx e.symm)]; with_reducible assumption))
      | go_keep)
     (first
      | (go_at_call 15; refine Calls.mono HVL.out ?_; rintro e wV ⟨rfl, hbV⟩; have c0 := keeps hbV (by simp; omega) b0; have c1 := keeps hbV (by simp; omega) b1; have c2 := keeps hbV (by simp; omega) b2; have c3 := keeps hbV (by simp; omega) b3; have c4 := keeps hbV (by simp; omega) b4; have c5 := keeps hbV (by simp; omega) b5; have HDV := Lib.hid (HDWW.out.trans (hbV.mono HDWW.out.size)); have HRV := Lib.hid (HX4.out.res.below HDV.out); have r0 := HRV.out.cell 0 rfl; have r1 := HRV.out.cell 1 rfl; have r2 := HRV.out.cell 2 rfl; have r3 := HRV.out.cell 3 rfl; have s0 := HRV.out.frozen 0; have s1 := HRV.out.frozen 1; have s2 := HRV.out.frozen 2; have s3 := HRV.out.frozen 3; have HBVV := Lib.hid hbV))
    all_goals (
     have hBV := HB4.out.trans (HDV.out.mono hszD)
     have hrB := HX4.out.rbase
     have hLV := own_lower (owns_below (owns_below HLE.out (Below.drew (Below.refl _ _))) HBVV.out) hszD
     have hEV := own_lower (owns_below (owns_below HEE2.out (Below.drew (Below.refl _ _))) HBVV.out) hszD
     have hIV := HX4.out.rows.below HDV.out
     have HA1 := Lib.hid hBV
     have HA2 := Lib.hid hLV
     have HA3 := Lib.hid hEV
     have HA4 := Lib.hid hIV
     clear hBV hLV hEV hIV
     go_wp2
     refine bodyPost_ret (expl_results rfl ((((HRV.out.set 0 _).set 1 _).set 2 _).set 3 _)) rfl ?_
     refine ⟨(((HA1.out.setCell hrB _).setCell hrB _).setCell hrB _).setCell hrB _, ?_⟩
     cases bv
     ·exact .inl ⟨found_full HFD.out HGD.out.some (fun h => by have := HBV.out.2 h; cases this), _, _, _, _, _, _, _, _, _, rfl⟩
     ·refine .inr ⟨S0, .slice la Ls.length lc, .slice ea Es.length ec, _, ⟨HFD.out, HBV.out.1 rfl⟩, HGD.out, HUP.out, by rw [← HR.out]; rfl, ?_, ?_, vs, ?_⟩
      ·rw [← HLs.out]; exact own4 HRV.out HA2.out (by decide)
      ·rw [← HEs.out]; exact own4 HRV.out HA3.out (by decide)
      ·exact (((HA4.out.set1 HRV.out (by decide) (by decide) 0 _).set1 (HRV.out.set 0 _) (by decide) (by decide) 1 _).set1 ((HRV.out.set 0 _).set 1 _) (by decide) (by decide) 2 _).set1 (((HRV.out.set 0 _).set 1 _).set 2 _) (by decide) (by decide) 3 _))

end Go.Proofs.YthofaoabgbgbdaaGreatDoor

namespace Go.Proofs.YthofaoabgbgbdaaGreatDoor
open Go Go.RowKit

set_option maxRecDepth 100000 in
set_option maxHeartbeats 1000000 in
theorem l14List_any (lo : Nat) (v : Value) (l : List Bool) (w : World) (hsmall : l.length ≤ 1073741824) (hv : SliceK 1 encB lo w v l) : Calls Tryz.prog 100 #[v] w (MadeNums (truesTo l l.length) w) := by
 obtain ⟨a, cap, rfl, hn, hcap, hrow⟩ := hv
 obtain ⟨i0, hi, hz0, hz1, hz2⟩ := info_parts info_int64
 go_enter Tryz.func100, Tryz.ntmps100
 go_wp2
 go_loopw [3, 4] (fun v i wr => ∃ k : Nat, k ≤ l.length ∧ i = .int .i64 k ∧ Below w.heap.size w wr ∧ wr.ownsRow w.heap.size 2 1 v (truesTo l k).length ((truesTo l k).map (Value.int .i64))) (fun _ i _ => l.length - (intOf i).toNat)
 case atStart => exact ⟨0, Nat.zero_le _, rfl, (Below.refl _ _).alloc (Nat.le_refl _) _, World.ownsRow_lit (size := 1) w #[] 0 (Nat.le_refl _) (by simp [maxLen]) rfl⟩
 case round =>
  obtain ⟨k, hk, rfl, hbl, ho⟩ := hrel
  have HBL := Lib.hid hbl
  have HO := Lib.hid ho
  have hsz := hbl.size
  have hfl := truesTo_len l k
  have HT := Lib.hid (truesTo_succ l k)
  clear hbl ho
  by_cases hlt : k < l.length
  ·obtain ⟨b, o, rfl, -, hb, c⟩ := (hrow.below HBL.out).one hlt
   simp only [encB, List.getElem?_cons_zero] at c
   have hgd : l[k] = l.getD k false := by simp [List.getD, hlt]
   rw [hgd] at c
   clear hrow hgd
   cases hg : l.getD k false
   ·rw [hg] at c HT
    clear hg
    go_wp2
    go_roundw
    case rel => exact ⟨k + 1, by omega, by go_num, HBL.out, by rw [HT.out]; simpa using HO.out⟩
    case measure => simp [intOf]; omega
   ·rw [hg] at c HT
    clear hg
    obtain ⟨fs, hfs⟩ : ∃ fs, fs = truesTo l k := ⟨_, rfl⟩
    rw [← hfs] at HO HT hfl
    clear hfs
    go_wp2_with (at_builtin; refine wpList_append_own _ rfl _ _ 34 rfl w.heap.size 2 i0 (.int .i64 0) 1 8 Tryz.underlying34 hi hz0 hz1 hz2 rfl (by decide) _ _ _ rfl (HO.out.alloc _) ⟨wr.heap.size, 0, none⟩ 1 1 [.int .i64 k] rfl rfl ?c1 ?c2 ?c3 ?c4 ?c5 ?_)
    case c2 => rfl
    case c3 => simp [maxLen]; omega
    case c4 => omega
    case c5 => omega
    intro v' w3 ho1 hg1 _
    have HO2 : Hid (w3.ownsRow w.heap.size 2 1 v' (fs ++ [(k : Int)]).length ((fs ++ [(k : Int)]).map (Value.int .i64))) := by
     unfold Hid
     rw [List.length_append, List.map_append]
     exact ho1
    have HB2 : Hid (Below w.heap.size w w3) := (HBL.out.alloc hsz _).grown hg1 (by simp; omega) (fun b e => (HO.out.lt b e).1)
    clear ho1 hg1
    go_wp2
    go_roundw
    case rel => exact ⟨k + 1, by omega, by go_num, HB2.out, by rw [HT.out, if_pos trivial]; exact HO2.out⟩
    case measure => simp [intOf]; omega
  ·clear hrow
   go_wp2
   go_ret
   obtain rfl : k = l.length := by omega
   exact ⟨_, rfl, HBL.out, HO.out⟩

/-- A list of truth values of the call's own. -/
def MadeBools (n : Nat) (P : List Bool → Prop) (w : World) (e : Ending) (w' : World) : Prop :=
 ∃ (g : Nat) (l : List Bool), e = .returned (.slice (some ⟨g, 0, none⟩) n n) ∧ P l ∧ Below w.heap.size w w' ∧ w'.ownsRow w.heap.size 4 1 (.slice (some ⟨g, 0, none⟩) n n) n (l.map Value.bool)

/-- True just at the numbers in s. -/
def MarkOf (n : Nat) (s : List Int) (l : List Bool) : Prop := l.length = n ∧ ∀ x, inL l x ↔ x ∈ s
theorem MarkOf.start (n : Nat) : MarkOf n [] (List.replicate n false) := by
 refine ⟨List.length_replicate, fun x => ⟨fun h => ?_, fun h => by simp at h⟩⟩
 have h1 := h.2
 rw [List.getElem?_replicate] at h1
 split at h1 <;> simp at h1
theorem MarkOf.set {n : Nat} {s : List Int} {l : List Bool} (h : MarkOf n s l) {x : Int} (h0 : 0 ≤ x) (h1 : x < n) : MarkOf n (s ++ [x]) (l.set x.toNat true) := by
 refine ⟨by rw [List.length_set]; exact h.1, fun y => ?_⟩
 rw [List.mem_append, List.mem_singleton, ← h.2 y]
 unfold inL
 rw [set_true_get (by have := h.1; omega)]
 constructor
 ·rintro ⟨hy, h2 | h2⟩
  ·exact .inr (by omega)
  ·exact .inl ⟨hy, h2⟩
 ·rintro (h2 | rfl)
  ·exact ⟨h2.1, .inr h2.2⟩
  ·exact ⟨h0, .inl rfl⟩

theorem info_bool16 : (Tryz.prog.info? 4).map (fun i => (i.zero, i.size, i.bytes)) = some (some (.bool false), 1, 1) := by kernel_rfl

set_option maxRecDepth 100000 in
set_option maxHeartbeats 2000000 in
theorem l12Marks_any (p lo lo2 : Nat) (t : Lts) (v : Value) (s : List Int) (w : World) (h1 : 1 ≤ t.states) (h2 : t.states ≤ 40) (hs : ∀ x ∈ s, 0 ≤ x ∧ x < t.states) (hp : LtsPtr lo w p t) (hv : SliceK 1 encI lo2 w v s) :
  Calls Tryz.prog 98 #[.pointer (some ⟨p, 0, none⟩), v] w (MadeBools t.states.toNat (MarkOf t.states.toNat s) w) := by
 obtain ⟨lv, ev, hpl, q0, -⟩ := hp
 obtain ⟨a, cap, rfl, hn, hcap, hrow⟩ := hv
 obtain ⟨N, hN⟩ : ∃ N : Nat, (N : Int) = t.states := ⟨t.states.toNat, by omega⟩
 rw [← hN] at q0 h1 h2 hs ⊢
 rw [Int.toNat_natCast]
 have HS := Lib.hid hs
 obtain ⟨ib, hib, hzb0, hzb1, hzb2⟩ := info_parts info_bool16
 clear hN hs
 go_enter Tryz.func98, Tryz.ntmps98
 go_wp2_with (at_make; refine wpList_make_full _ rfl _ _ 58 rfl w.heap.size 4 ib _ 1 Tryz.underlying58 hib hzb0 hzb1 .i64 .i64 _ _ N rfl rfl rfl rfl ?_ ?_ ?_ ?_)
 ·rw [hzb2]; omega
 ·simp [maxLen]; omega
 ·exact Nat.le_refl _
 intro w1 ho hg
 rw [toList_madeCells_one] at ho
 obtain ⟨G, hG⟩ : ∃ G, G = w.heap.size := ⟨_, rfl⟩
 have HB1 : Hid (Below w.heap.size w w1) := (Below.refl _ w).grown hg (Nat.le_refl _) (fun _ h => by cases h)
 rw [← hG] at ho ⊢
 have HO : Hid (w1.ownsRow G 4 1 (.slice (some ⟨G, 0, none⟩) N N) N ((List.replicate N false).map Value.bool)) := by
  unfold Hid; simpa using ho
 have HG := Lib.hid hG
 clear ho hg hG hib hzb0 hzb1 hzb2
 go_wp2
 go_loopw [6] (fun i wr => ∃ (k : Nat) (l : List Bool), k ≤ s.length ∧ i = .int .i64 k ∧ MarkOf N (s.take k) l ∧ Below w.heap.size w wr ∧ wr.ownsRow G 4 1 (.slice (some ⟨G, 0, none⟩) N N) N (l.map Value.bool)) (fun i _ => s.length - (intOf i).toNat)
 case atStart => exact ⟨0, List.replicate N false, Nat.zero_le _, rfl, MarkOf.start N, HB1.out, HO.out⟩
 case round =>
  clear HO HB1
  obtain ⟨k, l, hk, rfl, hm, hbl, ho⟩ := hrel
  have HM := Lib.hid hm
  have HBL := Lib.hid hbl
  have HO := Lib.hid ho
  have hll := hm.1
  clear hbl ho hm
  by_cases hlt : k < s.length
  ·obtain ⟨b, o, rfl, -, hb, c⟩ := (hrow.below HBL.out).one hlt
   simp only [encI, List.getElem?_cons_zero] at c
   have hin := HS.out _ (List.getElem_mem hlt)
   have HT : Hid (s.take (k + 1) = s.take k ++ [s[k]]) := List.take_succ_eq_append_getElem hlt
   obtain ⟨x, hx⟩ : ∃ x, x = s[k] := ⟨_, rfl⟩
   rw [← hx] at c hin HT
   obtain ⟨m, hm⟩ : ∃ m : Nat, (m : Int) = x := ⟨x.toNat, by omega⟩
   have hmn : m < N := by omega
   rw [← hm] at c HT
   have HO2 := Lib.hid (HO.out.stored m (.bool true)).1
   have c2 := cell_bool HO.out hmn
   have c3 := HO.out.frozenAt m
   clear hrow hx hin hm
   go_wp2
   go_roundw
   case rel =>
    refine ⟨k + 1, l.set m true, by omega, by go_num, ?_, HBL.out.setCell (by rw [HG.out]; exact Nat.le_refl _) _, ?_⟩
    ·rw [HT.out]
     exact HM.out.set (x := (m : Int)) (by omega) (by omega)
    ·rw [List.map_set]; exact HO2.out
   case measure => simp [intOf]; omega
  ·clear hrow
   go_wp2
   go_ret
   obtain rfl : k = s.length := by omega
   refine ⟨_, l, rfl, ?_, HBL.out, ?_⟩
   ·have := HM.out; rw [List.take_length] at this; exact this
   ·rw [← HG.out]; exact HO.out

end Go.Proofs.YthofaoabgbgbdaaGreatDoor
