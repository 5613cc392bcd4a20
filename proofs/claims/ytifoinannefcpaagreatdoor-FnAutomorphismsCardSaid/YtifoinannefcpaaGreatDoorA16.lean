/-
  The program's AutomorphismsOf and IsAutomorphism.
  The program's IsAutomorphism.
  The program's span: the blocks that pairs join.
  The program's OrbitPartition.
  What the reference's l14Tell goes through, plainly: the first edge that is not met, the formulas of the ends under its label.
  Rows of rows, filled and grown; appending one row to another in a region. Plain and memory notions for refine.
  The sets of codes are added to the keys: what stands between the rounds.
-/
import Derived.Test.YtifoinannefcpaaGreatDoorA15
import Derived.Test.YtifoinannefcpaaGreatDoorA9
import Derived.Test.YtifoinannefcpaaGreatDoorA14
import Derived.Test.YtifoinannefcpaaGreatDoorA3
import Derived.Test.YtifoinannefcpaaGreatDoorA6
import Derived.Deep.AppendLies
namespace Go.Proofs.YtifoinannefcpaaGreatDoor
open Go Go.RowKit


def rowI (o : List Int) : List Value := o.map (Value.int .i64)
theorem pile_of {lo : Nat} {w : World} {v : Value} {vs : List Value} {os : List (List Int)} (h : OwnIntss 32 2 lo w v vs os) : Pile 2 lo w vs (os.map rowI) := by
 obtain ⟨h1, -, h3, h4, -⟩ := h
 refine ⟨by simpa using h1, fun i hi hi' => ?_, h4⟩
 have := h3 i hi (by omega)
 simpa [rowI] using this
theorem pick_filter {α : Type} (L : List α) (d : α) (p : α → Bool) : ((List.range L.length).filter fun i => p (L.getD i d)).map (fun i => L.getD i d) = L.filter p := by
 have h1 : (List.range L.length).map (fun i => L.getD i d) = L := by
  apply List.ext_getElem
  ·simp
  ·intro i h1 h2
   rw [List.getElem_map, List.getElem_range, List.getD_eq_getElem?_getD, List.getElem?_eq_getElem h2]
   rfl
 conv => rhs; rw [← h1]
 rw [List.filter_map]
 rfl
/-- The rows that are kept. -/
theorem kept_rows {lo : Nat} {w : World} {v : Value} {vs : List Value} {L : List (List Int)} {p : List Int → Bool} {P : Nat → Bool} (hP : ∀ i, P i = !p (L.getD i [])) (hp : Pile 2 lo w vs (L.map rowI)) (ho : w.ownsRow lo 32 1 v (keepP P vs.length).length ((keepP P vs.length).map (hdL vs))) :
  ∃ a c, v = .slice a (L.filter p).length c ∧ IntssAt lo w v (L.filter p) := by
 have hl : vs.length = L.length := by have := hp.len; simpa using this
 have hk : keepP P vs.length = (List.range L.length).filter fun i => p (L.getD i []) := by
  unfold keepP
  rw [hl]
  refine List.filter_congr fun i _ => ?_
  rw [hP, Bool.not_not]
 have hf : (keepP P vs.length).map (fun i => L.getD i []) = L.filter p := by rw [hk]; exact pick_filter L [] p
 have hnd : (keepP P vs.length).Nodup := by unfold keepP; exact List.Pairwise.sublist List.filter_sublist List.nodup_range
 have hlt : ∀ i ∈ keepP P vs.length, i < vs.length := fun i hi => List.mem_range.1 (List.mem_filter.1 hi).1
 have hq := hp.pick (keepP P vs.length) hnd hlt (.slice none 0 0)
 have hlen : (L.filter p).length = (keepP P vs.length).length := by rw [← hf, List.length_map]
 obtain ⟨a, c, rfl, -, -⟩ := owns_slice ho
 refine ⟨a, c, by rw [hlen], (keepP P vs.length).map (hdL vs), by rw [List.length_map, hlen], SliceK.of_owns (e := 32) encV_len (by rw [List.length_map]) (by rw [flat_encV]; exact ho), fun i hi hi' => ?_⟩
 have hi2 : i < (keepP P vs.length).length := by rw [List.length_map] at hi; exact hi
 have hr := hq.row i (by rw [List.length_map]; exact hi2) (by rw [List.length_map]; exact hi2)
 have e1 : (L.filter p)[i] = L.getD (keepP P vs.length)[i] [] := by
  have h : (L.filter p)[i]? = ((keepP P vs.length).map (fun i => L.getD i []))[i]? := by rw [hf]
  rw [List.getElem?_eq_getElem hi', List.getElem?_map, List.getElem?_eq_getElem hi2] at h
  exact Option.some.inj h
 have hj := hlt _ (List.getElem_mem hi2)
 have e2 : (List.map rowI L).getD (keepP P vs.length)[i] [] = rowI (L.getD (keepP P vs.length)[i] []) := by
  rw [List.getD_eq_getElem?_getD, List.getD_eq_getElem?_getD, List.getElem?_map, List.getElem?_eq_getElem (by omega)]
  rfl
 simp only [List.getElem_map] at hr ⊢
 rw [e2] at hr
 rw [e1]
 refine SliceK.of_owns (e := 2) encI_len rfl ?_
 rw [flat_encI]
 have e3 : (rowI (L.getD (keepP P vs.length)[i] [])).length = (L.getD (keepP P vs.length)[i] []).length := by unfold rowI; rw [List.length_map]
 rw [e3] at hr
 exact hr

set_option maxRecDepth 100000 in
set_option maxHeartbeats 1000000 in
theorem auL1_any (lo lo2 tb : Nat) (t : Lts) (lv ev ov : Value) (o : List Int) (w : World) (hv : Valid t) (hord : OrdO t.states.toNat o) (hl : SliceK 1 encS lo w lv t.labels) (he : SliceK 3 encE lo w ev t.edges) (hov : SliceK 1 encI lo2 w ov o) (hb : Blk w tb [.int .i64 t.states, .int .i64 t.initial, lv, ev] 27) :
  Calls Tryz.prog 20 #[ov, .pointer (some ⟨tb, 0, none⟩)] w fun e w' => e = .returned (.bool (!autB t o)) ∧ Below w.heap.size w w' := by
 have HA := Lib.hid (automorphism_any lo lo2 t lv ev ov o w hv hord hl he hov)
 obtain ⟨b, hbb⟩ : ∃ b, b = autB t o := ⟨_, rfl⟩
 rw [← hbb] at HA ⊢
 have x0 := hb.cell 0 rfl
 have x1 := hb.cell 1 rfl
 have x2 := hb.cell 2 rfl
 have x3 := hb.cell 3 rfl
 obtain ⟨al, cl, rfl, -, -, -⟩ := hl
 obtain ⟨ae, ce, rfl, -, -, -⟩ := he
 obtain ⟨ao, co, rfl, -, -, -⟩ := hov
 clear hv hord hb hbb
 go_enter Tryz.func20, Tryz.ntmps20
 go_wp2_with fail
 refine Calls.mono HA.out ?_
 rintro e w1 ⟨rfl, hb1⟩
 have HB1 := Lib.hid hb1
 clear hb1 HA x0 x1 x2 x3
 cases b
 ·go_wp2
  go_ret
  exact ⟨rfl, HB1.out⟩
 ·go_wp2
  go_ret
  exact ⟨rfl, HB1.out⟩

/-- What AutomorphismsOf hands back. -/
def RetAuts (t : Lts) (w : World) (e : Ending) (w' : World) : Prop :=
 ∃ a c, e = .returned (.tuple #[.slice a (autsL t).length c, .int .i64 0]) ∧ Below w.heap.size w w' ∧ IntssAt w.heap.size w' (.slice a (autsL t).length c) (autsL t)
theorem IntssAt.lowerA {lo lo' : Nat} {w : World} {v : Value} {xss : List (List Int)} (h : IntssAt lo w v xss) (hl : lo' ≤ lo) : IntssAt lo' w v xss := by
 obtain ⟨vs, h1, h2, h3⟩ := h
 exact ⟨vs, h1, h2.mono hl, fun i a b => (h3 i a b).mono hl⟩

set_option maxRecDepth 100000 in
set_option maxHeartbeats 4000000 in
theorem AutomorphismsOf_any (lo : Nat) (t : Lts) (lv ev : Value) (w : World) (hv : Valid t) (h6 : t.states ≤ 6) (hsh : Short20 t.labels) (hl : SliceK 1 encS lo w lv t.labels) (he : SliceK 3 encE lo w ev t.edges) (g : Glob w) :
  Calls Tryz.prog 6 #[.agg #[.int .i64 t.states, .int .i64 t.initial, lv, ev]] w (RetAuts t w) := by
 obtain ⟨N, hN⟩ : ∃ N : Nat, (N : Int) = t.states := ⟨t.states.toNat, by have := hv.st0; omega⟩
 have hNN : t.states.toNat = N := by omega
 have hN6 : N ≤ 6 := by omega
 obtain ⟨tb, htb⟩ : ∃ tb, tb = w.heap.size := ⟨_, rfl⟩
 obtain ⟨W, hW⟩ : ∃ W, W = w.alloc (.cells #[.int .i64 N, .int .i64 t.initial, lv, ev] 27) := ⟨_, rfl⟩
 have hbW : Below w.heap.size w W := by rw [hW]; exact (Below.refl _ _).alloc (Nat.le_refl _) _
 have hT : Blk W tb [.int .i64 N, .int .i64 t.initial, lv, ev] 27 := by rw [hW, htb]; exact Blk.new w _ _
 have hVAL := Decides.yes (ValidLts_any lo t lv ev W hsh (hl.below hbW) (he.below hbW) (g.below hbW)) hv
 rw [← hN] at hVAL
 have HVA := Lib.hid hVAL
 have HV := Lib.hid hv
 have HL := Lib.hid (hl.below hbW)
 have HE := Lib.hid (he.below hbW)
 have HT := Lib.hid hT
 have HB := Lib.hid hbW
 have HW := Lib.hid hW
 have HNN := Lib.hid hNN
 have HTB := Lib.hid htb
 have HNI := Lib.hid hN
 have x0 := hT.cell 0 rfl
 have x1 := hT.cell 1 rfl
 have x2 := hT.cell 2 rfl
 have x3 := hT.cell 3 rfl
 have htw := hT.lt
 have hgt : ¬ (6 : Int) < (N : Int) := by omega
 obtain ⟨al, cl, rfl, -, -, -⟩ := hl
 obtain ⟨ae, ce, rfl, -, -, -⟩ := he
 rw [← hN]
 clear hv hsh g hbW hT hW hNN htb hVAL hN
 go_enter Tryz.func6, Tryz.ntmps6
 go_wp2_with fail
 rw [← HW.out, ← HTB.out]
 refine Calls.mono HVA.out ?_
 rintro e w1 ⟨rfl, hb1⟩
 have HB1 := Lib.hid hb1
 have y0 := keeps hb1 htw x0
 have hor := orders_any N w1 hN6
 have HOR := Lib.hid hor
 clear hb1 hor x0 x1 x2 x3 HVA
 go_wp2_with fail
 refine Calls.mono HOR.out ?_
 rintro e w2 ⟨v2, vs, rfl, hb2, ho2⟩
 have hs1 : W.heap.size ≤ w1.heap.size := HB1.out.size
 have hbW2 : Below W.heap.size W w2 := HB1.out.trans (hb2.mono hs1)
 have hoW := OwnIntss.lower ho2 hs1
 have hDF := DeleteFuncL W.heap.size v2 vs ((ordsL N N).map rowI) 20 #[.pointer (some ⟨tb, 0, none⟩)] (fun i => !autB t ((ordsL N N).getD i [])) W w2 (pile_of hoW) hoW.2.1 hbW2 hbW2.size (fun args w => by kernel_rfl)
  (fun w' hb' hp' i hi => by
   have hlen : vs.length = (ordsL N N).length := ho2.1
   have hi2 : i < (ordsL N N).length := by omega
   have hmem : OrdO N (ordsL N N)[i] := ords_iff.1 (List.getElem_mem hi2)
   have hrow := hp'.row i hi (by rw [List.length_map]; exact hi2)
   rw [List.getElem_map] at hrow
   have hsl : SliceK 1 encI W.heap.size w' vs[i] (ordsL N N)[i] := SliceK.of_owns (e := 2) encI_len (show (rowI (ordsL N N)[i]).length = (ordsL N N)[i].length by unfold rowI; rw [List.length_map]) (by rw [flat_encI]; exact hrow)
   have hT' := HT.out.below hb'
   rw [HNI.out] at hT'
   rw [getD_eq2 hi2]
   exact auL1_any lo W.heap.size tb t _ _ vs[i] (ordsL N N)[i] w' HV.out (by rw [HNN.out]; exact hmem) (HL.out.below hb') (HE.out.below hb') hsl hT')
 obtain ⟨a2, c2, rfl, -, -⟩ := owns_slice ho2.2.1
 have HDF := Lib.hid hDF
 clear hb2 ho2 hoW hbW2 hDF HOR y0
 go_wp2_with fail
 refine Calls.mono HDF.out ?_
 rintro e w3 ⟨v3, rfl, hb3, ho3, hp3⟩
 obtain ⟨a3, c3, rfl, hi3⟩ := kept_rows (p := autB t) (L := ordsL N N) (fun i => rfl) hp3 ho3
 have HR : Hid (RetAuts t w (.returned (.tuple #[.slice a3 ((ordsL N N).filter (autB t)).length c3, .int .i64 0])) w3) := by
  have e1 : autsL t = (ordsL N N).filter (autB t) := by rw [autsL_eq, HNN.out]
  unfold Hid RetAuts
  rw [e1]
  exact ⟨a3, c3, rfl, HB.out.trans (hb3.mono HB.out.size), hi3.lowerA HB.out.size⟩
 clear hb3 ho3 hp3 hi3 HDF
 go_wp2
 refine bodyPost_ret (results_tmp2 rfl _ _ _) rfl ?_
 exact HR.out

end Go.Proofs.YtifoinannefcpaaGreatDoor

namespace Go.Proofs.YtifoinannefcpaaGreatDoor
open Go Go.RowKit


set_option maxRecDepth 100000 in
set_option maxHeartbeats 4000000 in
theorem IsAutomorphism_any (lo lo2 : Nat) (t : Lts) (lv ev ov : Value) (o : List Int) (w : World) (hv : Valid t) (h6 : t.states ≤ 6) (hsh : Short20 t.labels) (hr : RiseE t.edges) (ha : AutO t o) (hl : SliceK 1 encS lo w lv t.labels) (he : SliceK 3 encE lo w ev t.edges) (hov : SliceK 1 encI lo2 w ov o) (g : Glob w) :
  Calls Tryz.prog 9 #[.agg #[.int .i64 t.states, .int .i64 t.initial, lv, ev], ov] w fun e w' => e = .returned (.tuple #[.bool true, .int .i64 0]) ∧ Below w.heap.size w w' := by
 obtain ⟨N, hN⟩ : ∃ N : Nat, (N : Int) = t.states := ⟨t.states.toNat, by have := hv.st0; omega⟩
 have hNN : t.states.toNat = N := by omega
 have hN6 : N ≤ 6 := by omega
 have hN1 : 1 ≤ N := by have := hv.st0; omega
 have hord := ha.ord
 have hab : autB t o = true := (autB_iff hr hord).2 ha
 obtain ⟨tb, htb⟩ : ∃ tb, tb = w.heap.size := ⟨_, rfl⟩
 obtain ⟨W, hW⟩ : ∃ W, W = w.alloc (.cells #[.int .i64 N, .int .i64 t.initial, lv, ev] 27) := ⟨_, rfl⟩
 have hbW : Below w.heap.size w W := by rw [hW]; exact (Below.refl _ _).alloc (Nat.le_refl _) _
 have hT : Blk W tb [.int .i64 N, .int .i64 t.initial, lv, ev] 27 := by rw [hW, htb]; exact Blk.new w _ _
 have hVAL := Decides.yes (ValidLts_any lo t lv ev W hsh (hl.below hbW) (he.below hbW) (g.below hbW)) hv
 rw [← hN] at hVAL
 have HVA := Lib.hid hVAL
 have HAU : Hid (∀ w', Below W.heap.size W w' → Calls Tryz.prog 21 #[.agg #[.int .i64 N, .int .i64 t.initial, lv, ev], ov] w' fun e w'' => e = .returned (.bool true) ∧ Below w'.heap.size w' w'') := fun w' hb => by
  have h := automorphism_any lo lo2 t lv ev ov o w' hv hord ((hl.below hbW).below hb) ((he.below hbW).below hb) ((hov.below hbW).below hb)
  rw [← hN, hab] at h
  exact h
 have HIS : Hid (∀ w', Below W.heap.size W w' → Calls Tryz.prog 22 #[ov, .int .i64 N] w' fun e w'' => e = .returned (.bool true) ∧ Below w'.heap.size w' w'') := fun w' hb => isOrder_any lo2 ov o N w' ((hov.below hbW).below hb) (by rw [← hNN]; exact hord) hN1 hN6
 have HB := Lib.hid hbW
 have HW := Lib.hid hW
 have HTB := Lib.hid htb
 have HT := Lib.hid hT
 have x0 := hT.cell 0 rfl
 have x1 := hT.cell 1 rfl
 have x2 := hT.cell 2 rfl
 have x3 := hT.cell 3 rfl
 have htw := hT.lt
 obtain ⟨al, cl, rfl, -, -, -⟩ := hl
 obtain ⟨ae, ce, rfl, -, -, -⟩ := he
 obtain ⟨ao, co, rfl, -, -, -⟩ := hov
 rw [← hN]
 clear hv hsh g hbW hT hW hNN htb hVAL hN hab hord ha hr
 go_enter Tryz.func9, Tryz.ntmps9
 go_wp2_with fail
 rw [← HW.out, ← HTB.out]
 refine Calls.mono HVA.out ?_
 rintro e w1 ⟨rfl, hb1⟩
 have HB1 := Lib.hid hb1
 have HI1 := Lib.hid (HIS.out w1 hb1)
 have y0 := keeps hb1 htw x0
 clear hb1 x0 x1 x2 x3 HVA HIS
 go_wp2_with fail
 refine Calls.mono HI1.out ?_
 rintro e w2 ⟨rfl, hb2⟩
 have hbW2 : Below W.heap.size W w2 := HB1.out.trans (hb2.mono HB1.out.size)
 have HB2 := Lib.hid hbW2
 have HA2 := Lib.hid (HAU.out w2 hbW2)
 have hT2 := HT.out.below hbW2
 have x0 := hT2.cell 0 rfl
 have x1 := hT2.cell 1 rfl
 have x2 := hT2.cell 2 rfl
 have x3 := hT2.cell 3 rfl
 clear hb2 hbW2 hT2 y0 HI1 HAU
 go_wp2_with fail
 refine Calls.mono HA2.out ?_
 rintro e w3 ⟨rfl, hb3⟩
 have HB3 : Hid (Below w.heap.size w w3) := HB.out.trans ((HB2.out.trans (hb3.mono HB2.out.size)).mono HB.out.size)
 clear hb3 HA2 x0 x1 x2 x3
 go_wp2
 refine bodyPost_ret (results_tmp2 rfl _ _ _) rfl ?_
 exact ⟨rfl, HB3.out⟩

end Go.Proofs.YtifoinannefcpaaGreatDoor

namespace Go.Proofs.YtifoinannefcpaaGreatDoor
open Go Go.RowKit


def rowP (p : Int × Int) : List Int := [p.1, p.2]
theorem rowP_cells {lo : Nat} {w : World} {v : Value} {p : Int × Int} (h : SliceK 1 encI lo w v (rowP p)) : ∃ b o c, v = .slice (some ⟨b, o, none⟩) 2 c ∧ 2 ≤ c ∧ b < w.heap.size ∧ w.cell? ⟨b, o, none⟩ = some (.int .i64 p.1) ∧ w.cell? ⟨b, o + 1, none⟩ = some (.int .i64 p.2) := by
 obtain ⟨a, c, rfl, hn, hc, hrow⟩ := h
 rcases hrow with h0 | ⟨b, o, rfl, -, hb, hcell⟩
 ·cases h0
 ·have h0 := hcell 0 (by show 0 < 2; omega) 0 (by decide)
  have h1 := hcell 1 (by show 1 < 2; omega) 0 (by decide)
  simp only [encI, List.getElem?_cons_zero] at h0 h1
  exact ⟨b, o, c, rfl, hn, hb, by simpa [rowP] using h0, by simpa [rowP] using h1⟩
theorem upI_getS {n j : Nat} (h : j < (upI n).length) : (upI n)[j] = (j : Int) := by
 have h1 := upI_get (n := n) (j := j) (by rw [upI_len] at h; exact h)
 rw [List.getElem?_eq_getElem h] at h1
 exact Option.some.inj h1
theorem mapI_get {xs : List Int} {i : Nat} (h : i < xs.length) : (xs.map (Value.int .i64))[i]? = some (.int .i64 xs[i]) := by rw [List.getElem?_map, List.getElem?_eq_getElem h]; rfl
theorem mapI_set (xs : List Int) (i : Nat) (x : Int) : (xs.map (Value.int .i64)).set i (.int .i64 x) = (xs.set i x).map (Value.int .i64) := by rw [List.map_set]

set_option maxRecDepth 100000 in
set_option maxHeartbeats 8000000 in
theorem span_any (lo n : Nat) (v : Value) (ps : List (Int × Int)) (w : World) (hn1 : 1 ≤ n) (hn : n ≤ 1000) (hpl : ps.length ≤ 1000000) (hlow : ∀ p ∈ ps, (0 ≤ p.1 ∧ p.1 < (n : Int)) ∧ (0 ≤ p.2 ∧ p.2 < (n : Int))) (hv : IntssAt lo w v (ps.map rowP)) :
  Calls Tryz.prog 26 #[.int .i64 n, v] w (MadeNums (normL (leadO n ps)) w) := by
 obtain ⟨i1, hi1, hz10, hz11, hz12⟩ := info_parts info_int64N
 obtain ⟨vs, hvl, hvs, hrows⟩ := hv
 rw [List.length_map] at hvl
 have hrows' : ∀ i (h : i < ps.length), SliceK 1 encI lo w (vs.getD i (.slice none 0 0)) (rowP ps[i]) := fun i h => by
  have h1 := hrows i (by omega) (by rw [List.length_map]; exact h)
  rw [List.getElem_map] at h1
  rw [List.getD_eq_getElem?_getD, List.getElem?_eq_getElem (by omega)]
  exact h1
 have HROWS := Lib.hid hrows'
 have HLOW := Lib.hid hlow
 obtain ⟨va, vc, rfl, hvn, hvc, hvrow⟩ := hvs
 have HVR := Lib.hid hvrow
 obtain ⟨M, hM⟩ : ∃ M, M = vs.length := ⟨_, rfl⟩
 have HM := Lib.hid hM
 have HML : Hid (M = ps.length) := hM.trans hvl
 have hM6 : M ≤ 1000000 := by omega
 rw [← hM] at hvn ⊢
 obtain ⟨Q, hQ⟩ : ∃ Q, Q = upI n := ⟨_, rfl⟩
 have HQ := Lib.hid hQ
 have HQN : Hid (Q.length = n) := by unfold Hid; rw [hQ, upI_len]
 clear hrows hrows' hlow hM hvl hQ hvrow
 go_enter Tryz.func26, Tryz.ntmps26
 go_wp2_with (at_make; refine wpList_make_full _ rfl _ _ 32 rfl w.heap.size 2 i1 _ 1 Tryz.underlying32 hi1 hz10 hz11 .i64 .i64 _ _ n rfl rfl rfl rfl ?_ ?_ ?_ ?_)
 ·rw [hz12]; omega
 ·simp [maxLen]; omega
 ·exact Nat.le_refl _
 intro w1 ho hg
 rw [toList_madeCells_one] at ho
 have HB1 : Hid (Below w.heap.size w w1) := (Below.refl _ _).grown hg (Nat.le_refl _) (fun _ h => by cases h)
 have HO : Hid (w1.ownsRow w.heap.size 2 1 (.slice (some ⟨w.heap.size, 0, none⟩) n n) n (List.replicate n (.int .i64 0))) := by unfold Hid; simpa using ho
 obtain ⟨G, hG⟩ : ∃ G, G = w.heap.size := ⟨_, rfl⟩
 have HGG : Hid (w1.ownsRow w.heap.size 2 1 (.slice (some ⟨G, 0, none⟩) n n) n (List.replicate n (.int .i64 0))) := by unfold Hid; rw [hG]; exact HO.out
 have HG := Lib.hid hG
 rw [← hG]
 clear ho hg hi1 hz10 hz11 hz12 HO hG
 go_wp2
 go_loopw [16] (fun v16 wr => ∃ k : Nat, k ≤ n ∧ v16 = .int .i64 k ∧ Below w.heap.size w wr ∧ wr.ownsRow w.heap.size 2 1 (.slice (some ⟨G, 0, none⟩) n n) n ((Q.take k).map (Value.int .i64) ++ List.replicate (Q.length - k) (.int .i64 0))) (fun v16 _ => n - (intOf v16).toNat)
 case atStart => exact ⟨0, Nat.zero_le _, rfl, HB1.out, by simpa [HQN.out] using HGG.out⟩
 case round =>
  clear HGG HB1
  obtain ⟨k, hk, rfl, hbl, ho⟩ := hrel
  obtain ⟨wC, rfl⟩ : ∃ wC : World, wC = wr := ⟨_, rfl⟩
  have HBL := Lib.hid hbl
  have hszC := hbl.size
  by_cases hlt : k < n
  ·have hltq : k < Q.length := by rw [HQN.out]; exact hlt
   have hQk : Q[k] = (k : Int) := by
    have h := HQ.out
    subst h
    exact upI_getS hltq
   have d2 := ho.cellAt k (by omega)
   rw [filled_get _ _ _ _ hltq] at d2
   have d3 := ho.frozenAt k
   have ho4 := (ho.stored k (.int .i64 (k : Int))).1
   have hset := filled_set Q (Value.int .i64) (.int .i64 0) k hltq
   rw [hQk] at hset
   rw [hset] at ho4
   have HO4 := Lib.hid ho4
   have hGl : w.heap.size ≤ G := by rw [HG.out]; exact Nat.le_refl _
   clear ho ho4 hset hbl hQk
   go_wp2
   go_roundw
   case rel => exact ⟨k + 1, by omega, by go_num, HBL.out.setCell hGl _, by simpa using HO4.out⟩
   case measure => simp [intOf]; omega
  ·obtain rfl : k = n := by omega
   have HL0 : Hid (wC.ownsRow w.heap.size 2 1 (.slice (some ⟨G, 0, none⟩) k k) k ((leadO k (ps.take 0)).map (Value.int .i64))) := by
    have e : leadO k (ps.take 0) = Q := by rw [HQ.out]; rfl
    unfold Hid
    rw [e]
    have h := ho
    rw [← HQN.out] at h
    have e2 : Q.take Q.length = Q := List.take_length
    rw [e2] at h
    simpa [HQN.out] using h
   clear ho hbl
   go_wp2
   go_loopw [26] (fun v26 wr => ∃ m : Nat, m ≤ M ∧ v26 = .int .i64 m ∧ Below w.heap.size w wr ∧ wr.ownsRow w.heap.size 2 1 (.slice (some ⟨G, 0, none⟩) k k) k ((leadO k (ps.take m)).map (Value.int .i64))) (fun v26 _ => M - (intOf v26).toNat)
   case atStart => exact ⟨0, Nat.zero_le _, rfl, HBL.out, HL0.out⟩
   case round =>
    clear HL0 HBL
    obtain ⟨m, hm, rfl, hbl, ho⟩ := hrel
    obtain ⟨wD, rfl⟩ : ∃ wD : World, wD = wr := ⟨_, rfl⟩
    have HBL := Lib.hid hbl
    have HO := Lib.hid ho
    have hszD := hbl.size
    by_cases hlt : m < M
    ·have hmp : m < ps.length := by have := HML.out; omega
     have hmv : m < vs.length := by have := HM.out; omega
     obtain ⟨vb, vo, rfl, -, hvb, c1⟩ := (HVR.out.below hbl).one hmv
     simp only [encV, List.getElem?_cons_zero] at c1
     have hprow := HROWS.out m hmp
     rw [List.getD_eq_getElem?_getD, List.getElem?_eq_getElem hmv] at hprow
     obtain ⟨pb, po, pc, hpv, hpc, hpb, q0, q1⟩ := rowP_cells (SliceK.below hprow hbl)
     simp only [Option.getD_some] at hpv
     rw [hpv] at c1
     obtain ⟨p, hp⟩ : ∃ p, p = ps[m] := ⟨_, rfl⟩
     rw [← hp] at q0 q1
     have hlo := HLOW.out p (by rw [hp]; exact List.getElem_mem _)
     obtain ⟨x, hx⟩ : ∃ x : Nat, (x : Int) = p.1 := ⟨p.1.toNat, by omega⟩
     obtain ⟨y, hy⟩ : ∃ y : Nat, (y : Int) = p.2 := ⟨p.2.toNat, by omega⟩
     rw [← hx] at q0
     rw [← hy] at q1
     have hxk : x < k := by omega
     have hyk : y < k := by omega
     have hxI : (x : Int) < (k : Int) := by omega
     have hyI : (y : Int) < (k : Int) := by omega
     obtain ⟨ld, hld⟩ : ∃ ld, ld = leadO k (ps.take m) := ⟨_, rfl⟩
     have hldl : ld.length = k := by rw [hld]; exact leadO_len _ _
     have HNXT : Hid (joinO ld p = leadO k (ps.take (m + 1))) := by unfold Hid; rw [leadO_take k ps m hmp, ← hld, ← hp]
     rw [← hld] at ho HO
     have z0 := ho.cellAt x (by omega)
     have z1 := ho.cellAt y (by omega)
     rw [mapI_get (by omega)] at z0 z1
     obtain ⟨fr, hfr⟩ : ∃ fr, fr = ld[x]'(by omega) := ⟨_, rfl⟩
     obtain ⟨tq, htq⟩ : ∃ tq, tq = ld[y]'(by omega) := ⟨_, rfl⟩
     rw [← hfr] at z0
     rw [← htq] at z1
     have hGl := (ho.lt G rfl).2
     have s0 := later_cell hpb q0
     have s1 := later_cell hpb q1
     have t0 := later_cell hGl z0
     have t1 := later_cell hGl z1
     have HFR : Hid (ld.getD p.1.toNat 0 = fr) := by unfold Hid; rw [← hx, Int.toNat_natCast, hfr, getD_eq]
     have HTO : Hid (ld.getD p.2.toNat 0 = tq) := by unfold Hid; rw [← hy, Int.toNat_natCast, htq, getD_eq]
     have HLL := Lib.hid hldl
     clear ho hbl hmp hmv hprow hpv hp hlo hx hy hld hfr htq z0 z1 hldl q0 q1
     go_wp2
     refine wp_region_later (by kernel_rfl) (by kernel_rfl) ?_
     repeat (go_big_quiet_step ((fail)))
     refine wpQuiet_nil ?_
     intro _ hw9
     obtain ⟨nl, hw8⟩ := hw9
     subst hw8
     have HBN : Hid (Below w.heap.size w nl.w) := HBL.out.trans (nl.h.mono hszD)
     have HON : Hid (nl.w.ownsRow w.heap.size 2 1 (.slice (some ⟨G, 0, none⟩) k k) k ((joinTo ld p 0).map (Value.int .i64))) := by unfold Hid; rw [joinTo_zero]; exact owns_below HO.out nl.h
     clear s0 s1 t0 t1 c1
     go_wp2
     go_loopw [44] (fun v44 wr => ∃ i : Nat, i ≤ k ∧ v44 = .int .i64 i ∧ Below w.heap.size w wr ∧ wr.ownsRow w.heap.size 2 1 (.slice (some ⟨G, 0, none⟩) k k) k ((joinTo ld p i).map (Value.int .i64))) (fun v44 _ => k - (intOf v44).toNat)
     case atStart => exact ⟨0, Nat.zero_le _, rfl, HBN.out, HON.out⟩
     case round =>
      clear HBN HON
      obtain ⟨i, hi, rfl, hbl, ho⟩ := hrel
      obtain ⟨wE, rfl⟩ : ∃ wE : World, wE = wr := ⟨_, rfl⟩
      have HBE := Lib.hid hbl
      have HOE := Lib.hid ho
      have hszE := hbl.size
      by_cases hli : i < k
      ·have hil : i < ld.length := by rw [HLL.out]; exact hli
       have d2 := ho.cellAt i (by omega)
       rw [List.getElem?_map, joinTo_at hil] at d2
       simp only [Option.map_some] at d2
       have d3 := ho.frozenAt i
       have ho4 := (ho.stored i (.int .i64 tq)).1
       rw [mapI_set] at ho4
       obtain ⟨z, hz⟩ : ∃ z, z = ld[i] := ⟨_, rfl⟩
       rw [← hz] at d2
       have hG2 : w.heap.size ≤ G := by rw [HG.out]; exact Nat.le_refl _
       by_cases hzf : z = fr
       ·have hzb : ((z : Int) == fr) = true := beq_iff_eq.2 hzf
        have hj := joinTo_hit (p := p) hil (by rw [← hz, HFR.out]; exact hzf)
        rw [HTO.out] at hj
        rw [← hj] at ho4
        have HO4 := Lib.hid ho4
        clear ho ho4 hbl hz hzf hj hil
        go_wp2
        go_roundw
        case rel => exact ⟨i + 1, by omega, by go_num, HBE.out.setCell hG2 _, HO4.out⟩
        case measure => simp [intOf]; omega
       ·have hzb : ((z : Int) == fr) = false := beq_eq_false_iff_ne.2 hzf
        have hj := joinTo_pass (p := p) hil (by rw [← hz, HFR.out]; exact hzf)
        have HJ := Lib.hid hj
        clear ho ho4 hbl hz hzf hj hil
        go_wp2
        go_roundw
        case rel => exact ⟨i + 1, by omega, by go_num, HBE.out, by rw [HJ.out]; exact HOE.out⟩
        case measure => simp [intOf]; omega
      ·have hik : i = k := by omega
       have HO9 : Hid (wE.ownsRow w.heap.size 2 1 (.slice (some ⟨G, 0, none⟩) k k) k ((leadO k (ps.take (m + 1))).map (Value.int .i64))) := by
        unfold Hid
        rw [← HNXT.out, ← joinTo_all, HLL.out, ← hik]
        rw [hik] at ho ⊢
        exact ho
       clear ho hbl hik
       go_wp2
       go_roundw
       case rel => exact ⟨m + 1, by omega, by go_num, HBE.out, HO9.out⟩
       case measure => simp [intOf]; omega
    ·have hmM : m = ps.length := by have := HML.out; omega
     rw [hmM, List.take_length] at ho
     obtain ⟨ld, hld⟩ : ∃ ld, ld = leadO k ps := ⟨_, rfl⟩
     have hldl : ld.length = k := by rw [hld]; exact leadO_len _ _
     have hlw := leadO_low (n := k) ps HLOW.out
     rw [← hld] at ho hlw
     have hsl : SliceK 1 encI w.heap.size wD (.slice (some ⟨G, 0, none⟩) k k) ld := SliceK.of_owns (e := 2) encI_len hldl.symm (by rw [flat_encI]; exact ho)
     have HN := Lib.hid (normal_any w.heap.size _ ld wD (by omega) (fun x hx => by have := hlw.2 x hx; unfold I64; omega) hsl)
     have HLD := Lib.hid hld
     clear ho hbl hmM hld hldl hlw hsl
     go_wp2_with fail
     refine Calls.mono HN.out ?_
     rintro e w9 ⟨v9, rfl, hb9, ho9⟩
     obtain ⟨a9, c9, rfl, -, -⟩ := owns_slice ho9
     have HB9 : Hid (Below w.heap.size w w9) := HBL.out.trans (hb9.mono hszD)
     have HO9 : Hid (w9.ownsRow w.heap.size 2 1 (.slice a9 (normL ld).length c9) (normL ld).length ((normL ld).map (Value.int .i64))) := own_lower ho9 hszD
     have HFIN : Hid (MadeNums (normL (leadO k ps)) w (.returned (.slice a9 (normL ld).length c9)) w9) := by
      unfold Hid
      rw [← HLD.out]
      exact ⟨_, rfl, HB9.out, HO9.out⟩
     clear hb9 ho9 HN
     go_wp2
     go_ret
     exact HFIN.out

end Go.Proofs.YtifoinannefcpaaGreatDoor

namespace Go.Proofs.YtifoinannefcpaaGreatDoor
open Go Go.RowKit


set_option maxRecDepth 100000 in
set_option maxHeartbeats 1000000 in
theorem orP1_any (lo2 tb N : Nat) (c1 c2 c3 ov : Value) (o : List Int) (w : World) (hord : OrdO N o) (hN1 : 1 ≤ N) (hN6 : N ≤ 6) (hov : SliceK 1 encI lo2 w ov o) (hb : Blk w tb [.int .i64 N, c1, c2, c3] 27) :
  Calls Tryz.prog 24 #[ov, .pointer (some ⟨tb, 0, none⟩)] w fun e w' => e = .returned (.bool false) ∧ Below w.heap.size w w' := by
 have HA := Lib.hid (isOrder_any lo2 ov o N w hov hord hN1 hN6)
 have x0 := hb.cell 0 rfl
 obtain ⟨ao, co, rfl, -, -, -⟩ := hov
 clear hord hb
 go_enter Tryz.func24, Tryz.ntmps24
 go_wp2_with fail
 refine Calls.mono HA.out ?_
 rintro e w1 ⟨rfl, hb1⟩
 have HB1 := Lib.hid hb1
 clear hb1 HA x0
 go_wp2
 go_ret
 exact ⟨rfl, HB1.out⟩
set_option maxRecDepth 100000 in
set_option maxHeartbeats 1000000 in
theorem orP2_any (lo lo2 tb : Nat) (t : Lts) (lv ev ov : Value) (o : List Int) (w : World) (hv : Valid t) (hr : RiseE t.edges) (ha : AutO t o) (hl : SliceK 1 encS lo w lv t.labels) (he : SliceK 3 encE lo w ev t.edges) (hov : SliceK 1 encI lo2 w ov o) (hb : Blk w tb [.int .i64 t.states, .int .i64 t.initial, lv, ev] 27) :
  Calls Tryz.prog 25 #[ov, .pointer (some ⟨tb, 0, none⟩)] w fun e w' => e = .returned (.bool false) ∧ Below w.heap.size w w' := by
 have HA := Lib.hid (automorphism_any lo lo2 t lv ev ov o w hv ha.ord hl he hov)
 rw [(autB_iff hr ha.ord).2 ha] at HA
 have x0 := hb.cell 0 rfl
 have x1 := hb.cell 1 rfl
 have x2 := hb.cell 2 rfl
 have x3 := hb.cell 3 rfl
 obtain ⟨al, cl, rfl, -, -, -⟩ := hl
 obtain ⟨ae, ce, rfl, -, -, -⟩ := he
 obtain ⟨ao, co, rfl, -, -, -⟩ := hov
 clear hv ha hb hr
 go_enter Tryz.func25, Tryz.ntmps25
 go_wp2_with fail
 refine Calls.mono HA.out ?_
 rintro e w1 ⟨rfl, hb1⟩
 have HB1 := Lib.hid hb1
 clear hb1 HA x0 x1 x2 x3
 go_wp2
 go_ret
 exact ⟨rfl, HB1.out⟩

/-- What OrbitPartition hands back. -/
def RetOrb (n : Nat) (os : List (List Int)) (w : World) (e : Ending) (w' : World) : Prop :=
 ∃ a c, e = .returned (.tuple #[.slice a n c, .int .i64 0]) ∧ Below w.heap.size w w' ∧ w'.ownsRow w.heap.size 2 1 (.slice a n c) n ((normL (leadO n (pairsO os))).map (Value.int .i64))

set_option maxRecDepth 100000 in
set_option maxHeartbeats 8000000 in
theorem OrbitPartition_any (lo lo2 N : Nat) (t : Lts) (lv ev ov : Value) (os : List (List Int)) (w : World) (hv : Valid t) (hN : (N : Int) = t.states) (hN6 : N ≤ 6) (hsh : Short20 t.labels) (hr : RiseE t.edges) (hos : ∀ o ∈ os, AutO t o) (hol : os.length ≤ 46656) (hl : SliceK 1 encS lo w lv t.labels) (he : SliceK 3 encE lo w ev t.edges) (hov : IntssAt lo2 w ov os) (g : Glob w) :
  Calls Tryz.prog 10 #[.agg #[.int .i64 t.states, .int .i64 t.initial, lv, ev], ov] w (RetOrb N os w) := by
 obtain ⟨i2, hi2, hz20, hz21, hz22⟩ := info_parts info_sliceL
 have hNN : t.states.toNat = N := by omega
 have hN1 : 1 ≤ N := by have := hv.st0; omega
 have hords : ∀ o ∈ os, OrdO N o := fun o ho => by rw [← hNN]; exact (hos o ho).ord
 obtain ⟨tb, htb⟩ : ∃ tb, tb = w.heap.size := ⟨_, rfl⟩
 obtain ⟨W, hW⟩ : ∃ W, W = w.alloc (.cells #[.int .i64 N, .int .i64 t.initial, lv, ev] 27) := ⟨_, rfl⟩
 have hbW : Below w.heap.size w W := by rw [hW]; exact (Below.refl _ _).alloc (Nat.le_refl _) _
 have hT : Blk W tb [.int .i64 N, .int .i64 t.initial, lv, ev] 27 := by rw [hW, htb]; exact Blk.new w _ _
 have hVAL := Decides.yes (ValidLts_any lo t lv ev W hsh (hl.below hbW) (he.below hbW) (g.below hbW)) hv
 rw [← hN] at hVAL
 have HVA := Lib.hid hVAL
 obtain ⟨vs, hvl, hvs, hrows⟩ := hov.below hbW
 have HVS := Lib.hid hvs
 have HROWS := Lib.hid hrows
 have HVL := Lib.hid hvl
 have HORD := Lib.hid hords
 have HOS := Lib.hid hos
 have HC1 : Hid (∀ w', Below W.heap.size W w' → Calls Tryz.prog 23 #[ov, .func (.func 24) #[] #[.pointer (some ⟨tb, 0, none⟩)]] w' fun e w'' => e = .returned (.bool false) ∧ Below w'.heap.size w' w'') := fun w' hb => by
  refine ContainsFuncL lo2 ov vs 24 #[.pointer (some ⟨tb, 0, none⟩)] (fun _ => false) w' (hvs.below hb) (fun args w => by kernel_rfl) (fun w2 hb2 i hi => ?_) (fun _ _ => rfl)
  have hbb := hb.trans (hb2.mono hb.size)
  exact orP1_any lo2 tb N _ _ _ vs[i] (os[i]'(by omega)) w2 (hords _ (List.getElem_mem _)) hN1 hN6 ((hrows i hi (by omega)).below hbb) (hT.below hbb)
 have HC2 : Hid (∀ w', Below W.heap.size W w' → Calls Tryz.prog 23 #[ov, .func (.func 25) #[] #[.pointer (some ⟨tb, 0, none⟩)]] w' fun e w'' => e = .returned (.bool false) ∧ Below w'.heap.size w' w'') := fun w' hb => by
  refine ContainsFuncL lo2 ov vs 25 #[.pointer (some ⟨tb, 0, none⟩)] (fun _ => false) w' (hvs.below hb) (fun args w => by kernel_rfl) (fun w2 hb2 i hi => ?_) (fun _ _ => rfl)
  have hbb := hb.trans (hb2.mono hb.size)
  have hT2 := hT.below hbb
  rw [hN] at hT2
  exact orP2_any lo lo2 tb t lv ev vs[i] (os[i]'(by omega)) w2 hv hr (hos _ (List.getElem_mem _)) ((hl.below hbW).below hbb) ((he.below hbW).below hbb) ((hrows i hi (by omega)).below hbb) hT2
 have HB := Lib.hid hbW
 have HW := Lib.hid hW
 have HTB := Lib.hid htb
 have HT := Lib.hid hT
 have x0 := hT.cell 0 rfl
 have x1 := hT.cell 1 rfl
 have x2 := hT.cell 2 rfl
 have x3 := hT.cell 3 rfl
 have htw := hT.lt
 obtain ⟨al, cl, rfl, -, -, -⟩ := hl
 obtain ⟨ae, ce, rfl, -, -, -⟩ := he
 obtain ⟨ao, co, rfl, hon, hoc, horow⟩ := hvs
 have HOR := Lib.hid horow
 obtain ⟨M, hM⟩ : ∃ M, M = vs.length := ⟨_, rfl⟩
 rw [← hM] at HC1 HC2 HVS hon ⊢
 have HM := Lib.hid hM
 have hM4 : M ≤ 46656 := by omega
 rw [← hN]
 clear hv hsh g hbW hT hW hNN htb hVAL hN hr hov hrows hvl hords hos horow hM hol
 go_enter Tryz.func10, Tryz.ntmps10
 go_wp2_with fail
 rw [← HW.out, ← HTB.out]
 refine Calls.mono HVA.out ?_
 rintro e w1 ⟨rfl, hb1⟩
 have HB1 := Lib.hid hb1
 have HI1 := Lib.hid (HC1.out w1 hb1)
 clear hb1 x0 x1 x2 x3 HVA HC1
 go_wp2_with fail
 refine Calls.mono HI1.out ?_
 rintro e w2 ⟨rfl, hb2⟩
 have hbW2 : Below W.heap.size W w2 := HB1.out.trans (hb2.mono HB1.out.size)
 have HB2 := Lib.hid hbW2
 have HI2 := Lib.hid (HC2.out w2 hbW2)
 clear hb2 hbW2 HI1 HC2
 go_wp2_with fail
 refine Calls.mono HI2.out ?_
 rintro e w3 ⟨rfl, hb3⟩
 have hbW3 : Below W.heap.size W w3 := HB2.out.trans (hb3.mono HB2.out.size)
 have HB3 := Lib.hid hbW3
 have hs3 : W.heap.size ≤ w3.heap.size := hbW3.size
 clear hb3 hbW3 HI2
 go_wp2_with fail
 go_loopw [6, 25] (fun v6 v25 wr => ∃ (m : Nat) (p6 : Option Addr) (c6 : Nat) (us : List Value), m ≤ M ∧ v6 = .slice p6 us.length c6 ∧ v25 = .int .i64 m ∧ Below w3.heap.size w3 wr ∧ OwnIntss 32 2 w3.heap.size wr (.slice p6 us.length c6) us ((prsTo os m 0).map rowP)) (fun _ v25 _ => M - (intOf v25).toNat)
 case atStart => exact ⟨0, none, 0, [], Nat.zero_le _, rfl, rfl, Below.refl _ _, by rw [prsTo_zero]; exact intss_nil _ _ _ _⟩
 case round =>
  obtain ⟨m, p6, c6, us, hm, rfl, rfl, hbl, ho⟩ := hrel
  obtain ⟨wD, rfl⟩ : ∃ wD : World, wD = wr := ⟨_, rfl⟩
  have HBD := Lib.hid hbl
  have HU := Lib.hid ho
  have hszD := hbl.size
  have hWD : Below W.heap.size W wD := HB3.out.trans (hbl.mono hs3)
  by_cases hlm : m < M
  ·have hmv : m < vs.length := by have := HM.out; omega
   have hmL : m < os.length := by have := HVL.out; omega
   obtain ⟨bb, ob, rfl, -, hbb, c1⟩ := (HOR.out.below hWD).one hmv
   simp only [encV, List.getElem?_cons_zero] at c1
   obtain ⟨o, hoo⟩ : ∃ o, o = os[m] := ⟨_, rfl⟩
   have hro := HROWS.out m hmv hmL
   rw [← hoo] at hro
   have hoN : OrdO N o := by rw [hoo]; exact HORD.out _ (List.getElem_mem _)
   have hone : o ≠ [] := fun e => by
    have := hoN.len
    rw [e] at this
    simp at this
    omega
   obtain ⟨xb, xo, xc, hxv, hxc, hxb, hxcell⟩ := rowI_in hro hone
   rw [hxv, hoN.len] at c1
   rw [hoN.len] at hxc hxcell
   have HX := Lib.hid hxcell
   have HOG : Hid (os.getD m [] = o) := by unfold Hid; rw [getD_eq2 hmL, hoo]
   have HEND : Hid (prsTo os m N = prsTo os (m + 1) 0) := by
    have h := prsTo_end os m hmL
    rw [← hoo, hoN.len] at h
    exact h
   have HPL : Hid (∀ k, k ≤ N → (prsTo os m k).length ≤ 300000) := fun k hk => by
    have h := prsTo_len os (fun o ho => by have := (HORD.out o ho).len; omega) m k (by omega)
    have h2 := HVL.out
    have h3 := HM.out
    omega
   clear hbl ho hmv hmL hoo hro hoN hone hxv hxcell
   go_wp2_with fail
   go_loopw [6, 31] (fun v6 v31 wr => ∃ (k : Nat) (p6 : Option Addr) (c6 : Nat) (us : List Value), k ≤ N ∧ v6 = .slice p6 us.length c6 ∧ v31 = .int .i64 k ∧ Below w3.heap.size w3 wr ∧ OwnIntss 32 2 w3.heap.size wr (.slice p6 us.length c6) us ((prsTo os m k).map rowP)) (fun _ v31 _ => N - (intOf v31).toNat)
   case atStart => exact ⟨0, _, _, _, Nat.zero_le _, rfl, rfl, HBD.out, HU.out⟩
   case round =>
    clear HBD HU c1 hWD
    obtain ⟨k, p5, c5, us5, hk, rfl, rfl, hbl, ho⟩ := hrel
    obtain ⟨wE, rfl⟩ : ∃ wE : World, wE = wr := ⟨_, rfl⟩
    have HBE := Lib.hid hbl
    have HUE := Lib.hid ho
    have hszE := hbl.size
    by_cases hlk : k < N
    ·have hWE : Below W.heap.size W wE := HB3.out.trans (hbl.mono hs3)
     have y0 := keeps hWE hxb (HX.out k hlk)
     obtain ⟨y, hy⟩ : ∃ y, y = o.getD k 0 := ⟨_, rfl⟩
     rw [← hy] at y0
     have hxE : xb < wE.heap.size := Nat.lt_of_lt_of_le hxb hWE.size
     have HST : Hid ((prsTo os m (k + 1)).map rowP = (prsTo os m k).map rowP ++ [rowP ((k : Int), y)]) := by
      unfold Hid
      rw [prsTo_step, List.map_append, HOG.out, ← hy]
      rfl
     have hul : us5.length ≤ 300000 := by
      have h := ho.1
      rw [List.length_map] at h
      rw [h]
      exact HPL.out k (by omega)
     have HOR5 := Lib.hid ho.2.1
     clear hbl ho hy hWE
     go_wp2_with (at_builtin; refine wpList_append_own _ rfl _ _ 29 rfl w3.heap.size 32 i2 (.slice none 0 0) 1 24 Tryz.underlying29 hi2 hz20 hz21 hz22 rfl (by decide) _ us5.length _ rfl ((HOR5.out.alloc _).alloc _) ⟨wE.heap.size + 1, 0, none⟩ 1 1 [.slice (some ⟨wE.heap.size, 0, none⟩) 2 2] rfl rfl ?c1 ?c2 ?c3 ?c4 ?c5 ?_)
     case c1 =>
      have h := World.news_of_block (w := (wE.alloc (.cells #[.int .i64 k, .int .i64 y] 2)).alloc (.cells #[.slice (some ⟨wE.heap.size, 0, none⟩) 2 2] 32)) (cs := #[.slice (some ⟨wE.heap.size, 0, none⟩) 2 2]) (t := 32) (fr := (0, 0)) (heap_alloc_new _ _)
      simpa using h
     case c2 => intro u hu; simp at hu; subst hu; rfl
     case c3 => simp [maxLen]; omega
     case c4 => omega
     case c5 => first | omega | (simp; omega)
     intro v7 w7 ho7 hg7 _
     obtain ⟨a7, c7, rfl, -, -⟩ := owns_slice ho7
     have hal1 : Below wE.heap.size wE (wE.alloc (.cells #[.int .i64 k, .int .i64 y] 2)) := (Below.refl _ _).alloc (Nat.le_refl _) _
     have hal2 : Below wE.heap.size wE ((wE.alloc (.cells #[.int .i64 k, .int .i64 y] 2)).alloc (.cells #[.slice (some ⟨wE.heap.size, 0, none⟩) 2 2] 32)) := hal1.alloc (by simp) _
     have hlit : ((wE.alloc (.cells #[.int .i64 k, .int .i64 y] 2)).alloc (.cells #[.slice (some ⟨wE.heap.size, 0, none⟩) 2 2] 32)).ownsRow wE.heap.size 2 1 (.slice (some ⟨wE.heap.size, 0, none⟩) 2 2) 2 [.int .i64 k, .int .i64 y] :=
      (World.ownsRow_lit (base := wE.heap.size) (size := 1) wE #[.int .i64 k, .int .i64 y] (e := 2) 2 (Nat.le_refl _) (by simp [maxLen]) rfl).alloc _
     have HU7 : Hid (OwnIntss 32 2 w3.heap.size w7 (.slice a7 (us5 ++ [Value.slice (some ⟨wE.heap.size, 0, none⟩) 2 2]).length c7) (us5 ++ [Value.slice (some ⟨wE.heap.size, 0, none⟩) 2 2]) ((prsTo os m (k + 1)).map rowP)) := by
      unfold Hid
      rw [HST.out]
      have h := OwnIntss.push (B := wE.heap.size) (xs := rowP ((k : Int), y)) (by decide) HUE.out (Nat.le_refl _) hal2 hlit hszE hg7 ho7
      rw [List.length_append]
      exact h
     have HB7 : Hid (Below w3.heap.size w3 w7) := (HBE.out.trans (hal2.mono hszE)).grown hg7 (by simp; omega) (fun b e => (HOR5.out.lt b e).1)
     have HL7 : Hid ((us5 ++ [Value.slice (some ⟨wE.heap.size, 0, none⟩) 2 2]).length = us5.length + 1) := by unfold Hid; simp
     clear ho7 hg7 hal1 hal2 hlit
     go_wp2
     go_roundw
     case rel => exact ⟨k + 1, a7, c7, us5 ++ [Value.slice (some ⟨wE.heap.size, 0, none⟩) 2 2], by omega, by rw [HL7.out], by go_num, HB7.out, HU7.out⟩
     case measure => simp [intOf]; omega
    ·obtain rfl : k = N := by omega
     clear hbl ho
     go_wp2
     go_roundw
     case rel => exact ⟨m + 1, p5, c5, us5, by omega, rfl, by go_num, HBE.out, by rw [← HEND.out]; exact HUE.out⟩
     case measure => simp [intOf]; omega
  ·have hmM : m = os.length := by have := HVL.out; have := HM.out; omega
   rw [hmM, prsTo_all] at ho
   have hpl : (pairsO os).length ≤ 300000 := by
    have h := pairsO_len os (fun o ho => by have := (HORD.out o ho).len; omega)
    have h2 := HVL.out
    have h3 := HM.out
    omega
   have HSP := Lib.hid (span_any w3.heap.size N _ (pairsO os) wD hN1 (by omega) (by omega) (pairsO_low HORD.out) ho.at)
   have x0 := (HT.out.below hWD).cell 0 rfl
   have hBwD : Below w.heap.size w wD := HB.out.trans (hWD.mono HB.out.size)
   have HBwD := Lib.hid hBwD
   have hnl : (normL (leadO N (pairsO os))).length = N := by rw [normL_len, leadO_len]
   have HNL := Lib.hid hnl
   clear hbl ho hmM hWD hBwD hnl
   go_wp2_with fail
   refine Calls.mono HSP.out ?_
   rintro e w9 ⟨v9, rfl, hb9, ho9⟩
   rw [HNL.out] at ho9
   obtain ⟨a9, c9, rfl, -, -⟩ := owns_slice ho9
   have HR : Hid (RetOrb N os w (.returned (.tuple #[.slice a9 N c9, .int .i64 0])) w9) := ⟨a9, c9, rfl, HBwD.out.trans (hb9.mono HBwD.out.size), own_lower ho9 HBwD.out.size⟩
   clear hb9 ho9 HSP x0
   go_wp2
   refine bodyPost_ret (results_tmp2 rfl _ _ _) rfl ?_
   exact HR.out

end Go.Proofs.YtifoinannefcpaaGreatDoor

namespace Go.Proofs.YtifoinannefcpaaGreatDoor
open Go Go.RowKit


theorem Blk.keptM {w w' : World} {b : Nat} {cs : List Value} {t : TypeId} {row : Option Nat} (h : Blk w b cs t) (hg : w.grownBy w' row) (hne : row ≠ some b) : Blk w' b cs t := (hg.block b h.lt (fun e => hne e.symm)).trans h
end Go.Proofs.YtifoinannefcpaaGreatDoor

namespace Go.Proofs.YtifoinannefcpaaGreatDoor
open Go Go.RowKit


theorem run_append_zeroR {P : Program} {w : World} (base : Nat) (t ty e : TypeId) (i : TypeInfo) (size : Nat) (ht : P.underlying t = some (.slice e)) (hi : P.info? e = some i) (v : Value) (n : Nat) (xs : List Value) (hown : w.ownsRow base e size v n xs) (ad : Option Addr) (c : Nat) :
  (Builtin.append_ #[t, t] ty #[v, .slice ad 0 c]).run P w = .ok v w := by
 rcases hown.2 with ⟨rfl, rfl⟩ | ⟨g, cap, cur, rfl, _, _, hnc, _⟩
 ·cases ad <;> simp [Builtin.append_, run_underlying ht, sizeOf, typeInfo, hi, Builtin.lenOf, Builtin.firstCells, loadCells, loadCellsFrom]
 ·cases ad <;> simp [Builtin.append_, run_underlying ht, sizeOf, typeInfo, hi, Builtin.lenOf, Builtin.firstCells, hnc, loadCells, loadCellsFrom, storeCells]
/-- One own row is appended to another one, in a region that draws its order. -/
theorem step_append_row (w : World) {P : Program} {ops : Array Oper} {o : Oper} {a : Act} {K : Act → World → Prop} {Q : Exit → Act → World → Prop} {F : Prop} (hgd : o.guard = none) (s x : Operand) (t : TypeId)
  (ho : o.op = .call { callee := .builtin .append, args := #[s, x], argTypes := #[t, t] })
  (base lo2 : Nat) (e : TypeId) (i : TypeInfo) (z : Value) (bytes : Nat) (ht : P.underlying t = some (.slice e)) (hi : P.info? e = some i) (hz : i.zero = some z)
  (hsize : i.size = 1) (hby : i.bytes = bytes) (hzs : z.cells.size = 1)
  (v : Value) (n : Nat) (xs : List Value) (hs : a.eval s = v) (hown : w.ownsRow base e 1 v n xs)
  (u : Value) (m : Nat) (us : List Value) (hx : a.eval x = u) (hsrc : w.ownsRow lo2 e 1 u m us) (h1 : ∀ y ∈ us, y.oneCell' = true)
  (h63 : n + m ≤ maxLen) (hbytes : (n + m) * bytes ≤ 140737488355328) (hbase : base ≤ w.heap.size)
  (h : ∀ v' w', w'.ownsRow base e 1 v' (n + m) (xs ++ us) → w.grownBy w' v.ownBlock → (∀ b, v'.ownBlock = some b → v.ownBlock = some b ∨ w.heap.size ≤ b) → K (a.put o.dst v') w') :
  if Region.wanted o (yielded ops a.tmps) = true then Oper.wp P o a w K Q else F := by
 by_cases hm : m = 0
 ·subst hm
  have hus : us = [] := List.eq_nil_of_length_eq_zero (by have := hsrc.1; omega)
  subst hus
  obtain ⟨ad, c, rfl, -, -⟩ := owns_slice hsrc
  have hw : Region.wanted o (yielded ops a.tmps) = true := by simp [Region.wanted, hgd]
  rw [if_pos hw]
  have hrun := run_append_zeroR (P := P) (w := w) base t o.type e i 1 ht hi v n xs hown ad c
  have hk := h v w (by simpa using hown) (grown_refl _ _) (fun b e => .inl e)
  unfold Oper.wp
  simp [execOp, ho, resolve, invoke, builtin, hs, hx, hrun, Result.andThen, Oper.upon, hk]
 ·rcases hsrc.2 with ⟨-, h0⟩ | ⟨g, cap, cur, rfl, -⟩
  ·exact absurd h0 hm
  ·refine step_append_lies w hgd s x t ho base e i z 1 bytes ht hi hz hsize hby hzs (by decide) v n xs hs hown ⟨g, 0, none⟩ m cap us hx (by have := hsrc.1; omega) (fun j y hy => ?_) h1 (by omega) h63 hbytes hbase w.heap.size rfl fun g' cap' w' ho' hg' hf' _ => h _ _ ho' hg' (fun b e => ?_)
   ·have hj : j < m := by
     have h2 := (List.getElem?_eq_some_iff.1 hy).1
     have := hsrc.1
     omega
    rw [Addr.add_lit, Nat.zero_add, hsrc.cellAt j (by omega)]
    exact hy
   ·simp only [Value.ownBlock, Option.some.injEq] at e
    subst e
    exact hf'.imp id fun h => by omega
/-- Rows that are all empty. -/
theorem OwnRows.nils {eo ei lo : Nat} {w : World} {v : Value} {n : Nat} (h : w.ownsRow lo eo 1 v n (List.replicate n (.slice none 0 0))) : OwnRows eo ei lo w v (List.replicate n (.slice none 0 0)) (List.replicate n []) := by
 refine ⟨by simp, by simpa using h, fun i hi hi' => ?_, fun i j hi hj _ => .inl ?_⟩
 ·simp only [List.getElem_replicate]
  exact World.ownsRow_nil _ _ _ _
 ·simp only [List.getElem_replicate]
  rfl
/-- A place gets a row of its own. -/
theorem OwnRows.lay {eo ei lo : Nat} {w w1 w2 : World} {v v' : Value} {vs : List Value} {xss : List (List Value)} {ys : List Value} (he : eo ≠ ei) (h : OwnRows eo ei lo w v vs xss) (j : Nat) (hj : j < vs.length)
  (hb1 : Below w.heap.size w w1) (ho : w1.ownsRow w.heap.size ei 1 v' ys.length ys) (hlo : lo ≤ w.heap.size)
  (hg2 : w1.grownBy w2 v.ownBlock) (hv : w2.ownsRow lo eo 1 v vs.length (vs.set j v')) : OwnRows eo ei lo w2 v (vs.set j v') (xss.set j ys) :=
 OwnRows.grow he h j hj (grown_below hb1 _) (own_lower ho hlo) (fun b e => .inr (ho.lt b e).1) hg2 hv
/-- The codes of the first edges from a state. -/
def rawK (t : Lts) (p : List Int) (k i : Nat) : List Int := ((t.edges.take k).filter fun e => e.src == (i : Int)).map fun e => e.lab * t.states + p.getD e.dst.toNat 0
theorem rawK_zero (t : Lts) (p : List Int) (i : Nat) : rawK t p 0 i = [] := by simp [rawK]
theorem rawK_all (t : Lts) (p : List Int) (i : Nat) : rawK t p t.edges.length i = rawG t p i := by
 unfold rawK rawG outOf
 rw [List.take_length]
theorem rawK_hit {t : Lts} {p : List Int} {k i : Nat} (hk : k < t.edges.length) (h : t.edges[k].src = (i : Int)) : rawK t p (k + 1) i = rawK t p k i ++ [t.edges[k].lab * t.states + p.getD t.edges[k].dst.toNat 0] := by
 unfold rawK
 rw [List.take_succ_eq_append_getElem hk, List.filter_append, List.map_append]
 simp [h]
theorem rawK_miss {t : Lts} {p : List Int} {k i : Nat} (hk : k < t.edges.length) (h : t.edges[k].src ≠ (i : Int)) : rawK t p (k + 1) i = rawK t p k i := by
 unfold rawK
 rw [List.take_succ_eq_append_getElem hk, List.filter_append]
 simp [h]
theorem rawK_len (t : Lts) (p : List Int) (k i : Nat) : (rawK t p k i).length ≤ k := by
 unfold rawK
 rw [List.length_map]
 exact Nat.le_trans (List.length_filter_le _ _) (by rw [List.length_take]; omega)
def rowsK (t : Lts) (p : List Int) (S k : Nat) : List (List Value) := (List.range S).map fun i => (rawK t p k i).map (Value.int .i64)
theorem rowsK_len (t : Lts) (p : List Int) (S k : Nat) : (rowsK t p S k).length = S := by simp [rowsK]
theorem rowsK_get {t : Lts} {p : List Int} {S k i : Nat} (h : i < (rowsK t p S k).length) : (rowsK t p S k)[i] = (rawK t p k i).map (Value.int .i64) := by simp [rowsK]
theorem rowsK_zero (t : Lts) (p : List Int) (S : Nat) : rowsK t p S 0 = List.replicate S [] := by
 refine List.ext_getElem (by simp [rowsK]) fun i h1 _ => ?_
 rw [rowsK_get h1, rawK_zero, List.getElem_replicate]
 rfl
theorem rowsK_set {t : Lts} {p : List Int} {S k i : Nat} (hk : k < t.edges.length) (_hi : i < S) (h : t.edges[k].src = (i : Int)) : (rowsK t p S k).set i ((rawK t p k i).map (Value.int .i64) ++ [.int .i64 (t.edges[k].lab * t.states + p.getD t.edges[k].dst.toNat 0)]) = rowsK t p S (k + 1) := by
 refine List.ext_getElem (by simp [rowsK]) fun j h1 h2 => ?_
 rw [rowsK_get h2]
 by_cases e : i = j
 ·subst e
  rw [List.getElem_set_self, rawK_hit hk h, List.map_append]
  rfl
 ·rw [List.getElem_set_ne e, rowsK_get, rawK_miss hk (fun e2 => e (by omega))]
/-- The keys while they are made: the blocks alone. -/
def keys1 (p : List Int) (S k : Nat) : List (List Value) := (p.take k).map (fun b => [Value.int .i64 b]) ++ List.replicate (S - k) []
theorem keys1_zero (p : List Int) (S : Nat) : keys1 p S 0 = List.replicate S [] := by simp [keys1]
theorem keys1_set {p : List Int} {S k : Nat} (hp : p.length = S) (hk : k < S) : (keys1 p S k).set k [Value.int .i64 (p.getD k 0)] = keys1 p S (k + 1) := by
 unfold keys1
 have hl : ((p.take k).map fun b => [Value.int .i64 b]).length = k := by simp; omega
 have hkp : k < p.length := by omega
 rw [show S - k = (S - (k + 1)) + 1 from by omega, List.replicate_succ, List.set_append_right _ _ (by omega), hl, Nat.sub_self, List.set_cons_zero, List.take_succ_eq_append_getElem hkp, List.map_append, List.append_assoc, List.getD_eq_getElem?_getD, List.getElem?_eq_getElem hkp]
 rfl
theorem keys1_all {p : List Int} {S : Nat} (hp : p.length = S) : keys1 p S S = p.map fun b => [Value.int .i64 b] := by
 unfold keys1
 rw [Nat.sub_self, List.take_of_length_le (by omega)]
 simp
/-- The keys while the codes are added. -/
def keys3 (t : Lts) (p : List Int) (S i : Nat) : List (List Int) := (List.range S).map fun j => if j < i then p.getD j 0 :: sgT t p j else [p.getD j 0]
theorem keys3_len (t : Lts) (p : List Int) (S i : Nat) : (keys3 t p S i).length = S := by simp [keys3]
theorem keys3_get {t : Lts} {p : List Int} {S i j : Nat} (h : j < (keys3 t p S i).length) : (keys3 t p S i)[j] = if j < i then p.getD j 0 :: sgT t p j else [p.getD j 0] := by simp [keys3]
theorem keys3_zero {t : Lts} {p : List Int} {S : Nat} (hp : p.length = S) : (keys3 t p S 0).map (List.map (Value.int .i64)) = p.map fun b => [Value.int .i64 b] := by
 refine List.ext_getElem (by simp [keys3, hp]) fun j h1 h2 => ?_
 have hj : j < p.length := by simpa using h2
 rw [List.getElem_map, keys3_get, if_neg (Nat.not_lt_zero _), List.getElem_map, List.getD_eq_getElem?_getD, List.getElem?_eq_getElem hj]
 rfl
theorem keys3_set {t : Lts} {p : List Int} {S i : Nat} (_hi : i < S) : (keys3 t p S i).set i ([p.getD i 0] ++ sgT t p i) = keys3 t p S (i + 1) := by
 refine List.ext_getElem (by simp [keys3]) fun j h1 h2 => ?_
 rw [keys3_get h2]
 by_cases e : i = j
 ·subst e
  rw [List.getElem_set_self, if_pos (by omega)]
  rfl
 ·rw [List.getElem_set_ne e, keys3_get]
  by_cases hj : j < i
  ·rw [if_pos hj, if_pos (by omega)]
  ·rw [if_neg hj, if_neg (by omega)]
theorem keys3_all (t : Lts) (p : List Int) (S : Nat) : keys3 t p S S = (List.range S).map fun i => p.getD i 0 :: sgT t p i := by
 unfold keys3
 refine List.map_congr_left fun j hj => ?_
 rw [if_pos (List.mem_range.1 hj)]

end Go.Proofs.YtifoinannefcpaaGreatDoor

namespace Go.Proofs.YtifoinannefcpaaGreatDoor
open Go Go.RowKit


theorem far_symm {a b : Option Nat} (h : a = none ∨ a ≠ b) : b = none ∨ b ≠ a := by
 rcases h with h | h
 ·subst h
  cases b with
  | none => exact .inl rfl
  | some x => exact .inr (by simp)
 ·exact .inr fun e => h e.symm
structure RefM (eo ei lo L2 : Nat) (w : World) (kv sv : Value) (kvs svs : List Value) (xss rows : List (List Value)) (i : Nat) : Prop where
 keys : OwnRows eo ei lo w kv kvs xss
 head : w.ownsRow L2 eo 1 sv svs.length svs
 len : svs.length = rows.length
 sets : ∀ j (hj : j < svs.length) (hj' : j < rows.length), i ≤ j → w.ownsRow L2 ei 1 svs[j] rows[j].length rows[j]
 far : ∀ a b (ha : a < svs.length) (hb : b < svs.length), a ≠ b → svs[a].ownBlock = none ∨ svs[a].ownBlock ≠ svs[b].ownBlock
 cross : ∀ a (ha : a < kvs.length) j (hj : j < svs.length), i ≤ j → kvs[a].ownBlock = none ∨ kvs[a].ownBlock ≠ svs[j].ownBlock
 two : kv.ownBlock = none ∨ kv.ownBlock ≠ sv.ownBlock
theorem RefM.start {eo ei lo : Nat} {wM w : World} {kv sv : Value} {kvs svs : List Value} {xss rows : List (List Value)} (hk : OwnRows eo ei lo wM kv kvs xss) (hb : Below wM.heap.size wM w) (hs : OwnRows eo ei wM.heap.size w sv svs rows) :
  RefM eo ei lo wM.heap.size w kv sv kvs svs xss rows 0 := by
 have key : ∀ {a b : Option Nat}, (∀ x, a = some x → x < wM.heap.size) → (∀ x, b = some x → wM.heap.size ≤ x) → a = none ∨ a ≠ b := by
  intro a b ha hb
  cases a with
  | none => exact .inl rfl
  | some x =>
   refine .inr fun e => ?_
   have h1 := ha x rfl
   have h2 := hb x e.symm
   omega
 exact ⟨hk.below hb, hs.2.1, hs.1, fun j hj hj' _ => hs.2.2.1 j hj hj', hs.2.2.2, fun a ha j hj _ => key (fun x e => ((hk.2.2.1 a ha (by have := hk.1; omega)).lt x e).2) (fun x e => ((hs.2.2.1 j hj (by have := hs.1; omega)).lt x e).1),
  key (fun x e => (hk.2.1.lt x e).2) (fun x e => (hs.2.1.lt x e).1)⟩
theorem RefM.mid {eo ei lo L2 i : Nat} {w w2 : World} {kv sv : Value} {kvs svs : List Value} {xss rows : List (List Value)} (he : eo ≠ ei) (h : RefM eo ei lo L2 w kv sv kvs svs xss rows i) (hi : i < svs.length)
  (hg1 : w.grownBy w2 svs[i].ownBlock) : OwnRows eo ei lo w2 kv kvs xss :=
 h.keys.kept hg1 (own_types h.keys.2.1 (h.sets i hi (by have := h.len; omega) (Nat.le_refl _)) he) fun a ha => h.cross a ha i hi (Nat.le_refl _)
theorem RefM.step {eo ei lo L2 i : Nat} {w w2 w3 w4 : World} {kv sv v3 : Value} {kvs svs : List Value} {xss rows : List (List Value)} {ys : List Value} (he : eo ≠ ei) (h : RefM eo ei lo L2 w kv sv kvs svs xss rows i) (hi : i < svs.length) (hik : i < kvs.length)
  (hg1 : w.grownBy w2 svs[i].ownBlock) (hg3 : w2.grownBy w3 kvs[i].ownBlock) (ho3 : w3.ownsRow lo ei 1 v3 ys.length ys) (hb3 : ∀ b, v3.ownBlock = some b → kvs[i].ownBlock = some b ∨ w2.heap.size ≤ b)
  (hg4 : w3.grownBy w4 kv.ownBlock) (hv4 : w4.ownsRow lo eo 1 kv kvs.length (kvs.set i v3)) : RefM eo ei lo L2 w4 kv sv (kvs.set i v3) svs (xss.set i ys) rows (i + 1) := by
 have hil : i < rows.length := by have := h.len; omega
 have hkl := h.keys.1
 have hix : i < xss.length := by omega
 have k2 := h.mid he hi hg1
 have hki := k2.2.2.1 i hik hix
 have k4 := OwnRows.grow he k2 i hik hg3 ho3 hb3 hg4 hv4
 have kh3 : w3.ownsRow lo eo 1 kv kvs.length kvs := k2.2.1.kept hg3 (own_types k2.2.1 hki he)
 have hd2 := h.head.kept hg1 (own_types h.head (h.sets i hi hil (Nat.le_refl _)) he)
 have hd3 := hd2.kept hg3 (own_types hd2 hki he)
 have hd4 := hd3.kept hg4 (far_symm h.two)
 refine ⟨k4, hd4, h.len, fun j hj hj' hij => ?_, h.far, fun a ha j hj hij => ?_, h.two⟩
 ·have s2 := (h.sets j hj hj' (by omega)).kept hg1 (h.far j i hj hi (by omega))
  have s3 := s2.kept hg3 (far_symm (h.cross i hik j hj (by omega)))
  exact s3.kept hg4 (own_types s3 kh3 (fun e => he e.symm))
 ·simp only [List.length_set] at ha
  by_cases e : i = a
  ·subst e
   rw [List.getElem_set_self]
   cases hb : v3.ownBlock with
   | none => exact .inl rfl
   | some b =>
    refine .inr fun e => ?_
    rcases hb3 b hb with h1 | h1
    ·rcases h.cross i hik j hj (by omega) with h2 | h2
     ·rw [h1] at h2; cases h2
     ·exact h2 (h1.trans e)
    ·have h2 := ((h.sets j hj (by have := h.len; omega) (by omega)).lt b e.symm).2
     have := hg1.size
     omega
  ·rw [List.getElem_set_ne e]
   exact h.cross a ha j hj (by omega)

end Go.Proofs.YtifoinannefcpaaGreatDoor
