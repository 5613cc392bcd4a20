/-
  What the closure over a state's edges computes: all edges of one state.
  What explored computes at states: the search over the blocks, and its system.
  The program's normalKeys: the blocks of equal keys.
  What the implementation's follow and step compute at one state of a deterministic system.
  What the implementation's step computes in a deterministic system.
  A slice less its first element, where its capacity is not known.
  The program's minimalFrom, from values that are all zero: the partition at rest, and the least system.
  The refinement of a given partition of the states of a deterministic system. Plain.
-/
import Derived.Test.YtjghfgaincnegaaGreatDoorN14
import Derived.Test.YtjghfgaincnegaaGreatDoorN12
import Derived.Test.YtjghfgaincnegaaGreatDoorN13
import Derived.Test.YtjghfgaincnegaaGreatDoorN11
import Derived.Test.YtjghfgaincnegaaGreatDoorN4
import Derived.Deep.AppendLies
import Derived.Test.YtjghfgaincnegaaGreatDoorN8
import Derived.Test.YtjghfgaincnegaaGreatDoorN6
import Derived.Test.YtjghfgaincnegaaGreatDoorN3
import Derived.Test.YtjghfgaincnegaaGreatDoorN10
namespace Go.Proofs.YtjghfgaincnegaaGreatDoor
open Go Go.RowKit

set_option maxRecDepth 100000 in
set_option maxHeartbeats 2000000 in
theorem movesM_any (B xb mb pb ib rb cb gP cP N n tb lo : Nat) (d : Lts) (P : List Int) (st : MNet) (x : Int) (lv ev sv av : Value) (w0 w : World) (hv : Valid d) (hs : Single d) (hB : B = w0.heap.size) (hbl : Below B w0 w) (hE : ExpM B xb mb pb ib rb cb true n d P st sv av w) (hp : PMem B cb gP cP N P w)
  (hl : SliceK 1 encS lo w0 lv d.labels) (he : SliceK 3 encE lo w0 ev d.edges) (ht : Blk w0 tb [.int .i64 d.states, .int .i64 d.initial, lv, ev] 32) (g : Glob w0) (hG : MGood d P st) (hN : (N : Int) = d.states) (hn : n < st.rows.length) (he500 : st.edges.length ≤ 500) :
  Calls Tryz.prog 61 #[.int .i64 x, .func (.func 96) #[] #[.pointer (some ⟨pb, 0, none⟩), .pointer (some ⟨ib, 0, none⟩)], .pointer (some ⟨tb, 0, none⟩)] w fun e w' =>
   e = .returned (.bool true) ∧ Below B w0 w' ∧ ∃ sv' av', ExpM B xb mb pb ib rb cb true n d P (mrow P n (outOf d x) st) sv' av' w' := by
 have hbw : Below w0.heap.size w0 w := by rw [← hB]; exact hbl
 have hszB : B ≤ w.heap.size := by rw [hB]; exact hbw.size
 obtain ⟨es, hes⟩ : ∃ es, es = outOf d x := ⟨_, rfl⟩
 have hok : ∀ e ∈ es, (1 ≤ e.lab ∧ e.lab < d.labels.length) ∧ 0 ≤ e.dst ∧ e.dst < d.states := by rw [hes]; exact out_ok hv hs
 have hMl : es.length ≤ 300 := by rw [hes]; exact Nat.le_trans (List.length_filter_le _ _) hv.most
 have HOUT := Lib.hid (out_any lo d lv ev x w (by have := hv.most; omega) (he.below hbw))
 unfold MadeOut at HOUT
 rw [← hes] at HOUT ⊢
 have t0 := keeps hbw ht.lt (ht.cell 0 rfl)
 have t1 := keeps hbw ht.lt (ht.cell 1 rfl)
 have t2 := keeps hbw ht.lt (ht.cell 2 rfl)
 have t3 := keeps hbw ht.lt (ht.cell 3 rfl)
 have htB : tb < B := by rw [hB]; exact ht.lt
 obtain ⟨M, hM⟩ : ∃ M, M = es.length := ⟨_, rfl⟩
 rw [← hM] at HOUT hMl
 obtain ⟨al, cl, rfl, hln, hlc, hlrow⟩ := hl
 obtain ⟨LN, hLN⟩ : ∃ LN, LN = d.labels.length := ⟨_, rfl⟩
 rw [← hLN] at hln ht t2 HOUT
 have HT := Lib.hid ht
 have HV := Lib.hid hv
 have HLR := Lib.hid hlrow
 have HLN := Lib.hid hLN
 have HOKS := Lib.hid hok
 have HM := Lib.hid hM
 have HG := Lib.hid hG
 have HN := Lib.hid hN
 have HGL := Lib.hid g
 have HB := Lib.hid hB
 have HX := Lib.hid hE
 have HPM := Lib.hid hp
 have HBL := Lib.hid hbl
 have HS0 := Lib.hid hn
 have HE5 := Lib.hid he500
 clear hv
 clear hs
 clear hbl
 clear hE
 clear hp
 clear he
 clear ht
 clear g
 clear hG
 clear hN
 clear hn
 clear he500
 clear hlrow
 clear hes
 clear hok
 clear hM
 clear hLN
 clear hB
 clear hbw
 go_enter Tryz.func61, Tryz.ntmps61
 go_wp2_with fail
 refine Calls.mono HOUT.out ?_
 rintro e w1 ⟨vo, rfl, hb1, ho1⟩
 obtain ⟨oa, oc, rfl, -, -⟩ := owns_slice ho1
 have HB1 := Lib.hid (HBL.out.trans (hb1.mono hszB))
 have HX1 := Lib.hid (HX.out.below hb1)
 have HP1 := Lib.hid (HPM.out.below (hb1.mono hszB))
 have HO1 := Lib.hid ho1
 clear hb1 ho1 HOUT t0 t1 t2 t3 HX HPM HBL
 go_wp2
 go_loopw [12] (fun v12 wr => ∃ (k : Nat) (sv' av' : Value), v12 = .int .i64 k ∧ k ≤ M ∧ Below B w0 wr ∧ PMem B cb gP cP N P wr ∧ ExpM B xb mb pb ib rb cb true n d P (mrow P n (es.take k) st) sv' av' wr ∧ wr.ownsRow w.heap.size 78 3 (.slice oa M oc) M (es.flatMap encE)) (fun v12 _ => M - (intOf v12).toNat)
 case atStart => exact ⟨0, sv, av, rfl, Nat.zero_le _, HB1.out, HP1.out, by simpa [mrow] using HX1.out, HO1.out⟩
 case round =>
  clear HB1 HX1 HP1 HO1
  obtain ⟨k, sv2, av2, rfl, hk, hbl, hpm, hx, ho⟩ := hrel
  obtain ⟨wC, rfl⟩ : ∃ wC : World, wC = wr := ⟨_, rfl⟩
  have HBL := Lib.hid hbl
  have HPM := Lib.hid hpm
  have HX := Lib.hid hx
  have HO := Lib.hid ho
  have hszC : B ≤ wC.heap.size := by rw [HB.out]; exact hbl.size
  clear hbl hpm hx ho
  by_cases hlt : k < M
  ·have hke : k < es.length := by rw [← HM.out]; exact hlt
   have hsk : SliceK 3 encE w.heap.size wC (.slice oa M oc) es := SliceK.of_owns (enc := encE) (e := 78) encE_len HM.out HO.out
   obtain ⟨oa', oc', e9, -, -, hrow⟩ := hsk
   obtain ⟨rfl, -, rfl⟩ : oa = oa' ∧ M = es.length ∧ oc = oc' := by simpa using e9
   obtain ⟨be, oe, rfl, -, hbe, e1, e2, e3⟩ := hrow.edge hke
   have hok := HOKS.out _ (List.getElem_mem hke)
   obtain ⟨ln, hln9⟩ : ∃ ln : Nat, (ln : Int) = es[k].lab := ⟨es[k].lab.toNat, by omega⟩
   have hlnL : ln < d.labels.length := by omega
   obtain ⟨bl, ol, rfl, -, hblw, c1⟩ := HLR.out.one hlnL
   simp only [encS, List.getElem?_cons_zero] at c1
   obtain ⟨l, hl⟩ : ∃ l, l = d.labels[ln] := ⟨_, rfl⟩
   rw [← hl] at c1
   have hgl : d.labels.getD ln ByteArray.empty = l := by rw [List.getD_eq_getElem?_getD, List.getElem?_eq_getElem hlnL, hl]; rfl
   obtain ⟨xs, hxs⟩ : ∃ xs, xs = es[k].src := ⟨_, rfl⟩
   obtain ⟨y, hy⟩ : ∃ y, y = es[k].dst := ⟨_, rfl⟩
   rw [← hxs] at e1
   rw [← hln9] at e2
   rw [← hy] at e3
   have hy0 : 0 ≤ y := by rw [hy]; exact hok.2.1
   have hy1 : y < (N : Int) := by rw [hy, HN.out]; exact hok.2.2
   obtain ⟨M0, hM0⟩ : ∃ M0, M0 = mrow P n (es.take k) st := ⟨_, rfl⟩
   have hGM : MGood d P M0 := by rw [hM0]; exact HG.out.row _ HS0.out fun e he => HOKS.out e (List.mem_of_mem_take he)
   have hpre := mrow_prefix P n (es.take k) st
   rw [← hM0] at hpre HX
   have hfe : M0.edges.length ≤ 1000 := by
    have h1 := hpre.2
    rw [List.length_take] at h1
    have := HE5.out
    omega
   have hnx : mrow P n (es.take (k + 1)) st = ⟨madd P M0.rows y, M0.edges ++ [⟨(n : Int), (ln : Int), (mplace P M0.rows y : Int)⟩]⟩ := by
    rw [List.take_succ_eq_append_getElem hke, mrow_snoc, ← hM0]
    unfold mstep
    rw [← hy, ← hln9]
   have hM40 := hGM.few (fun z hz => HPM.out.low z hz)
   obtain ⟨eb, heb⟩ : ∃ eb, eb = wC.heap.size := ⟨_, rfl⟩
   obtain ⟨wE, hwE⟩ : ∃ wE, wE = wC.alloc (.cells #[.int .i64 xs, .int .i64 ln, .int .i64 y] 78) := ⟨_, rfl⟩
   have hbE : Below wC.heap.size wC wE := by rw [hwE]; exact (Below.refl _ _).alloc (Nat.le_refl _) _
   have hT : Blk wE eb [.int .i64 xs, .int .i64 ln, .int .i64 y] 78 := by rw [hwE, heb]; exact Blk.new wC _ _
   have hDD : Below wE.heap.size wE wE.drew := (Below.refl _ _).drew
   have hsE : B ≤ wE.heap.size := Nat.le_trans hszC hbE.size
   have hbE2 : Below wC.heap.size wC wE.drew := hbE.trans (hDD.mono hbE.size)
   have hw0E : Below B w0 wE.drew := HBL.out.trans (hbE2.mono hszC)
   have hw0E' : Below w0.heap.size w0 wE.drew := by rw [← HB.out]; exact hw0E
   have HTO := Lib.hid (toM_any B xb mb pb ib rb cb gP cP N n ln d P M0 sv2 av2 y wE.drew hsE (HX.out.below hbE2) (HPM.out.below (hbE2.mono hszC)) hGM.nodup (fun z hz => by have := hGM.low z hz; rw [HN.out]; exact this) hy0 hy1 (by omega) hfe (HGL.out.below hw0E') l hgl)
   have HNX := Lib.hid hnx
   have hw0C' : Below w0.heap.size w0 wC := by have h := HBL.out; rw [HB.out] at h; exact h
   have g2 := keeps hw0C' (HT.out.lt) (HT.out.cell 2 rfl)
   have g3 := keeps hw0C' hblw c1
   have htE : tb < wE.heap.size := by omega
   have hblB : bl < B := by rw [HB.out]; exact hblw
   have k2 := keeps hbE (by omega) g2
   have k3 := keeps hbE (by omega) g3
   have k1 := hT.cell 1 rfl
   have k4 := hT.cell 2 rfl
   have K2 := keeps hDD htE k2
   have K3 := keeps hDD (by omega) k3
   have K1 := keeps hDD hT.lt k1
   have K4 := keeps hDD hT.lt k4
   have HTD := Lib.hid (hT.below hDD)
   have HOD := Lib.hid (owns_below HO.out hbE2)
   have HPD := Lib.hid (HPM.out.below (hbE2.mono hszC))
   have HW0E := Lib.hid hw0E
   have HWE := Lib.hid hwE
   have HEB := Lib.hid heb
   have hlnN : ln < LN := by rw [HLN.out]; exact hlnL
   clear hok hln9 hlnL hl hgl hxs hy hy0 hy1 hM0 hGM hpre hfe hnx hM40 heb hwE hbE hT hDD hbE2 hw0E hw0E' hw0C' g2 g3 c1 hrow e9
   go_wp2_with fail
   rw [← HWE.out]
   try rw [← HEB.out]
   go_region_held3 (fun w' => w'.cell? ⟨tb, 2, none⟩ = some (.slice (some ⟨bl, ol, none⟩) LN cl) ∧ w'.cell? ⟨eb, 1, none⟩ = some (.int .i64 ln) ∧ w'.cell? ⟨eb, 2, none⟩ = some (.int .i64 y) ∧ w'.cell? ⟨bl, ol + ln, none⟩ = some (.string l))
    (first
     | (refine ⟨?_, ?_, ?_, ?_⟩ <;> with_reducible assumption)
     | go_keep)
    (first
     | (go_at_call 96; with_reducible refine Calls.mono HTO.out ?_; rintro e w9 ⟨rfl, hb9, sv9, av9, hx9, hon9⟩; have hT9 : Blk w9 eb _ _ := hon9.blk HTD.out (by decide); have Z1 := hT9.cell 1 rfl; have Z4 := hT9.cell 2 rfl; have Z2 := keeps hb9 htB K2; have Z3 := keeps hb9 hblB K3)
     | fail)
   have HB9 := Lib.hid (HW0E.out.trans hb9)
   have HP9 := Lib.hid (HPD.out.below hb9)
   have HO9 := Lib.hid (hon9.own HOD.out (by decide))
   have HX9 := Lib.hid hx9
   clear hb9 hx9 hon9 hT9 Z1 Z2 Z3 Z4 k1 k2 k3 k4 K1 K2 K3 K4
   go_wp2
   go_roundw
   case rel => exact ⟨k + 1, sv9, av9, by go_num, by omega, HB9.out, HP9.out, by rw [HNX.out]; exact HX9.out, HO9.out⟩
   case measure => simp [intOf]; omega
  ·obtain rfl : k = M := by omega
   have HF : Hid (es.take k = es) := List.take_of_length_le (by rw [← HM.out]; exact Nat.le_refl _)
   go_wp2
   go_ret
   exact ⟨rfl, HBL.out, sv2, av2, by have h := HX.out; rw [HF.out] at h; exact h⟩

end Go.Proofs.YtjghfgaincnegaaGreatDoor

namespace Go.Proofs.YtjghfgaincnegaaGreatDoor
open Go Go.RowKit

theorem ExpM.turn {B xb mb pb ib rb cb i : Nat} {d : Lts} {P : List Int} {st : MNet} {sv av : Value} {w : World} {j : Nat} (h : ExpM B xb mb pb ib rb cb true i d P st sv av w) (hB : B ≤ w.heap.size) :
  ExpM B xb mb pb w.heap.size rb cb true j d P st sv av (w.alloc (.cells #[.int .i64 j] 3)) := by
 have hb : Below w.heap.size w (w.alloc (.cells #[.int .i64 j] 3)) := (Below.refl _ _).alloc (Nat.le_refl _) _
 have h2 := h.below hb
 exact ⟨h2.base, h2.mbase, h2.pbase, hB, h2.rbase, h2.box, h2.ptr, fun _ => Blk.new w [.int .i64 j] 3, h2.res, h2.rows, h2.map, h2.arcs⟩
theorem explM_results {w : World} {b : Nat} {v0 v1 v2 v3 : Value} {tmps : Array Value} (hc : tmps.getD 6 undef = .pointer (some ⟨b, 0, none⟩)) (hb : Blk w b [v0, v1, v2, v3] 32) :
  (results Tryz.f60 tmps).run Tryz.prog w = .ok (.tuple #[.agg #[v0, v1, v2, v3], tmps.getD 7 undef, tmps.getD 8 undef]) w := by
 have h0 := hb.cell 0 rfl
 have h1 := hb.cell 1 rfl
 have h2 := hb.cell 2 rfl
 have h3 := hb.cell 3 rfl
 simp only [Array.getD_eq_getD_getElem?] at hc
 simp [results, Tryz.results60, go_sem, hc, h0, h1, h2, h3, Result.andThen]
end Go.Proofs.YtjghfgaincnegaaGreatDoor

namespace Go.Proofs.YtjghfgaincnegaaGreatDoor
open Go Go.RowKit

/-- A function of one element that answers P at the element's place, and turns nothing that was there. -/
def AskK (fid : Nat) (caps : Array Value) (P : Nat → Bool) (vs : List Value) (B : Nat) (w : World) : Prop :=
 ∀ w', Below B w w' → ∀ i (h : i < vs.length), Calls Tryz.prog fid (#[vs[i]] ++ caps) w' fun e w'' => e = .returned (.bool (P i)) ∧ Below w'.heap.size w' w''
def fstP (P : Nat → Bool) (n : Nat) : Int := if (List.range n).findIdx P < n then ((List.range n).findIdx P : Nat) else -1
theorem fstP_hit {P : Nat → Bool} {n k : Nat} (hk : k < n) (hn : ∀ j, j < k → P j = false) (h : P k = true) : fstP P n = k := by
 have e : (List.range n).findIdx P = k := by
  rw [List.findIdx_eq (by simpa using hk)]
  refine ⟨by simpa using h, fun j hj => by simpa using hn j hj⟩
 unfold fstP
 rw [e, if_pos hk]
theorem fstP_none {P : Nat → Bool} {n : Nat} (hn : ∀ j, j < n → P j = false) : fstP P n = -1 := by
 unfold fstP
 rw [if_neg]
 intro h
 have h2 := List.findIdx_getElem (w := show (List.range n).findIdx P < (List.range n).length by simpa using h)
 rw [List.getElem_range, hn _ h] at h2
 cases h2

set_option maxRecDepth 100000 in
set_option maxHeartbeats 1000000 in
theorem IndexFuncK (lo : Nat) (v : Value) (vs : List Value) (fid : Nat) (caps : Array Value) (P : Nat → Bool) (w : World) (hv : SliceK 1 encV lo w v vs) (eg : ∀ args w, (callFunc fid args).run Tryz.prog w = .ok (.enter fid args) w) (hP : AskK fid caps P vs w.heap.size w) :
  Calls Tryz.prog 92 #[v, .func (.func fid) #[] caps] w fun e w' => e = .returned (.int .i64 (fstP P vs.length)) ∧ Below w.heap.size w w' := by
 obtain ⟨a, c, rfl, hcn, hcc, hrow⟩ := hv
 have HR := Lib.hid hrow
 have HP := Lib.hid hP
 clear hP hrow
 go_enter Tryz.func92, Tryz.ntmps92
 go_wp2_with fail
 go_loopw [8] (fun i wr => ∃ k : Nat, k ≤ vs.length ∧ i = .int .i64 k ∧ Below w.heap.size w wr ∧ ∀ j, j < k → P j = false) (fun i _ => vs.length - (intOf i).toNat)
 case atStart => exact ⟨0, Nat.zero_le _, rfl, Below.refl _ _, fun _ h => by omega⟩
 case round =>
  obtain ⟨k, hk, rfl, hbl, ha⟩ := hrel
  have HA := Lib.hid ha
  have HBL := Lib.hid hbl
  clear ha
  by_cases hlt : k < vs.length
  ·obtain ⟨b1, o1, rfl, -, hbs, c1⟩ := (HR.out.below hbl).one hlt
   simp only [encV, List.getElem?_cons_zero] at c1
   clear hbl
   have HC := Lib.hid (HP.out wr HBL.out k hlt)
   obtain ⟨x, hx⟩ : ∃ x, x = vs[k] := ⟨_, rfl⟩
   rw [← hx] at c1 HC
   obtain ⟨b, hb⟩ : ∃ b, b = P k := ⟨_, rfl⟩
   rw [← hb] at HC
   have HB := Lib.hid hb
   clear hb hx
   go_wp2_with fail
   refine Calls.mono HC.out ?_
   rintro e w1 ⟨rfl, hb1⟩
   have HB1 := Lib.hid (HBL.out.trans (hb1.mono HBL.out.size))
   clear hb1 c1
   cases b
   ·go_wp2_with fail
    go_roundw
    case rel => exact ⟨k + 1, by omega, by go_num, HB1.out, fun j hj => by
     by_cases e : j = k
     ·subst e; exact HB.out.symm
     ·exact HA.out j (by omega)⟩
    case measure => simp [intOf]; omega
   ·have HE : Hid (fstP P vs.length = k) := fstP_hit hlt HA.out HB.out.symm
    go_wp2_with fail
    go_ret
    exact ⟨ret_int HE.out.symm, HB1.out⟩
  ·clear hbl
   have HN : Hid (fstP P vs.length = -1) := fstP_none fun j hj => HA.out j (by omega)
   go_wp2_with fail
   go_ret
   exact ⟨ret_int HN.out.symm, HBL.out⟩

theorem rowI_at {lo : Nat} {w : World} {v : Value} {xs : List Int} (h : SliceK 1 encI lo w v xs) (hx : xs ≠ []) : ∃ b o c, v = .slice (some ⟨b, o, none⟩) xs.length c ∧ xs.length ≤ c ∧ c ≤ 9223372036854775807 ∧ ∀ j, j < xs.length → w.cell? ⟨b, o + j, none⟩ = some (.int .i64 (xs.getD j 0)) := by
 obtain ⟨a, c, rfl, hn, hc, hrow⟩ := h
 rcases hrow with h0 | ⟨b, o, rfl, -, -, hcell⟩
 ·exact absurd (List.length_eq_zero_iff.1 h0) hx
 ·refine ⟨b, o, c, rfl, hn, hc, fun j hj => ?_⟩
  have h1 := hcell j hj 0 (by decide)
  simp only [encI, List.getElem?_cons_zero] at h1
  rw [List.getD_eq_getElem?_getD, List.getElem?_eq_getElem hj]
  simpa using h1
theorem EqualI_any (lo lo' : Nat) (va vb : Value) (xs ys : List Int) (w : World) (hva : SliceK 1 encI lo w va xs) (hvb : SliceK 1 encI lo' w vb ys) (hx : xs ≠ []) (hy : ys ≠ []) :
  Calls Tryz.prog 57 #[va, vb] w fun e w' => e = .returned (.bool (xs == ys)) ∧ Below w.heap.size w w' := by
 obtain ⟨b1, o1, c1, rfl, n1, m1, h1⟩ := rowI_at hva hx
 obtain ⟨b2, o2, c2, rfl, n2, m2, h2⟩ := rowI_at hvb hy
 refine (Tryz.slices_Equal_int b1 o1 xs.length c1 b2 o2 ys.length c2 xs ys w (Nat.le_refl _) (Nat.le_refl _) (by omega) (by omega) h1 h2).mono ?_
 rintro e w' ⟨rfl, q, rfl⟩
 refine ⟨by rw [List.take_length, List.take_length], below_drewN (Below.refl _ _) q⟩

set_option maxRecDepth 100000 in
theorem nk1_any (lo lo' tb : Nat) (va vb : Value) (xs ys : List Int) (w : World) (hva : SliceK 1 encI lo w va xs) (hvb : SliceK 1 encI lo' w vb ys) (hx : xs ≠ []) (hy : ys ≠ []) (hb : Blk w tb [vb] 26) :
  Calls Tryz.prog 93 #[va, .pointer (some ⟨tb, 0, none⟩)] w fun e w' => e = .returned (.bool (xs == ys)) ∧ Below w.heap.size w w' := by
 have HE := Lib.hid (EqualI_any lo lo' va vb xs ys w hva hvb hx hy)
 have x0 := hb.cell 0 rfl
 obtain ⟨b, hbb⟩ : ∃ b, b = (xs == ys) := ⟨_, rfl⟩
 rw [← hbb] at HE ⊢
 clear hva hvb hb hbb
 go_enter Tryz.func93, Tryz.ntmps93
 go_wp2_with fail
 refine Calls.mono HE.out ?_
 rintro e w1 ⟨rfl, hb1⟩
 have HB1 := Lib.hid hb1
 clear hb1 x0 HE
 go_wp2
 go_ret
 exact ⟨rfl, HB1.out⟩

theorem SliceK.headK {lo n c : Nat} {a : Option Addr} {w : World} {xs : List Value} (h : SliceK 1 encV lo w (.slice a n c) xs) {m : Nat} (hm : m ≤ n) : SliceK 1 encV lo w (.slice a m c) (xs.take m) := by
 obtain ⟨b9, c9, h2, h3, h4, h5⟩ := h
 simp only [Value.slice.injEq] at h2
 obtain ⟨rfl, rfl, rfl⟩ := h2
 refine ⟨_, _, by rw [List.length_take]; congr 1; omega, by rw [List.length_take]; omega, by omega, ?_⟩
 rcases h5 with h5 | ⟨b, o, h6, h7, h8, h9⟩
 ·left; rw [List.length_take]; omega
 ·refine .inr ⟨b, o, h6, h7, h8, fun i hi j hj => ?_⟩
  rw [List.length_take] at hi
  rw [h9 i (by omega) j hj, List.getElem_take]

theorem info_int64K : (Tryz.prog.info? 2).map (fun i => (i.zero, i.size, i.bytes)) = some (some (.int .i64 0), 1, 8) := by kernel_rfl
theorem firstIx_of {ks : List (List Int)} {k : Nat} (hk : k < ks.length) : (firstIx ks)[k]? = some (if fstP (fun j => ks.getD j [] == ks[k]) k < 0 then (k : Int) else fstP (fun j => ks.getD j [] == ks[k]) k) := by
 rw [firstIx_at hk]
 have hg : ∀ j (h : j < ks.length), ks.getD j [] = ks[j] := fun j h => by rw [List.getD_eq_getElem?_getD, List.getElem?_eq_getElem h]; rfl
 have hle : fstIx ks ks[k] ≤ k := by
  rcases Nat.lt_or_ge k (fstIx ks ks[k]) with h | h
  ·exact absurd (List.getElem?_eq_getElem hk) (fstIx_first h)
  ·exact h
 congr 1
 rcases Nat.lt_or_ge (fstIx ks ks[k]) k with h | h
 ·have h1 : fstP (fun j => ks.getD j [] == ks[k]) k = (fstIx ks ks[k] : Nat) := by
   refine fstP_hit h (fun j hj => ?_) ?_
   ·rw [beq_eq_false_iff_ne, hg j (by omega)]
    intro e
    exact fstIx_first hj (by rw [List.getElem?_eq_getElem (show j < ks.length by omega), e])
   ·rw [beq_iff_eq, hg _ (by omega)]
    have h2 := fstIx_get (List.getElem_mem hk)
    rw [List.getElem?_eq_getElem (show fstIx ks ks[k] < ks.length by omega)] at h2
    exact Option.some.inj h2
  rw [h1, if_neg (by omega)]
 ·have e : fstIx ks ks[k] = k := by omega
  have h1 : fstP (fun j => ks.getD j [] == ks[k]) k = -1 := by
   refine fstP_none fun j hj => ?_
   rw [beq_eq_false_iff_ne, hg j (by omega)]
   intro e2
   exact fstIx_first (by omega : j < fstIx ks ks[k]) (by rw [List.getElem?_eq_getElem (show j < ks.length by omega), e2])
  rw [h1, if_pos (by decide), e]

set_option maxRecDepth 100000 in
set_option maxHeartbeats 1000000 in
theorem normalKeys_any (lo : Nat) (v : Value) (vs : List Value) (ks : List (List Int)) (w : World) (hv : OwnIntss 26 2 lo w v vs ks) (hne : ∀ r ∈ ks, r ≠ []) (hz : ks.length ≤ 1000) :
  Calls Tryz.prog 56 #[v] w (MadeNums (blocksL ks) w) := by
 have hvl := hv.1
 have HSV : Hid (SliceK 1 encV lo w v vs) := SliceK.of_owns (enc := encV) encV_len rfl (by rw [flat_encV]; exact hv.2.1)
 have HRW : Hid (∀ i (h : i < vs.length) (h' : i < ks.length), SliceK 1 encI lo w vs[i] ks[i]) := fun i h h' => SliceK.of_owns (enc := encI) encI_len rfl (by rw [flat_encI]; exact hv.2.2.1 i h h')
 have HNE := Lib.hid hne
 obtain ⟨a, c, rfl, hc, hcm⟩ := owns_slice hv.2.1
 have HROW : Hid (RowK 1 encV lo w a vs) := by
  obtain ⟨a9, c9, e9, -, -, h9⟩ := id HSV.out
  simp only [Value.slice.injEq] at e9
  rw [e9.1]
  exact h9
 obtain ⟨N, hN⟩ : ∃ N, N = vs.length := ⟨_, rfl⟩
 rw [← hN] at HSV hvl hc ⊢
 have HN := Lib.hid hN
 have HVL := Lib.hid hvl
 obtain ⟨Q, hQ⟩ : ∃ Q, Q = firstIx ks := ⟨_, rfl⟩
 have HQ := Lib.hid hQ
 have HQN : Hid (Q.length = N) := by unfold Hid; rw [hQ, firstIx_len, hvl]
 have hbQ : blocksL ks = normL Q := by rw [hQ]; rfl
 rw [hbQ]
 have hzN : N ≤ 1000 := by omega
 obtain ⟨i1, hi1, hz10, hz11, hz12⟩ := info_parts info_int64K
 have eg : ∀ args w, (callFunc 93 args).run Tryz.prog w = .ok (.enter 93 args) w := fun args w => by kernel_rfl
 have HEG := Lib.hid eg
 clear hv hne hN hvl hQ hbQ hz eg
 go_enter Tryz.func56, Tryz.ntmps56
 go_wp2
 go_loopw [3, 9] (fun v3 v9 wr => ∃ k : Nat, k ≤ N ∧ v9 = .int .i64 k ∧ Below w.heap.size w wr ∧ wr.ownsRow w.heap.size 2 1 v3 (Q.take k).length ((Q.take k).map (Value.int .i64))) (fun _ v9 _ => N - (intOf v9).toNat)
 case atStart => exact ⟨0, Nat.zero_le _, rfl, Below.refl _ _, World.ownsRow_nil _ _ _ _⟩
 case round =>
  obtain ⟨k, hk, rfl, hbl, ho⟩ := hrel
  obtain ⟨wC, rfl⟩ : ∃ wC : World, wC = wr := ⟨_, rfl⟩
  have HBL := Lib.hid hbl
  have hszC := hbl.size
  have hTk : (Q.take k).length = k := by rw [List.length_take, HQN.out]; omega
  rw [hTk] at ho
  obtain ⟨oa, oc, rfl, -, -⟩ := owns_slice ho
  have HO := Lib.hid ho
  clear ho hTk
  by_cases hlt : k < N
  ·have hlv : k < vs.length := by rw [← HN.out]; exact hlt
   have hlk : k < ks.length := by rw [← HVL.out]; exact hlt
   obtain ⟨b1, o1, rfl, -, hb1, c1⟩ := (HROW.out.below hbl).one hlv
   simp only [encV, List.getElem?_cons_zero] at c1
   have hkr := HRW.out k hlv hlk
   obtain ⟨ra, rc, hr9, -, -, -⟩ := id hkr
   obtain ⟨RL, hRL⟩ : ∃ RL, RL = ks[k].length := ⟨_, rfl⟩
   rw [← hRL] at hr9
   rw [hr9] at c1
   obtain ⟨tb, htb⟩ : ∃ tb, tb = wC.heap.size := ⟨_, rfl⟩
   obtain ⟨wK, hwK⟩ : ∃ wK, wK = wC.alloc (.cells #[.slice ra RL rc] 26) := ⟨_, rfl⟩
   have hbK : Below wC.heap.size wC wK := by rw [hwK]; exact (Below.refl _ _).alloc (Nat.le_refl _) _
   have hT : Blk wK tb [.slice ra RL rc] 26 := by rw [hwK, htb]; exact Blk.new wC _ _
   have hBK := HBL.out.trans (hbK.mono hszC)
   have HBK := Lib.hid hBK
   have HT := Lib.hid hT
   have HOK := Lib.hid (owns_below HO.out hbK)
   have HTK : Hid ((vs.take k).length = k) := by unfold Hid; rw [List.length_take]; omega
   have HIX := Lib.hid (IndexFuncK lo (.slice (some ⟨b1, o1, none⟩) k c) (vs.take k) 93 #[.pointer (some ⟨tb, 0, none⟩)] (fun j => ks.getD j [] == ks[k]) wK ((HSV.out.below hBK).headK (by omega)) HEG.out (fun w' hb i hi => by
    have hik : i < k := by rw [HTK.out] at hi; exact hi
    have hiv : i < vs.length := by omega
    have hil : i < ks.length := by omega
    rw [List.getElem_take]
    have hg : ks.getD i [] = ks[i] := by rw [List.getD_eq_getElem?_getD, List.getElem?_eq_getElem hil]; rfl
    show Calls Tryz.prog 93 (#[vs[i]] ++ #[.pointer (some ⟨tb, 0, none⟩)]) w' fun e w'' => e = .returned (.bool (ks.getD i [] == ks[k])) ∧ Below w'.heap.size w' w''
    rw [hg]
    exact nk1_any lo lo tb vs[i] (.slice ra RL rc) ks[i] ks[k] w' ((HRW.out i hiv hil).below (HBK.out.trans (hb.mono HBK.out.size))) (by rw [← hr9]; exact (HRW.out k hlv hlk).below (HBK.out.trans (hb.mono HBK.out.size))) (HNE.out _ (List.getElem_mem hil)) (HNE.out _ (List.getElem_mem hlk)) (HT.out.below hb)))
   rw [HTK.out] at HIX
   have hfi := firstIx_of hlk
   rw [← HQ.out] at hfi
   obtain ⟨f, hf⟩ : ∃ f, f = fstP (fun j => ks.getD j [] == ks[k]) k := ⟨_, rfl⟩
   rw [← hf] at HIX hfi
   obtain ⟨z, hz⟩ : ∃ z : Int, z = if f < 0 then (k : Int) else f := ⟨_, rfl⟩
   rw [← hz] at hfi
   have hltq : k < Q.length := by rw [HQN.out]; exact hlt
   have hQk : Q[k] = z := by
    rw [List.getElem?_eq_getElem hltq] at hfi
    exact Option.some.inj hfi
   have HNX : Hid ((Q.take (k + 1)).length = k + 1 ∧ (Q.take (k + 1)).map (Value.int .i64) = (Q.take k).map (Value.int .i64) ++ [.int .i64 z]) := by
    refine ⟨by rw [List.length_take, HQN.out]; omega, ?_⟩
    rw [List.take_succ_eq_append_getElem hltq, List.map_append, hQk]
    rfl
   have HZ := Lib.hid hz
   have HWK := Lib.hid hwK
   have HTB := Lib.hid htb
   have hsK : w.heap.size ≤ wK.heap.size := hBK.size
   clear hkr hr9 hRL hwK hbK hT hBK hfi hf hQk hz htb hbl
   go_wp2_with fail
   rw [← HWK.out]
   try rw [← HTB.out]
   refine Calls.mono HIX.out ?_
   rintro e w3 ⟨rfl, hb3⟩
   have HB3 := Lib.hid (HBK.out.trans (hb3.mono hsK))
   have HO3 := Lib.hid (owns_below HOK.out hb3)
   have hs3 := HB3.out.size
   clear hb3 HIX c1
   by_cases hf0 : f < 0
   ·have HZ2 : Hid (z = (k : Int)) := by unfold Hid; rw [HZ.out, if_pos hf0]
    go_wp2_with (at_builtin; refine wpList_append_own _ rfl _ _ 26 rfl w.heap.size 2 i1 (.int .i64 0) 1 8 Tryz.underlying26 hi1 hz10 hz11 hz12 rfl (by decide) _ k _ rfl (HO3.out.alloc _) ⟨w3.heap.size, 0, none⟩ 1 1 [.int .i64 k] rfl rfl ?c1 ?c2 ?c3 ?c4 ?c5 ?_)
    case c1 => exact World.news_of_block (cs := #[.int .i64 k]) (t := 2) (fr := (0, 0)) (heap_alloc_new _ _)
    case c2 => intro u hu; simp at hu; subst hu; rfl
    case c3 => simp [maxLen]; omega
    case c4 => omega
    case c5 => first | omega | (simp; omega)
    intro v7 w7 ho7 hg7 _
    have HB7 : Hid (Below w.heap.size w w7) := (HB3.out.alloc hs3 _).grown hg7 (by simp; omega) (fun b e => (HO3.out.lt b e).1)
    have HO7 : Hid (w7.ownsRow w.heap.size 2 1 v7 (Q.take (k + 1)).length ((Q.take (k + 1)).map (Value.int .i64))) := by unfold Hid; rw [HNX.out.1, HNX.out.2, HZ2.out, List.map_take]; exact ho7
    clear ho7 hg7
    go_wp2
    go_roundw
    case rel => exact ⟨k + 1, by omega, by go_num, HB7.out, HO7.out⟩
    case measure => simp [intOf]; omega
   ·have HZ2 : Hid (z = f) := by unfold Hid; rw [HZ.out, if_neg hf0]
    go_wp2_with (at_builtin; refine wpList_append_own _ rfl _ _ 26 rfl w.heap.size 2 i1 (.int .i64 0) 1 8 Tryz.underlying26 hi1 hz10 hz11 hz12 rfl (by decide) _ k _ rfl (HO3.out.alloc _) ⟨w3.heap.size, 0, none⟩ 1 1 [.int .i64 f] rfl rfl ?c1 ?c2 ?c3 ?c4 ?c5 ?_)
    case c1 => exact World.news_of_block (cs := #[.int .i64 f]) (t := 2) (fr := (0, 0)) (heap_alloc_new _ _)
    case c2 => intro u hu; simp at hu; subst hu; rfl
    case c3 => simp [maxLen]; omega
    case c4 => omega
    case c5 => first | omega | (simp; omega)
    intro v7 w7 ho7 hg7 _
    have HB7 : Hid (Below w.heap.size w w7) := (HB3.out.alloc hs3 _).grown hg7 (by simp; omega) (fun b e => (HO3.out.lt b e).1)
    have HO7 : Hid (w7.ownsRow w.heap.size 2 1 v7 (Q.take (k + 1)).length ((Q.take (k + 1)).map (Value.int .i64))) := by unfold Hid; rw [HNX.out.1, HNX.out.2, HZ2.out, List.map_take]; exact ho7
    clear ho7 hg7
    go_wp2
    go_roundw
    case rel => exact ⟨k + 1, by omega, by go_num, HB7.out, HO7.out⟩
    case measure => simp [intOf]; omega
  ·obtain rfl : k = N := by omega
   have hof : wC.ownsRow w.heap.size 2 1 (.slice oa k oc) Q.length (Q.map (Value.int .i64)) := by
    have h := HO.out
    rw [← HQN.out] at h ⊢
    simpa using h
   have HNM := Lib.hid (normal_any w.heap.size (.slice oa k oc) Q wC (by rw [HQN.out]; omega) (fun x hx => by
    obtain ⟨i, hi, rfl⟩ := List.mem_iff_getElem.1 hx
    have h := firstIx_at (l := ks) (i := i) (by have := HQN.out; have := HVL.out; omega)
    rw [← HQ.out, List.getElem?_eq_getElem hi] at h
    have h2 := fstIx_le ks (ks[i]'(by have := HQN.out; have := HVL.out; omega))
    rw [Option.some.inj h]
    have := HVL.out
    exact ⟨by omega, by omega⟩) (SliceK.of_owns (enc := encI) encI_len HQN.out.symm (by rw [flat_encI]; rw [HQN.out] at hof; exact hof)))
   clear hof hbl
   go_wp2_with fail
   refine Calls.mono HNM.out ?_
   rintro e w5 ⟨v5, rfl, hb5, ho5⟩
   have HB5 := Lib.hid (HBL.out.trans (hb5.mono hszC))
   have HO5 := Lib.hid (own_lower ho5 hszC)
   clear hb5 ho5 HNM
   go_wp2
   go_ret
   exact ⟨_, rfl, HB5.out, HO5.out⟩

end Go.Proofs.YtjghfgaincnegaaGreatDoor

namespace Go.Proofs.YtjghfgaincnegaaGreatDoor
open Go Go.RowKit

theorem Sort_one (a : Option Addr) (n cap : Nat) (w : World) (hn : n ≤ 1) :
  Calls Tryz.prog 111 #[.slice a n cap] w fun e w' => e = .returned (.tuple #[]) ∧ w = w' := by
 have h0 : (0 : Int) ≤ (n : Int) := by omega
 have h1 : (n : Int) ≤ 18446744073709551615 := by omega
 go_enter Tryz.func111, Tryz.ntmps111
 go_wp2_with fail
 refine (Tryz.bits_Len _ _ h0 h1).mono ?_
 rintro e w' ⟨rfl, rfl⟩
 go_wp2_with fail
 refine (pdq_one _ _ _ _ hn).mono ?_
 rintro e w' ⟨rfl, rfl⟩
 go_wp2_with fail
 go_end0
 exact ⟨rfl, rfl⟩

theorem info_int64x : (Tryz.prog.info? 2).map (fun i => (i.zero, i.size, i.bytes)) = some (some (.int .i64 0), 1, 8) := by kernel_rfl

theorem hit_take {p : Lts} {q : Int} {l : ByteArray} {k : Nat} (h : k < p.edges.length) (g : hitB p q l p.edges[k] = true) :
  ((p.edges.take (k + 1)).filter (hitB p q l)).map Edge.dst = ((p.edges.take k).filter (hitB p q l)).map Edge.dst ++ [p.edges[k].dst] := by
 rw [List.take_succ_eq_append_getElem h, List.filter_append, List.map_append]
 simp [g]
theorem miss_take {p : Lts} {q : Int} {l : ByteArray} {k : Nat} (h : k < p.edges.length) (g : hitB p q l p.edges[k] = false) :
  ((p.edges.take (k + 1)).filter (hitB p q l)).map Edge.dst = ((p.edges.take k).filter (hitB p q l)).map Edge.dst := by
 rw [List.take_succ_eq_append_getElem h, List.filter_append, List.map_append]
 simp [g]

set_option maxRecDepth 100000 in
set_option maxHeartbeats 2000000 in
theorem follow_one (lo lo2 : Nat) (p : Lts) (lv ev sv : Value) (q : Int) (l : ByteArray) (w : World) (hvp : Valid p) (hsp : Single p) (hl : SliceK 1 encS lo w lv p.labels) (he : SliceK 3 encE lo w ev p.edges) (hs : SliceK 1 encI lo2 w sv [q]) :
  Calls Tryz.prog 91 #[.agg #[.int .i64 p.states, .int .i64 p.initial, lv, ev], sv, .string l] w (MadeNums (behind p q l) w) := by
 have HS := Lib.hid hs
 have hone := behind_one hvp hsp q l
 have HE := Lib.hid hvp.edge
 have hmost := hvp.most
 clear hs hvp hsp
 obtain ⟨al, cl, rfl, hln, hlc, hlr⟩ := hl
 obtain ⟨ae, ce, rfl, hen, hec, hrow⟩ := he
 have HLR := Lib.hid hlr
 have HER := Lib.hid hrow
 clear hlr hrow
 obtain ⟨i0, hi, hz0, hz1, hz2⟩ := info_parts info_int64x
 have HB0 : Hid (Below w.heap.size w (w.alloc (.cells #[.int .i64 p.states, .int .i64 p.initial, .slice al p.labels.length cl, .slice ae p.edges.length ce] 32))) := (Below.refl _ _).alloc (Nat.le_refl _) _
 have HQ2 : Hid ((w.alloc (.cells #[.int .i64 p.states, .int .i64 p.initial, .slice al p.labels.length cl, .slice ae p.edges.length ce] 32)).cell? ⟨w.heap.size, 2, none⟩ = some (.slice al p.labels.length cl)) := by unfold Hid; simp
 obtain ⟨wB, hwB⟩ : ∃ wB, wB = w.alloc (.cells #[.int .i64 p.states, .int .i64 p.initial, .slice al p.labels.length cl, .slice ae p.edges.length ce] 32) := ⟨_, rfl⟩
 have hwz : wB.heap.size = w.heap.size + 1 := by rw [hwB]; simp
 rw [← hwB] at HB0 HQ2
 have HWB := Lib.hid hwB
 clear hwB
 go_enter Tryz.func91, Tryz.ntmps91
 go_wp2_with fail
 rw [← HWB.out]
 clear HWB
 go_loopw [7, 13] (fun v i wr => ∃ k : Nat, k ≤ p.edges.length ∧ i = .int .i64 k ∧ Below wB.heap.size wB wr ∧ wr.ownsRow wB.heap.size 2 1 v (((p.edges.take k).filter (hitB p q l)).map Edge.dst).length ((((p.edges.take k).filter (hitB p q l)).map Edge.dst).map (Value.int .i64))) (fun _ i _ => p.edges.length - (intOf i).toNat)
 case atStart => exact ⟨0, Nat.zero_le _, rfl, Below.refl _ _, World.ownsRow_nil _ _ _ _⟩
 case round =>
  obtain ⟨k, hk, rfl, hbl, ho⟩ := hrel
  have HBL := Lib.hid hbl
  have HO := Lib.hid ho
  have hsz := hbl.size
  have q2 := keeps hbl (by omega) HQ2.out
  have hwr : w.heap.size < wr.heap.size := by omega
  have hfl : (((p.edges.take k).filter (hitB p q l)).map Edge.dst).length ≤ k := by rw [List.length_map]; exact Nat.le_trans (List.length_filter_le _ _) (List.length_take_le _ _)
  clear hbl ho
  by_cases hlt : k < p.edges.length
  ·have hbr := HB0.out.trans (HBL.out.mono HB0.out.size)
   obtain ⟨be, oe, rfl, -, hbe, e1, e2, e3⟩ := (HER.out.below hbr).edge hlt
   have hek := HE.out k hlt
   obtain ⟨hll, hla⟩ := labAt_idx hek
   obtain ⟨bl, ol, rfl, -, hbl2, c1⟩ := (HLR.out.below hbr).one hll
   simp only [encS, List.getElem?_cons_zero] at c1
   rw [← hla] at c1
   have hl0 : ((p.edges[k].lab.toNat : Nat) : Int) = p.edges[k].lab := by have := hek.l0; omega
   have hl1 := hek.l1
   have hl2 := hek.l0
   obtain ⟨e, hee⟩ : ∃ e, e = p.edges[k] := ⟨_, rfl⟩
   obtain ⟨m, hm⟩ : ∃ m, m = p.edges[k].lab.toNat := ⟨_, rfl⟩
   rw [← hm] at c1 hl0 hll
   rw [← hee] at e1 e2 e3 c1 hl0 hl1 hl2
   have HEE := Lib.hid hee
   rw [← hl0] at e2
   have HBA : Hid (Below wB.heap.size wB (wr.alloc (.cells #[.int .i64 e.src, .int .i64 m, .int .i64 e.dst] 78))) := HBL.out.alloc hsz _
   have HSA : Hid (SliceK 1 encI lo2 (wr.alloc (.cells #[.int .i64 e.src, .int .i64 m, .int .i64 e.dst] 78)) sv [q]) := HS.out.below (hbr.alloc hbr.size _)
   have HOA : Hid ((wr.alloc (.cells #[.int .i64 e.src, .int .i64 m, .int .i64 e.dst] 78)).ownsRow wB.heap.size 2 1 u7 (((p.edges.take k).filter (hitB p q l)).map Edge.dst).length ((((p.edges.take k).filter (hitB p q l)).map Edge.dst).map (Value.int .i64))) := HO.out.alloc _
   have hml : (m : Int) < (p.labels.length : Int) := by omega
   clear hl0 hl1 hl2 hek hbr hla
   cases g1 : ((labAt p e).toList == l.toList)
   ·have HG : Hid (hitB p q l p.edges[k] = false) := by unfold Hid hitB; rw [← hee, g1, Bool.and_false]
    clear hee hm
    go_wp2_with fail
    go_roundw
    case rel => exact ⟨k + 1, by omega, by go_num, HBA.out, by rw [miss_take hlt HG.out]; exact HOA.out⟩
    case measure => simp [intOf]; omega
   ·cases g2 : (q == e.src)
    ·have HG : Hid (hitB p q l p.edges[k] = false) := by
      unfold Hid hitB
      rw [← hee]
      have : (e.src == q) = false := by rw [beq_eq_false_iff_ne] at g2 ⊢; exact fun h => g2 h.symm
      rw [this, Bool.false_and]
     have HG2 : Hid (([q].any fun y => y == e.src) = false) := by unfold Hid; simp [g2]
     clear hee hm g2
     go_wp2_with fail
     refine (Contains_ints lo2 _ _ [q] _ HSA.out).mono ?_
     rintro e' w' ⟨rfl, rfl⟩
     rw [HG2.out]
     go_wp2_with fail
     go_roundw
     case rel => exact ⟨k + 1, by omega, by go_num, HBA.out, by rw [miss_take hlt HG.out]; exact HOA.out⟩
     case measure => simp [intOf]; omega
    ·have HG : Hid (hitB p q l p.edges[k] = true) := by
      unfold Hid hitB
      rw [← hee]
      have : (e.src == q) = true := by rw [beq_iff_eq] at g2 ⊢; exact g2.symm
      rw [this, g1]; rfl
     have HG2 : Hid (([q].any fun y => y == e.src) = true) := by unfold Hid; simp [g2]
     have HD : Hid (p.edges[k].dst = e.dst) := by unfold Hid; rw [← hee]
     clear hee hm g2
     have hfz := hfl
     generalize hfs : ((p.edges.take k).filter (hitB p q l)).map Edge.dst = fs at *
     have HFS := Lib.hid hfs
     clear hfs
     go_wp2_with fail
     refine (Contains_ints lo2 _ _ [q] _ HSA.out).mono ?_
     rintro e' w' ⟨rfl, rfl⟩
     rw [HG2.out]
     go_wp2_with (at_builtin; refine wpList_append_own _ rfl _ _ 26 rfl wB.heap.size 2 i0 (.int .i64 0) 1 8 Tryz.underlying26 hi hz0 hz1 hz2 rfl (by decide) _ _ _ rfl (HOA.out.alloc _) ⟨wr.heap.size + 1, 0, none⟩ 1 1 [.int .i64 e.dst] rfl rfl ?c1 ?c2 ?c3 ?c4 ?c5 ?_)
     case c1 => have := cell_one_new (wr.alloc (.cells #[.int .i64 e.src, .int .i64 m, .int .i64 e.dst] 78)) (.int .i64 e.dst) 2; simpa using this
     case c2 => intro u hu; simp at hu; subst hu; rfl
     case c3 => simp [maxLen]; omega
     case c4 => omega
     case c5 => simp; omega
     intro v' w3 ho1 hg1 _
     have HO2 : Hid (w3.ownsRow wB.heap.size 2 1 v' (fs ++ [e.dst]).length ((fs ++ [e.dst]).map (Value.int .i64))) := by
      unfold Hid
      rw [List.length_append, List.map_append, hwz]
      exact ho1
     have HB2 : Hid (Below wB.heap.size wB w3) := (HBA.out.alloc (by simp; omega) _).grown hg1 (by simp; omega) (fun b e => (HO.out.lt b e).1)
     clear ho1 hg1
     go_wp2_with fail
     go_roundw
     case rel => exact ⟨k + 1, by omega, by go_num, HB2.out, by rw [hit_take hlt HG.out, HFS.out, HD.out]; exact HO2.out⟩
     case measure => simp [intOf]; omega
  ·obtain rfl : k = p.edges.length := by omega
   have HO2 : Hid (wr.ownsRow wB.heap.size 2 1 u7 (behind p q l).length ((behind p q l).map (Value.int .i64))) := by
    have := HO.out
    rw [List.take_length] at this
    exact this
   obtain ⟨a7, c7, rfl, -, -⟩ := owns_slice HO2.out
   clear HO HER HLR q2
   go_wp2_with fail
   refine (Sort_one _ _ _ _ hone).mono ?_
   rintro e' w' ⟨rfl, rfl⟩
   go_wp2_with fail
   refine (Compact_one _ _ _ _ hone).mono ?_
   rintro e' w' ⟨rfl, rfl⟩
   go_wp2_with fail
   go_ret
   exact ⟨_, rfl, HB0.out.trans (HBL.out.mono HB0.out.size), own_lower HO2.out HB0.out.size⟩

end Go.Proofs.YtjghfgaincnegaaGreatDoor

namespace Go.Proofs.YtjghfgaincnegaaGreatDoor
open Go Go.RowKit

set_option maxRecDepth 100000 in
set_option maxHeartbeats 1000000 in
theorem step_any (lo : Nat) (p : Lts) (lv ev : Value) (q : Int) (l : ByteArray) (w : World) (hvp : Valid p) (hsp : Single p) (hl : SliceK 1 encS lo w lv p.labels) (he : SliceK 3 encE lo w ev p.edges) :
  Calls Tryz.prog 55 #[.agg #[.int .i64 p.states, .int .i64 p.initial, lv, ev], .int .i64 q, .string l] w fun e w' => e = .returned (.int .i64 (goTo p q l)) ∧ Below w.heap.size w w' := by
 have HB0 := Lib.hid (box_below w #[.int .i64 p.states, .int .i64 p.initial, lv, ev] 32)
 by_cases hq : q < 0
 ·have HF : Hid (goTo p q l = -1) := by unfold Hid goTo; rw [if_pos hq]
  clear hvp hsp hl he
  go_enter Tryz.func55, Tryz.ntmps55
  go_wp2_with fail
  go_ret
  exact ⟨ret_int HF.out.symm, HB0.out⟩
 ·have hq' : ¬ q < 0 := hq
  have HF := Lib.hid (goTo_behind (p := p) (q := q) (by omega) l)
  have HB1 : Hid (Below w.heap.size w ((w.alloc (.cells #[.int .i64 p.states, .int .i64 p.initial, lv, ev] 32)).alloc (.cells #[.int .i64 q] 2))) := HB0.out.alloc HB0.out.size _
  have HS : Hid (SliceK 1 encI 0 ((w.alloc (.cells #[.int .i64 p.states, .int .i64 p.initial, lv, ev] 32)).alloc (.cells #[.int .i64 q] 2)) (.slice (some ⟨w.heap.size + 1, 0, none⟩) 1 1) [q]) := by
   have := World.ownsRow_lit (base := 0) (e := 2) (size := 1) (w.alloc (.cells #[.int .i64 p.states, .int .i64 p.initial, lv, ev] 32)) #[.int .i64 q] 1 (Nat.zero_le _) (by decide) (by simp)
   have e9 : (w.alloc (.cells #[.int .i64 p.states, .int .i64 p.initial, lv, ev] 32)).heap.size = w.heap.size + 1 := by simp
   rw [e9] at this
   exact SliceK.of_owns (e := 2) encI_len rfl (by rw [flat_encI]; simpa using this)
  have HC := Lib.hid (follow_one lo 0 p lv ev (.slice (some ⟨w.heap.size + 1, 0, none⟩) 1 1) q l _ hvp hsp (hl.below HB1.out) (he.below HB1.out) HS.out)
  clear hvp hsp hl he hq
  go_enter Tryz.func55, Tryz.ntmps55
  go_wp2_with fail
  refine Calls.mono HC.out ?_
  rintro e w1 ⟨v, rfl, hb1, ho1⟩
  have HB2 := Lib.hid (HB1.out.trans (hb1.mono HB1.out.size))
  clear hb1
  obtain ⟨av, cv, rfl, hc1, hc2⟩ := owns_slice ho1
  cases hbh : behind p q l with
  | nil =>
   have HG : Hid (goTo p q l = -1) := by unfold Hid; rw [HF.out, hbh]; rfl
   clear ho1 hc1
   simp only [List.length_nil]
   go_wp2_with fail
   go_ret
   exact ⟨ret_int HG.out.symm, HB2.out⟩
  | cons x r =>
   have HG : Hid (goTo p q l = x) := by unfold Hid; rw [HF.out, hbh]; rfl
   rw [hbh] at ho1
   have hsl : SliceK 1 encI 0 w1 (.slice av (x :: r).length cv) (x :: r) := SliceK.of_owns (e := 2) encI_len rfl (by rw [flat_encI]; exact own_lower ho1 (Nat.zero_le _))
   obtain ⟨a2, c2, e2, h2, h3, hrow⟩ := hsl
   simp only [Value.slice.injEq, true_and] at e2
   obtain ⟨rfl, rfl⟩ := e2
   obtain ⟨b1, o1, rfl, -, hbs, k1⟩ := hrow.one (i := 0) (by simp)
   simp only [encI, List.getElem?_cons_zero, List.getElem_cons_zero, Nat.add_zero] at k1
   have hlen : (0 : Int) < ((x :: r).length : Int) := by simp
   obtain ⟨n, hn⟩ : ∃ n, n = (x :: r).length := ⟨_, rfl⟩
   rw [← hn] at hlen
   simp only [← hn]
   clear ho1 hrow hc1 h2 hn hbh
   go_wp2_with fail
   go_ret
   exact ⟨ret_int HG.out.symm, HB2.out⟩

end Go.Proofs.YtjghfgaincnegaaGreatDoor

namespace Go.Proofs.YtjghfgaincnegaaGreatDoor
open Go Go.RowKit

theorem slice_from (T e : TypeId) (s : Nat) (hT : Tryz.prog.underlying T = some (.slice e)) (hs : ∀ w, (sizeOf e).run Tryz.prog w = .ok s w) (a : Addr) (n c : Nat) (hn : 1 ≤ n) (w : World) :
  (Instr.slice T (.slice (some a) n c) (some (.int .i64 1)) none none).run Tryz.prog w = .ok (.slice (some (if c = 1 then a else a.add s)) (n - 1) (c - 1)) w := by
 have hel : Tryz.prog.elem T = e := by simp [Program.elem, hT]
 rw [run_slice_l w T (some a) n c (by rw [hel]; exact hT) .i64 1 (by decide) (by omega), hel, hs]
 simp only [Result.andThen, sliced, Nat.one_mul, Int.toNat_one]
 by_cases h : c = 1
 ·simp [h]
 ·simp [h]
end Go.Proofs.YtjghfgaincnegaaGreatDoor

namespace Go.Proofs.YtjghfgaincnegaaGreatDoor
open Go Go.RowKit

theorem mf_results {w : World} {b : Nat} {v0 v1 v2 v3 : Value} {tmps : Array Value} (hc : tmps.getD 4 undef = .pointer (some ⟨b, 0, none⟩)) (hb : Blk w b [v0, v1, v2, v3] 32) :
  (results Tryz.f23 tmps).run Tryz.prog w = .ok (.tuple #[.agg #[v0, v1, v2, v3], tmps.getD 5 undef]) w := by
 have h0 := hb.cell 0 rfl
 have h1 := hb.cell 1 rfl
 have h2 := hb.cell 2 rfl
 have h3 := hb.cell 3 rfl
 simp only [Array.getD_eq_getD_getElem?] at hc
 simp [results, Tryz.results23, go_sem, hc, h0, h1, h2, h3, Result.andThen]
theorem info_int64Q : (Tryz.prog.info? 2).map (fun i => (i.zero, i.size, i.bytes)) = some (some (.int .i64 0), 1, 8) := by kernel_rfl
theorem info_intsQ : (Tryz.prog.info? 26).map (fun i => (i.zero, i.size, i.bytes)) = some (some (.slice none 0 0), 1, 24) := by kernel_rfl
/-- A state's key, its first entries. -/
def keyTo (d : Lts) (P : List Int) (k j : Nat) : List Int := P.getD k 0 :: (blkOf (goOf d) j P k)
theorem keyTo_succ (d : Lts) (P : List Int) (k j : Nat) : keyTo d P k (j + 1) = keyTo d P k j ++ [if goOf d k j < 0 then -1 else P.getD (goOf d k j).toNat 0] := by
 unfold keyTo blkOf
 rw [List.range_succ, List.map_append]
 rfl
theorem keyTo_len (d : Lts) (P : List Int) (k j : Nat) : (keyTo d P k j).length = j + 1 := by simp [keyTo, blkOf]
def keysTo (d : Lts) (P : List Int) (m n : Nat) : List (List Int) := (List.range n).map fun k => keyTo d P k m
theorem keysTo_succ (d : Lts) (P : List Int) (m n : Nat) : keysTo d P m (n + 1) = keysTo d P m n ++ [keyTo d P n m] := by unfold keysTo; rw [List.range_succ, List.map_append]; rfl
theorem keysTo_len (d : Lts) (P : List Int) (m n : Nat) : (keysTo d P m n).length = n := by simp [keysTo]
theorem keysTo_step (d : Lts) (P : List Int) (m n : Nat) : blocksL (keysTo d P m n) = implStep (goOf d) n m P := rfl

end Go.Proofs.YtjghfgaincnegaaGreatDoor

namespace Go.Proofs.YtjghfgaincnegaaGreatDoor
open Go Go.RowKit

theorem firsts_map {f : Int → Int} : ∀ (l : List Int), (∀ x ∈ l, ∀ y ∈ l, f x = f y → x = y) → firsts (l.map f) = (firsts l).map f := by
 have key : ∀ (m acc : List Int), (∀ x, x ∈ acc ∨ x ∈ m → ∀ y, y ∈ acc ∨ y ∈ m → f x = f y → x = y) → (m.map f).foldl addNew (acc.map f) = (m.foldl addNew acc).map f := by
  intro m
  induction m with
  | nil => intro acc _; rfl
  | cons x m ih =>
   intro acc h
   rw [List.map_cons, List.foldl_cons, List.foldl_cons]
   have e : addNew (acc.map f) (f x) = (addNew acc x).map f := by
    unfold addNew
    by_cases hx : x ∈ acc
    ·rw [if_pos hx, if_pos (List.mem_map.2 ⟨x, hx, rfl⟩)]
    ·rw [if_neg hx, if_neg, List.map_append]
     ·rfl
     ·intro k
      obtain ⟨y, hy, hxy⟩ := List.mem_map.1 k
      exact hx (h y (.inl hy) x (.inr (List.mem_cons_self ..)) hxy ▸ hy)
   rw [e]
   refine ih _ fun a ha b hb => ?_
   have q : ∀ z, z ∈ addNew acc x ∨ z ∈ m → z ∈ acc ∨ z ∈ x :: m := by
    intro z hz
    unfold addNew at hz
    split at hz
    ·exact hz.elim .inl fun k => .inr (List.mem_cons_of_mem _ k)
    ·rcases hz with k | k
     ·rcases List.mem_append.1 k with k | k
      ·exact .inl k
      ·rw [List.mem_singleton] at k; subst k; exact .inr (List.mem_cons_self ..)
     ·exact .inr (List.mem_cons_of_mem _ k)
   exact h a (q a ha) b (q b hb)
 intro l h
 have := key l [] (fun x hx y hy => h x (hx.elim (fun k => by cases k) id) y (hy.elim (fun k => by cases k) id))
 exact this
theorem fstIx_map {f : Int → Int} : ∀ (l : List Int) (x : Int), (∀ y ∈ l, f y = f x → y = x) → fstIx (l.map f) (f x) = fstIx l x
 | [], _, _ => rfl
 | y :: l, x, h => by
  rw [List.map_cons]
  unfold fstIx
  by_cases e : y = x
  ·rw [if_pos e, if_pos (by rw [e])]
  ·rw [if_neg e, if_neg fun k => e (h y (List.mem_cons_self ..) k), fstIx_map l x fun z hz => h z (List.mem_cons_of_mem _ hz)]
theorem normL_map {f : Int → Int} {l : List Int} (h : ∀ x ∈ l, ∀ y ∈ l, f x = f y → x = y) : normL (l.map f) = normL l := by
 unfold normL
 rw [firsts_map l h, List.map_map]
 refine List.map_congr_left fun x hx => ?_
 show ((fstIx ((firsts l).map f) (f x) : Nat) : Int) = _
 rw [fstIx_map _ _ fun y hy => h y ((firsts_mem l y).1 hy) x hx]
theorem normL_norm (l : List Int) : normL (normL l) = normL l := by
 conv => lhs; rw [show normL l = l.map fun x => (fstIx (firsts l) x : Int) from rfl]
 refine normL_map fun x hx y hy e => ?_
 exact fstIx_inj ((firsts_mem l x).2 hx) ((firsts_mem l y).2 hy) (by omega)
theorem normL_first (l : List Int) : blocksL l = normL l := by
 unfold blocksL firstIx
 refine normL_map fun x hx y hy e => ?_
 exact fstIx_inj hx hy (by omega)

/-- The partitions, round by round, from a given one on. -/
def partsV (go : Nat → Nat → Int) (n m : Nat) (P0 : List Int) : Nat → List Int
 | 0 => P0
 | r + 1 => implStep go n m (partsV go n m P0 r)
theorem partsV_len {go : Nat → Nat → Int} {P0 : List Int} {n m : Nat} (hL : P0.length = n) : ∀ r, (partsV go n m P0 r).length = n
 | 0 => hL
 | r + 1 => by show (implStep _ _ _ _).length = n; unfold implStep; rw [blocksL_len]; simp
theorem partsV_range {go : Nat → Nat → Int} {P0 : List Int} {n m : Nat} (hL : P0.length = n) (hN : normL P0 = P0) : ∀ (r : Nat) {x : Int}, x ∈ partsV go n m P0 r → 0 ≤ x ∧ x < (n : Int)
 | 0, x, h => by
  have h0 : x ∈ P0 := h
  rw [← hN] at h0
  have := normL_range h0
  omega
 | r + 1, x, h => by
  have h1 := blocksL_range (show x ∈ blocksL _ from h)
  simpa using h1
/-- Two states in one block. -/
def EqV (go : Nat → Nat → Int) (n m : Nat) (P0 : List Int) (r i j : Nat) : Prop := (partsV go n m P0 r).getD i 0 = (partsV go n m P0 r).getD j 0
theorem eqV_succ {go : Nat → Nat → Int} {P0 : List Int} {n m r i j : Nat} (hL : P0.length = n) (hi : i < n) (hj : j < n) : EqV go n m P0 (r + 1) i j ↔ EqV go n m P0 r i j ∧ blkOf go m (partsV go n m P0 r) i = blkOf go m (partsV go n m P0 r) j := by
 unfold EqV
 rw [getD_eq (p := partsV go n m P0 (r + 1)) (by rw [partsV_len hL]; exact hi), getD_eq (p := partsV go n m P0 (r + 1)) (by rw [partsV_len hL]; exact hj)]
 have h := blocksL_pat (l := (List.range n).map fun i => (partsV go n m P0 r).getD i 0 :: blkOf go m (partsV go n m P0 r) i) (i := i) (j := j) (by simpa using hi) (by simpa using hj)
 rw [List.getElem_map, List.getElem_map, List.getElem_range, List.getElem_range, List.cons.injEq] at h
 exact h
theorem eqV_mono {go : Nat → Nat → Int} {P0 : List Int} {n m : Nat} (hL : P0.length = n) (r : Nat) {i j : Nat} (hi : i < n) (hj : j < n) (h : EqV go n m P0 (r + 1) i j) : EqV go n m P0 r i j := ((eqV_succ hL hi hj).1 h).1
/-- A partition is fixed by which states are in one block. -/
theorem partsV_pat {go : Nat → Nat → Int} {P0 : List Int} {n m r s : Nat} (hL : P0.length = n) (hN : normL P0 = P0) (h : ∀ i j, i < n → j < n → (EqV go n m P0 r i j ↔ EqV go n m P0 s i j)) : partsV go n m P0 r = partsV go n m P0 s := by
 have key : ∀ r, partsV go n m P0 r = blocksL (partsV go n m P0 r) := fun r => by
  cases r with
  | zero => show P0 = blocksL P0; rw [normL_first, hN]
  | succ r =>
   show blocksL _ = blocksL (blocksL _)
   refine blocksL_same (by rw [blocksL_len]) fun i j hi hj => ?_
   rw [blocksL_pat (by simpa using hi) (by simpa using hj)]
 rw [key r, key s]
 refine blocksL_same (by rw [partsV_len hL, partsV_len hL]) fun i j hi hj => ?_
 rw [partsV_len hL] at hi hj
 have h1 := h i j hi hj
 unfold EqV at h1
 rwa [getD_eq (by rw [partsV_len hL]; exact hi), getD_eq (by rw [partsV_len hL]; exact hj), getD_eq (by rw [partsV_len hL]; exact hi), getD_eq (by rw [partsV_len hL]; exact hj)] at h1
theorem partsV_stays {go : Nat → Nat → Int} {P0 : List Int} {n m r : Nat} (h : partsV go n m P0 r = partsV go n m P0 (r + 1)) : ∀ d, partsV go n m P0 (r + d) = partsV go n m P0 r
 | 0 => rfl
 | d + 1 => by
  show implStep _ _ _ (partsV go n m P0 (r + d)) = _
  rw [partsV_stays h d]
  exact h.symm
/-- The first state of its block. -/
def isFstV (go : Nat → Nat → Int) (n m : Nat) (P0 : List Int) (r i : Nat) : Bool := decide (fstIx (partsV go n m P0 r) ((partsV go n m P0 r).getD i 0) = i)
def cntV (go : Nat → Nat → Int) (n m : Nat) (P0 : List Int) (r : Nat) : Nat := ((List.range n).filter (isFstV go n m P0 r)).length
theorem isFstV_iff {go : Nat → Nat → Int} {P0 : List Int} {n m r i : Nat} (hL : P0.length = n) (hi : i < n) : isFstV go n m P0 r i = true ↔ ∀ j, j < i → ¬ EqV go n m P0 r j i := by
 unfold isFstV
 have hl := partsV_len (go := go) (m := m) hL r
 rw [decide_eq_true_iff]
 constructor
 ·intro h j hj he
  have : j < fstIx (partsV go n m P0 r) ((partsV go n m P0 r).getD i 0) := by omega
  refine fstIx_first this ?_
  unfold EqV at he
  rw [← he, getD_eq (by omega)]
  exact List.getElem?_eq_getElem _
 ·intro h
  refine fstIx_eq ?_ fun j hj hk => ?_
  ·rw [getD_eq (by omega)]; exact List.getElem?_eq_getElem _
  ·refine h j hj ?_
   unfold EqV
   rw [List.getD_eq_getElem?_getD (l := partsV go n m P0 r) (i := j), hk]
   rfl
theorem fstV_of {go : Nat → Nat → Int} {P0 : List Int} {n m r i : Nat} (hL : P0.length = n) (hi : i < n) : ∃ f, f ≤ i ∧ EqV go n m P0 r f i ∧ isFstV go n m P0 r f = true := by
 have hl := partsV_len (go := go) (m := m) hL r
 have hm : (partsV go n m P0 r).getD i 0 ∈ partsV go n m P0 r := by rw [getD_eq (by omega)]; exact List.getElem_mem _
 have h1 := fstIx_get hm
 have hle : fstIx (partsV go n m P0 r) ((partsV go n m P0 r).getD i 0) ≤ i := by
  rcases Nat.lt_or_ge i (fstIx (partsV go n m P0 r) ((partsV go n m P0 r).getD i 0)) with k | k
  ·exact absurd (by rw [getD_eq (by omega)]; exact List.getElem?_eq_getElem _) (fstIx_first k)
  ·exact k
 refine ⟨_, hle, ?_, ?_⟩
 ·unfold EqV
  rw [List.getD_eq_getElem?_getD (l := partsV go n m P0 r) (i := fstIx (partsV go n m P0 r) ((partsV go n m P0 r).getD i 0)), h1]
  rfl
 ·unfold isFstV
  rw [decide_eq_true_iff]
  congr 1
  rw [List.getD_eq_getElem?_getD (l := partsV go n m P0 r) (i := fstIx (partsV go n m P0 r) ((partsV go n m P0 r).getD i 0)), h1]
  rfl
theorem cntV_grows {go : Nat → Nat → Int} {P0 : List Int} {n m r : Nat} (hL : P0.length = n) (hN : normL P0 = P0) (hne : partsV go n m P0 r ≠ partsV go n m P0 (r + 1)) : cntV go n m P0 r < cntV go n m P0 (r + 1) := by
 unfold cntV
 refine filter_lt _ (fun x hx hp => ?_) ?_
 ·have hx := List.mem_range.1 hx
  rw [isFstV_iff hL hx] at hp ⊢
  exact fun j hj he => hp j hj (eqV_mono hL r (by omega) hx he)
 ·refine Classical.byContradiction fun hno => hne ?_
  have hall : ∀ x, x < n → isFstV go n m P0 (r + 1) x = true → isFstV go n m P0 r x = true := fun x hx h1 => by
   cases h2 : isFstV go n m P0 r x with
   | true => rfl
   | false => exact absurd ⟨x, List.mem_range.2 hx, h2, h1⟩ hno
  refine partsV_pat hL hN fun i j hi hj => ⟨fun h => ?_, eqV_mono hL r hi hj⟩
  obtain ⟨f, hf, he, hfi⟩ := fstV_of (go := go) (m := m) (r := r + 1) hL hi
  obtain ⟨g, hg, ke, kfi⟩ := fstV_of (go := go) (m := m) (r := r + 1) hL hj
  have h1 := hall f (by omega) hfi
  have h2 := hall g (by omega) kfi
  rw [isFstV_iff hL (by omega)] at h1 h2
  have e1 := eqV_mono hL r (show f < n by omega) hi he
  have e2 := eqV_mono hL r (show g < n by omega) hj ke
  have efg : EqV go n m P0 r f g := by unfold EqV at *; rw [e1, h, e2]
  have : f = g := by
   rcases Nat.lt_trichotomy f g with k | k | k
   ·exact absurd efg (h2 f k)
   ·exact k
   ·exact absurd (by unfold EqV at *; exact efg.symm) (h1 g k)
  subst this
  unfold EqV at *
  rw [← he, ke]
theorem cntV_le (go : Nat → Nat → Int) (n m : Nat) (P0 : List Int) (r : Nat) : cntV go n m P0 r ≤ n := by
 unfold cntV
 refine Nat.le_trans (List.length_filter_le _ _) ?_
 simp
/-- As long as nothing stays, there are rounds fewer than states. -/
theorem roundsV_few {go : Nat → Nat → Int} {P0 : List Int} {n m : Nat} (hn : 0 < n) (hL : P0.length = n) (hN : normL P0 = P0) {r : Nat} (h : ∀ s, s < r → partsV go n m P0 s ≠ partsV go n m P0 (s + 1)) : r < n := by
 have h0 : 1 ≤ cntV go n m P0 0 := by
  unfold cntV
  rw [Nat.succ_le_iff, List.length_pos_iff]
  refine List.ne_nil_of_mem (a := 0) (List.mem_filter.2 ⟨List.mem_range.2 hn, ?_⟩)
  rw [isFstV_iff hL hn]
  exact fun j hj => absurd hj (Nat.not_lt_zero _)
 have h1 : ∀ s, s ≤ r → s + 1 ≤ cntV go n m P0 s := by
  intro s
  induction s with
  | zero => exact fun _ => h0
  | succ s ih =>
   intro hs
   have := ih (by omega)
   have := cntV_grows hL hN (h s (by omega))
   omega
 have := h1 r (Nat.le_refl _)
 have := cntV_le go n m P0 r
 omega
/-- Where a partition stays, it is the last one. -/
theorem partsV_last {go : Nat → Nat → Int} {P0 : List Int} {n m r : Nat} (hr : r ≤ n) (h : partsV go n m P0 r = partsV go n m P0 (r + 1)) : partsV go n m P0 r = partsV go n m P0 n := by
 have := partsV_stays h (n - r)
 rw [show r + (n - r) = n from by omega] at this
 exact this.symm

end Go.Proofs.YtjghfgaincnegaaGreatDoor
