/-
  What the closure over a state's edges computes: all edges of one state.
  What explored computes at states: the search over the blocks, and its system.
  The program's normalKeys: the blocks of equal keys.
-/
import Derived.Test.YtaabkeejbhdenaaGreatDoorM20
import Derived.Test.YtaabkeejbhdenaaGreatDoorM13
import Derived.Test.YtaabkeejbhdenaaGreatDoorM19
import Derived.Test.YtaabkeejbhdenaaGreatDoorM15
import Derived.Test.YtaabkeejbhdenaaGreatDoorM6
import Derived.Test.YtaabkeejbhdenaaGreatDoorM4
import Derived.Deep.AppendLies
namespace Go.Proofs.YtaabkeejbhdenaaGreatDoor
open Go Go.RowKit

set_option maxRecDepth 100000 in
set_option maxHeartbeats 2000000 in
theorem movesM_any (B xb mb pb ib rb cb gP cP N n tb lo : Nat) (d : Lts) (P : List Int) (st : MNet) (x : Int) (lv ev sv av : Value) (w0 w : World) (hv : Valid d) (hs : Single d) (hB : B = w0.heap.size) (hbl : Below B w0 w) (hE : ExpM B xb mb pb ib rb cb true n d P st sv av w) (hp : PMem B cb gP cP N P w)
  (hl : SliceK 1 encS lo w0 lv d.labels) (he : SliceK 3 encE lo w0 ev d.edges) (ht : Blk w0 tb [.int .i64 d.states, .int .i64 d.initial, lv, ev] 29) (g : Glob w0) (hG : MGood d P st) (hN : (N : Int) = d.states) (hn : n < st.rows.length) (he500 : st.edges.length ≤ 500) :
  Calls Tryz.prog 116 #[.int .i64 x, .func (.func 158) #[] #[.pointer (some ⟨pb, 0, none⟩), .pointer (some ⟨ib, 0, none⟩)], .pointer (some ⟨tb, 0, none⟩)] w fun e w' =>
   e = .returned (.bool true) ∧ Below B w0 w' ∧ ∃ sv' av', ExpM B xb mb pb ib rb cb true n d P (mrow P n (outOf d x) st) sv' av' w' := by
 have hbw : Below w0.heap.size w0 w := by rw [← hB]; exact hbl
 have hszB : B ≤ w.heap.size := by rw [hB]; exact hbw.size
 obtain ⟨es, hes⟩ : ∃ es, es = outOf d x := ⟨_, rfl⟩
 have hok : ∀ e ∈ es, (1 ≤ e.lab ∧ e.lab < d.labels.length) ∧ 0 ≤ e.dst ∧ e.dst < d.states := by rw [hes]; exact out_ok hv hs
 have hMl : es.length ≤ 300 := by rw [hes]; exact Nat.le_trans (List.length_filter_le _ _) hv.most
 have HOUT := Lib.hid (out_any lo d lv ev x w (by have := hv.most; omega) (he.below hbw))
 unfold MadeOut at HOUT
 rw [← hes] at HOUT ⊢
 have t0 := keeps hbw ht.lt (ht.cell 0 rfl)
 have t1 := keeps hbw ht.lt (ht.cell 1 rfl)
 have t2 := keeps hbw ht.lt (ht.cell 2 rfl)
 have t3 := keeps hbw ht.lt (ht.cell 3 rfl)
 have htB : tb < B := by rw [hB]; exact ht.lt
 obtain ⟨M, hM⟩ : ∃ M, M = es.length := ⟨_, rfl⟩
 rw [← hM] at HOUT hMl
 obtain ⟨al, cl, rfl, hln, hlc, hlrow⟩ := hl
 obtain ⟨LN, hLN⟩ : ∃ LN, LN = d.labels.length := ⟨_, rfl⟩
 rw [← hLN] at hln ht t2 HOUT
 have HT := Lib.hid ht
 have HV := Lib.hid hv
 have HLR := Lib.hid hlrow
 have HLN := Lib.hid hLN
 have HOKS := Lib.hid hok
 have HM := Lib.hid hM
 have HG := Lib.hid hG
 have HN := Lib.hid hN
 have HGL := Lib.hid g
 have HB := Lib.hid hB
 have HX := Lib.hid hE
 have HPM := Lib.hid hp
 have HBL := Lib.hid hbl
 have HS0 := Lib.hid hn
 have HE5 := Lib.hid he500
 clear hv
 clear hs
 clear hbl
 clear hE
 clear hp
 clear he
 clear ht
 clear g
 clear hG
 clear hN
 clear hn
 clear he500
 clear hlrow
 clear hes
 clear hok
 clear hM
 clear hLN
 clear hB
 clear hbw
 go_enter Tryz.func116, Tryz.ntmps116
 go_wp2_with fail
 refine Calls.mono HOUT.out ?_
 rintro e w1 ⟨vo, rfl, hb1, ho1⟩
 obtain ⟨oa, oc, rfl, -, -⟩ := owns_slice ho1
 have HB1 := Lib.hid (HBL.out.trans (hb1.mono hszB))
 have HX1 := Lib.hid (HX.out.below hb1)
 have HP1 := Lib.hid (HPM.out.below (hb1.mono hszB))
 have HO1 := Lib.hid ho1
 clear hb1 ho1 HOUT t0 t1 t2 t3 HX HPM HBL
 go_wp2
 go_loopw [12] (fun v12 wr => ∃ (k : Nat) (sv' av' : Value), v12 = .int .i64 k ∧ k ≤ M ∧ Below B w0 wr ∧ PMem B cb gP cP N P wr ∧ ExpM B xb mb pb ib rb cb true n d P (mrow P n (es.take k) st) sv' av' wr ∧ wr.ownsRow w.heap.size 73 3 (.slice oa M oc) M (es.flatMap encE)) (fun v12 _ => M - (intOf v12).toNat)
 case atStart => exact ⟨0, sv, av, rfl, Nat.zero_le _, HB1.out, HP1.out, by simpa [mrow] using HX1.out, HO1.out⟩
 case round =>
  clear HB1 HX1 HP1 HO1
  obtain ⟨k, sv2, av2, rfl, hk, hbl, hpm, hx, ho⟩ := hrel
  obtain ⟨wC, rfl⟩ : ∃ wC : World, wC = wr := ⟨_, rfl⟩
  have HBL := Lib.hid hbl
  have HPM := Lib.hid hpm
  have HX := Lib.hid hx
  have HO := Lib.hid ho
  have hszC : B ≤ wC.heap.size := by rw [HB.out]; exact hbl.size
  clear hbl hpm hx ho
  by_cases hlt : k < M
  ·have hke : k < es.length := by rw [← HM.out]; exact hlt
   have hsk : SliceK 3 encE w.heap.size wC (.slice oa M oc) es := SliceK.of_owns (enc := encE) (e := 73) encE_len HM.out HO.out
   obtain ⟨oa', oc', e9, -, -, hrow⟩ := hsk
   obtain ⟨rfl, -, rfl⟩ : oa = oa' ∧ M = es.length ∧ oc = oc' := by simpa using e9
   obtain ⟨be, oe, rfl, -, hbe, e1, e2, e3⟩ := hrow.edge hke
   have hok := HOKS.out _ (List.getElem_mem hke)
   obtain ⟨ln, hln9⟩ : ∃ ln : Nat, (ln : Int) = es[k].lab := ⟨es[k].lab.toNat, by omega⟩
   have hlnL : ln < d.labels.length := by omega
   obtain ⟨bl, ol, rfl, -, hblw, c1⟩ := HLR.out.one hlnL
   simp only [encS, List.getElem?_cons_zero] at c1
   obtain ⟨l, hl⟩ : ∃ l, l = d.labels[ln] := ⟨_, rfl⟩
   rw [← hl] at c1
   have hgl : d.labels.getD ln ByteArray.empty = l := by rw [List.getD_eq_getElem?_getD, List.getElem?_eq_getElem hlnL, hl]; rfl
   obtain ⟨xs, hxs⟩ : ∃ xs, xs = es[k].src := ⟨_, rfl⟩
   obtain ⟨y, hy⟩ : ∃ y, y = es[k].dst := ⟨_, rfl⟩
   rw [← hxs] at e1
   rw [← hln9] at e2
   rw [← hy] at e3
   have hy0 : 0 ≤ y := by rw [hy]; exact hok.2.1
   have hy1 : y < (N : Int) := by rw [hy, HN.out]; exact hok.2.2
   obtain ⟨M0, hM0⟩ : ∃ M0, M0 = mrow P n (es.take k) st := ⟨_, rfl⟩
   have hGM : MGood d P M0 := by rw [hM0]; exact HG.out.row _ HS0.out fun e he => HOKS.out e (List.mem_of_mem_take he)
   have hpre := mrow_prefix P n (es.take k) st
   rw [← hM0] at hpre HX
   have hfe : M0.edges.length ≤ 1000 := by
    have h1 := hpre.2
    rw [List.length_take] at h1
    have := HE5.out
    omega
   have hnx : mrow P n (es.take (k + 1)) st = ⟨madd P M0.rows y, M0.edges ++ [⟨(n : Int), (ln : Int), (mplace P M0.rows y : Int)⟩]⟩ := by
    rw [List.take_succ_eq_append_getElem hke, mrow_snoc, ← hM0]
    unfold mstep
    rw [← hy, ← hln9]
   have hM40 := hGM.few (fun z hz => HPM.out.low z hz)
   obtain ⟨eb, heb⟩ : ∃ eb, eb = wC.heap.size := ⟨_, rfl⟩
   obtain ⟨wE, hwE⟩ : ∃ wE, wE = wC.alloc (.cells #[.int .i64 xs, .int .i64 ln, .int .i64 y] 73) := ⟨_, rfl⟩
   have hbE : Below wC.heap.size wC wE := by rw [hwE]; exact (Below.refl _ _).alloc (Nat.le_refl _) _
   have hT : Blk wE eb [.int .i64 xs, .int .i64 ln, .int .i64 y] 73 := by rw [hwE, heb]; exact Blk.new wC _ _
   have hDD : Below wE.heap.size wE wE.drew := (Below.refl _ _).drew
   have hsE : B ≤ wE.heap.size := Nat.le_trans hszC hbE.size
   have hbE2 : Below wC.heap.size wC wE.drew := hbE.trans (hDD.mono hbE.size)
   have hw0E : Below B w0 wE.drew := HBL.out.trans (hbE2.mono hszC)
   have hw0E' : Below w0.heap.size w0 wE.drew := by rw [← HB.out]; exact hw0E
   have HTO := Lib.hid (toM_any B xb mb pb ib rb cb gP cP N n ln d P M0 sv2 av2 y wE.drew hsE (HX.out.below hbE2) (HPM.out.below (hbE2.mono hszC)) hGM.nodup (fun z hz => by have := hGM.low z hz; rw [HN.out]; exact this) hy0 hy1 (by omega) hfe (HGL.out.below hw0E') l hgl)
   have HNX := Lib.hid hnx
   have hw0C' : Below w0.heap.size w0 wC := by have h := HBL.out; rw [HB.out] at h; exact h
   have g2 := keeps hw0C' (HT.out.lt) (HT.out.cell 2 rfl)
   have g3 := keeps hw0C' hblw c1
   have htE : tb < wE.heap.size := by omega
   have hblB : bl < B := by rw [HB.out]; exact hblw
   have k2 := keeps hbE (by omega) g2
   have k3 := keeps hbE (by omega) g3
   have k1 := hT.cell 1 rfl
   have k4 := hT.cell 2 rfl
   have K2 := keeps hDD htE k2
   have K3 := keeps hDD (by omega) k3
   have K1 := keeps hDD hT.lt k1
   have K4 := keeps hDD hT.lt k4
   have HTD := Lib.hid (hT.below hDD)
   have HOD := Lib.hid (owns_below HO.out hbE2)
   have HPD := Lib.hid (HPM.out.below (hbE2.mono hszC))
   have HW0E := Lib.hid hw0E
   have HWE := Lib.hid hwE
   have HEB := Lib.hid heb
   have hlnN : ln < LN := by rw [HLN.out]; exact hlnL
   clear hok hln9 hlnL hl hgl hxs hy hy0 hy1 hM0 hGM hpre hfe hnx hM40 heb hwE hbE hT hDD hbE2 hw0E hw0E' hw0C' g2 g3 c1 hrow e9
   go_wp2_with fail
   rw [← HWE.out]
   try rw [← HEB.out]
   go_region_held3 (fun w' => w'.cell? ⟨tb, 2, none⟩ = some (.slice (some ⟨bl, ol, none⟩) LN cl) ∧ w'.cell? ⟨eb, 1, none⟩ = some (.int .i64 ln) ∧ w'.cell? ⟨eb, 2, none⟩ = some (.int .i64 y) ∧ w'.cell? ⟨bl, ol + ln, none⟩ = some (.string l))
    (first
     | (refine ⟨?_, ?_, ?_, ?_⟩ <;> with_reducible assumption)
     | go_keep)
    (first
     | (go_at_call 158; with_reducible refine Calls.mono HTO.out ?_; rintro e w9 ⟨rfl, hb9, sv9, av9, hx9, hon9⟩; have hT9 : Blk w9 eb _ _ := hon9.blk HTD.out (by decide); have Z1 := hT9.cell 1 rfl; have Z4 := hT9.cell 2 rfl; have Z2 := keeps hb9 htB K2; have Z3 := keeps hb9 hblB K3)
     | fail)
   have HB9 := Lib.hid (HW0E.out.trans hb9)
   have HP9 := Lib.hid (HPD.out.below hb9)
   have HO9 := Lib.hid (hon9.own HOD.out (by decide))
   have HX9 := Lib.hid hx9
   clear hb9 hx9 hon9 hT9 Z1 Z2 Z3 Z4 k1 k2 k3 k4 K1 K2 K3 K4
   go_wp2
   go_roundw
   case rel => exact ⟨k + 1, sv9, av9, by go_num, by omega, HB9.out, HP9.out, by rw [HNX.out]; exact HX9.out, HO9.out⟩
   case measure => simp [intOf]; omega
  ·obtain rfl : k = M := by omega
   have HF : Hid (es.take k = es) := List.take_of_length_le (by rw [← HM.out]; exact Nat.le_refl _)
   go_wp2
   go_ret
   exact ⟨rfl, HBL.out, sv2, av2, by have h := HX.out; rw [HF.out] at h; exact h⟩

end Go.Proofs.YtaabkeejbhdenaaGreatDoor

namespace Go.Proofs.YtaabkeejbhdenaaGreatDoor
open Go Go.RowKit

theorem ExpM.turn {B xb mb pb ib rb cb i : Nat} {d : Lts} {P : List Int} {st : MNet} {sv av : Value} {w : World} {j : Nat} (h : ExpM B xb mb pb ib rb cb true i d P st sv av w) (hB : B ≤ w.heap.size) :
  ExpM B xb mb pb w.heap.size rb cb true j d P st sv av (w.alloc (.cells #[.int .i64 j] 3)) := by
 have hb : Below w.heap.size w (w.alloc (.cells #[.int .i64 j] 3)) := (Below.refl _ _).alloc (Nat.le_refl _) _
 have h2 := h.below hb
 exact ⟨h2.base, h2.mbase, h2.pbase, hB, h2.rbase, h2.box, h2.ptr, fun _ => Blk.new w [.int .i64 j] 3, h2.res, h2.rows, h2.map, h2.arcs⟩
theorem explM_results {w : World} {b : Nat} {v0 v1 v2 v3 : Value} {tmps : Array Value} (hc : tmps.getD 6 undef = .pointer (some ⟨b, 0, none⟩)) (hb : Blk w b [v0, v1, v2, v3] 29) :
  (results Tryz.f115 tmps).run Tryz.prog w = .ok (.tuple #[.agg #[v0, v1, v2, v3], tmps.getD 7 undef, tmps.getD 8 undef]) w := by
 have h0 := hb.cell 0 rfl
 have h1 := hb.cell 1 rfl
 have h2 := hb.cell 2 rfl
 have h3 := hb.cell 3 rfl
 simp only [Array.getD_eq_getD_getElem?] at hc
 simp [results, Tryz.results115, go_sem, hc, h0, h1, h2, h3, Result.andThen]
/-- What explored returns at states. -/
def RetExM (d : Lts) (P : List Int) (B : Nat) (w0 : World) (e : Ending) (w' : World) : Prop :=
 Below B w0 w' ∧ ∃ st lv ev sv, ∃ bv : Bool, MDone d P st ∧ e = .returned (.tuple #[.agg #[.int .i64 st.rows.length, .int .i64 0, lv, ev], sv, .bool bv])
  ∧ w'.ownsRow B 9 1 lv (sysOf d (mNet st)).labels.length ((sysOf d (mNet st)).labels.map .string) ∧ w'.ownsRow B 73 3 ev (sysOf d (mNet st)).edges.length ((sysOf d (mNet st)).edges.flatMap encE)

set_option maxRecDepth 100000 in
set_option maxHeartbeats 8000000 in
theorem exploredM_any (B tb cb gP cP N lo : Nat) (d : Lts) (P : List Int) (lv ev : Value) (w0 w : World) (hv : Valid d) (hs : Single d) (hu : Up d.edges) (hB : B = w0.heap.size) (hbl : Below B w0 w) (hp : PMem B cb gP cP N P w) (hN : (N : Int) = d.states)
  (hl : SliceK 1 encS lo w0 lv d.labels) (he : SliceK 3 encE lo w0 ev d.edges) (ht : Blk w0 tb [.int .i64 d.states, .int .i64 d.initial, lv, ev] 29) (g : Glob w0) (hsh : Short20 d.labels) :
  Calls Tryz.prog 115 #[.int .i64 0, .func (.func 114) #[] #[.pointer (some ⟨cb, 0, none⟩)], .func (.func 116) #[] #[.pointer (some ⟨tb, 0, none⟩)]] w (RetExM d P B w0) := by
 have HV := Lib.hid hv
 have HSI := Lib.hid hs
 have HU := Lib.hid hu
 have HL := Lib.hid hl
 have HEV := Lib.hid he
 have HT := Lib.hid ht
 have HG := Lib.hid g
 have HSH := Lib.hid hsh
 have HB := Lib.hid hB
 have HN := Lib.hid hN
 have hszB : B ≤ w.heap.size := by rw [hB]; exact hbl.size
 have hN1 : (0 : Int) < (N : Int) := by rw [hN]; have := hv.st0; omega
 obtain ⟨rb, hrb⟩ : ∃ rb, rb = w.heap.size := ⟨_, rfl⟩
 -- the world at the first find
 obtain ⟨w1, hw1⟩ : ∃ w1, w1 = (((w.alloc (.cells #[.int .i64 0, .int .i64 0, .slice none 0 0, .slice none 0 0] 29)).alloc (.map #[] 0)).alloc (.cells #[.slice none 0 0, .map (some (w.heap.size + 1)), .slice none 0 0, .func (.func 114) #[] #[.pointer (some ⟨cb, 0, none⟩)]] 195)).alloc (.cells #[.pointer (some ⟨w.heap.size + 1 + 1, 0, none⟩)] 193) := ⟨_, rfl⟩
 have hb1 : Below w.heap.size w w1 := by rw [hw1]; exact ((((Below.refl _ _).alloc (Nat.le_refl _) _).alloc (by simp) _).alloc (by simp; omega) _).alloc (by simp; omega) _
 have HX1 : Hid (ExpM B (rb + 1 + 1) (rb + 1) (rb + 1 + 1 + 1) rb rb cb false 0 d P ⟨[], []⟩ (.slice none 0 0) (.slice none 0 0) w1) := by
  unfold Hid
  rw [hw1, hrb]
  refine ⟨by omega, by omega, by omega, by omega, by omega, ?_, ?_, (fun h => by cases h), ?_, World.ownsRow_nil _ _ _ _, ?_, World.ownsRow_nil _ _ _ _⟩
  ·have := (Blk.new ((w.alloc (.cells #[.int .i64 0, .int .i64 0, .slice none 0 0, .slice none 0 0] 29)).alloc (.map #[] 0)) [.slice none 0 0, .map (some (w.heap.size + 1)), .slice none 0 0, .func (.func 114) #[] #[.pointer (some ⟨cb, 0, none⟩)]] 195)
   rw [World.size_alloc, World.size_alloc] at this
   exact this.alloc _
  ·have := Blk.new (((w.alloc (.cells #[.int .i64 0, .int .i64 0, .slice none 0 0, .slice none 0 0] 29)).alloc (.map #[] 0)).alloc (.cells #[.slice none 0 0, .map (some (w.heap.size + 1)), .slice none 0 0, .func (.func 114) #[] #[.pointer (some ⟨cb, 0, none⟩)]] 195)) [.pointer (some ⟨w.heap.size + 1 + 1, 0, none⟩)] 193
   rw [World.size_alloc, World.size_alloc, World.size_alloc] at this
   exact this
  ·exact (((Blk.new w _ _).alloc _).alloc _).alloc _
  ·have := NumMap.made .i64 (w.alloc (.cells #[.int .i64 0, .int .i64 0, .slice none 0 0, .slice none 0 0] 29))
   rw [World.size_alloc] at this
   have h2 : Below (w.heap.size + 1 + 1) ((w.alloc (.cells #[.int .i64 0, .int .i64 0, .slice none 0 0, .slice none 0 0] 29)).alloc (.map #[] 0)) ((((w.alloc (.cells #[.int .i64 0, .int .i64 0, .slice none 0 0, .slice none 0 0] 29)).alloc (.map #[] 0)).alloc (.cells #[.slice none 0 0, .map (some (w.heap.size + 1)), .slice none 0 0, .func (.func 114) #[] #[.pointer (some ⟨cb, 0, none⟩)]] 195)).alloc (.cells #[.pointer (some ⟨w.heap.size + 1 + 1, 0, none⟩)] 193)) := ((Below.refl _ _).alloc (by simp) _).alloc (by simp) _
   exact this.below (by simpa using h2)
 have HBL1 := Lib.hid (hbl.trans (hb1.mono hszB))
 have HP1 := Lib.hid (hp.below (hb1.mono hszB))
 have hg1 : Glob w1 := g.below (by have := HBL1.out; rw [hB] at this; exact this)
 have HF1 := Lib.hid (findM_any B (rb + 1 + 1) (rb + 1) (rb + 1 + 1 + 1) rb rb cb gP cP N false 0 d P ⟨[], []⟩ (.slice none 0 0) (.slice none 0 0) 0 w1 (Nat.le_trans hszB hb1.size) HX1.out HP1.out (by simp) (fun y hy => by cases hy) (Int.le_refl 0) hN1 (by simp) hg1)
 have HW1 := Lib.hid hw1
 have HRB := Lib.hid hrb
 have p1 := HX1.out.ptr.cell 0 rfl
 have hmm := @run_makeMap Tryz.prog
 clear hv hs hu hl he ht g hsh hbl hp hw1 hb1 hg1 HX1 hB hrb hN hN1
 go_enter Tryz.func115, Tryz.ntmps115
 go_wp2_with fail
 rw [← HW1.out, ← HRB.out]
 refine Calls.mono HF1.out ?_
 rintro e2 w2 ⟨rfl, hb2, sv2, hx2, -⟩
 have HX2 := Lib.hid hx2
 have HB2 := Lib.hid (HBL1.out.trans hb2)
 have HP2 := Lib.hid (HP1.out.below hb2)
 obtain ⟨xb, hxb⟩ : ∃ xb, xb = rb + 1 + 1 := ⟨_, rfl⟩
 obtain ⟨mb, hmb⟩ : ∃ mb, mb = rb + 1 := ⟨_, rfl⟩
 obtain ⟨pb, hpb⟩ : ∃ pb, pb = rb + 1 + 1 + 1 := ⟨_, rfl⟩
 rw [← hpb, ← hxb, ← hmb] at HX2
 rw [← hpb]
 have hs2 : B ≤ w2.heap.size := by have h1 := HX2.out.ptr.lt; have h2 := HX2.out.pbase; omega
 clear hx2 hb2 HF1 HBL1 HP1 p1 hmm hxb hmb hpb
 have HX3 : Hid (ExpM B xb mb pb w2.heap.size rb cb true 0 d P (mAt d P 0) sv2 (.slice none 0 0) (w2.alloc (.cells #[.int .i64 0] 3))) := by
  have hb : Below w2.heap.size w2 (w2.alloc (.cells #[.int .i64 0] 3)) := (Below.refl _ _).alloc (Nat.le_refl _) _
  have h2 := HX2.out.below hb
  have hd : (⟨madd P [] 0, []⟩ : MNet) = mAt d P 0 := rfl
  rw [hd] at h2
  exact ⟨h2.base, h2.mbase, h2.pbase, hs2, h2.rbase, h2.box, h2.ptr, fun _ => Blk.new w2 _ _, h2.res, h2.rows, h2.map, h2.arcs⟩
 go_wp2
 go_loopg [10] 64 (fun gk v10 wr => ∃ (n ib : Nat) (sv av : Value), v10 = .pointer (some ⟨ib, 0, none⟩) ∧ n ≤ (mAt d P n).rows.length ∧ 64 - n ≤ gk ∧ ExpM B xb mb pb ib rb cb true n d P (mAt d P n) sv av wr ∧ Below B w0 wr ∧ PMem B cb gP cP N P wr)
 case atStart => exact ⟨0, w2.heap.size, sv2, _, rfl, Nat.zero_le _, by omega, HX3.out, HB2.out.alloc hs2 _, HP2.out.below ((Below.refl w2.heap.size w2).alloc (Nat.le_refl _) _ |>.mono hs2)⟩
 case round =>
  clear HX3 HB2 HX2 HP2
  obtain ⟨n, ib, sv, av, rfl, hnle, hgk, hx, hbl, hpm⟩ := hrel
  obtain ⟨wC, rfl⟩ : ∃ wC : World, wC = wr := ⟨_, rfl⟩
  have HX := Lib.hid hx
  have HBL := Lib.hid hbl
  have HPM := Lib.hid hpm
  have HGK := Lib.hid hgk
  have HGD := Lib.hid (MGood.at (p := P) HV.out HSI.out n)
  have HUP : Hid (Up (mAt d P n).edges) := (mAt_up HU.out n).1
  have h40 := HGD.out.few (fun z hz => hpm.low z hz)
  have hfew := mAt_edges11 (p := P) HV.out HSI.out HU.out n
  have hszC : B ≤ wC.heap.size := by rw [HB.out]; exact hbl.size
  obtain ⟨sa, cs, rfl, -, -⟩ := owns_slice hx.rows
  obtain ⟨S0, hS0⟩ : ∃ S0, S0 = mAt d P n := ⟨_, rfl⟩
  rw [← hS0] at HX HGD HUP h40 hfew hnle
  have HS0 := Lib.hid hS0
  obtain ⟨R, hR⟩ : ∃ R, R = S0.rows.length := ⟨_, rfl⟩
  rw [← hR] at HX h40 hnle
  have HR := Lib.hid hR
  have hn40 : n ≤ 40 := by omega
  have hxl := HX.out.box.lt
  have hpl := HX.out.ptr.lt
  have hil := (HX.out.idx rfl).lt
  have lx := later_cell hxl (HX.out.box.cell 0 rfl)
  have lp := later_cell hpl (HX.out.ptr.cell 0 rfl)
  have li := later_cell hil ((HX.out.idx rfl).cell 0 rfl)
  clear hx hbl hpm hgk hS0 hR
  by_cases hlt : n < R
  ·have hlR : n < S0.rows.length := by rw [← HR.out]; exact hlt
   obtain ⟨x, hx⟩ : ∃ x, x = S0.rows[n] := ⟨_, rfl⟩
   have HXX : Hid ((mAt d P n).rows[n]? = some x) := by unfold Hid; rw [← HS0.out, List.getElem?_eq_getElem hlR, hx]
   have hrw := HX.out.rows
   rw [← HR.out] at hrw
   obtain ⟨bs, cs', e1, -, hbs⟩ := own_someP hrw (by omega)
   have hcs := cell_num (by rw [e1] at hrw; exact hrw) hlt
   have hxg : S0.rows.getD n 0 = x := by rw [List.getD_eq_getElem?_getD, List.getElem?_eq_getElem hlR, hx]; rfl
   rw [hxg] at hcs
   simp only [Value.slice.injEq, true_and] at e1
   obtain ⟨rfl, rfl⟩ := e1
   clear hrw hxg hx hlR
   go_wp2
   refine wp_region_later (by kernel_rfl) (by kernel_rfl) ?_
   repeat (go_big_quiet_step ((fail)))
   refine wpQuiet_nil ?_
   intro _ hw9
   obtain ⟨nl, hw8⟩ := hw9
   subst hw8
   have HX4 := Lib.hid (HX.out.below nl.h)
   have HB4 := Lib.hid (HBL.out.trans (nl.h.mono hszC))
   have HP4 := Lib.hid (HPM.out.below (nl.h.mono hszC))
   have hs4 := nl.h.size
   have hcs4 := keeps nl.h hbs hcs
   obtain ⟨wD, hwD⟩ : ∃ wD, wD = nl.w := ⟨_, rfl⟩
   rw [← hwD] at HX4 HB4 HP4 hs4 hcs4 ⊢
   have hbs4 : bs < wD.heap.size := by omega
   have hszD : B ≤ wD.heap.size := by omega
   clear lx lp li hcs hwD HX HBL HPM
   have lx := later_cell HX4.out.box.lt (HX4.out.box.cell 0 rfl)
   have lp := later_cell HX4.out.ptr.lt (HX4.out.ptr.cell 0 rfl)
   have li := later_cell (HX4.out.idx rfl).lt ((HX4.out.idx rfl).cell 0 rfl)
   have lc := later_cell hbs4 hcs4
   have hni : (n : Int) < (R : Int) := by omega
   go_wp2
   refine wp_region_later_tail 9 (by kernel_rfl) (by kernel_rfl) ?_
   simp only [List.take_succ_cons, List.take_zero, List.drop_succ_cons, List.drop_zero]
   repeat (go_big_quiet_step ((fail)))
   refine wpQuiet_nil ?_
   intro _ hw9
   obtain ⟨nl, hw8⟩ := hw9
   subst hw8
   have HX5 := Lib.hid (HX4.out.below nl.h)
   have HB5 := Lib.hid (HB4.out.trans (nl.h.mono hszD))
   have HP5 := Lib.hid (HP4.out.below (nl.h.mono hszD))
   have HMV := Lib.hid (movesM_any B xb mb pb ib rb cb gP cP N n tb lo d P S0 x lv ev (.slice (some ⟨bs, 0, none⟩) R cs) av w0 nl.w HV.out HSI.out HB.out HB5.out HX5.out HP5.out HL.out HEV.out HT.out HG.out HGD.out HN.out (by rw [← HR.out]; exact hlt) (by omega))
   have hda := mAt_some (d := d) (p := P) (n := n) HXX.out
   rw [← HS0.out] at hda
   rw [← hda] at HMV
   have HDA := Lib.hid hda
   clear lx lp li lc hcs4 hbs4 HX4 HX5 HB4 HP4 hda hbs
   go_wp2_with fail
   refine Calls.mono HMV.out ?_
   rintro e6 w6 ⟨rfl, hb6, sv6, av6, hx6⟩
   have HX6 := Lib.hid hx6
   have HB6 := Lib.hid hb6
   have hP6 : PMem B cb gP cP N P w6 := ⟨HP5.out.len, HP5.out.low, HP5.out.cbB, HP5.out.gpB, Nat.lt_of_lt_of_le HP5.out.cbB (by rw [HB.out]; exact hb6.size), Nat.lt_of_lt_of_le HP5.out.gpB (by rw [HB.out]; exact hb6.size), by
    have h1 := (HB5.out.cell (p := ⟨cb, 0, none⟩) HP5.out.cbB)
    have h2 := (hb6.cell (p := ⟨cb, 0, none⟩) HP5.out.cbB)
    rw [h2, ← h1]; exact HP5.out.cell, fun j hj => by
    have h1 := (HB5.out.cell (p := ⟨gP, j, none⟩) HP5.out.gpB)
    have h2 := (hb6.cell (p := ⟨gP, j, none⟩) HP5.out.gpB)
    rw [h2, ← h1]; exact HP5.out.rows j hj⟩
   have HP6 := Lib.hid hP6
   obtain ⟨sa6, cs6, rfl, -, -⟩ := owns_slice hx6.rows
   have hR40 := (MGood.at (p := P) HV.out HSI.out (n + 1)).few (fun z hz => hP6.low z hz)
   have hpre := mAt_rows (d := d) (p := P) n
   have hn1R : n + 1 ≤ (mAt d P (n + 1)).rows.length := by
    obtain ⟨t, ht⟩ := hpre
    rw [ht, List.length_append, ← HS0.out, ← HR.out]
    omega
   obtain ⟨R6, hR6⟩ : ∃ R6, R6 = (mAt d P (n + 1)).rows.length := ⟨_, rfl⟩
   rw [← hR6] at HX6 hR40 hn1R
   have HR6 := Lib.hid hR6
   have hs6 : B ≤ w6.heap.size := by have h1 := HX6.out.ptr.lt; have h2 := HX6.out.pbase; omega
   have p6 := HX6.out.ptr.cell 0 rfl
   have x6 := HX6.out.box.cell 0 rfl
   have i6 := (HX6.out.idx rfl).cell 0 rfl
   have i6f := (HX6.out.idx rfl).frozen 0
   have hil6 := (HX6.out.idx rfl).lt
   clear hx6 hb6 HMV hR6 hP6 hpre
   have h41b : decide ((40 : Int) < ((R6 : Nat) : Int)) = false := by rw [decide_eq_false_iff_not]; omega
   have h41 : ¬ (40 : Int) < ((R6 : Nat) : Int) := by omega
   have HXT := Lib.hid (HX6.out.turn (j := n + 1) hs6)
   have hcast : (((n + 1 : Nat)) : Int) = (n : Int) + 1 := by omega
   rw [hcast] at HXT
   clear hcast
   go_wp2
   go_roundg (64 - (n + 1))
   case measure => have := HGK.out; omega
   case rel =>
    refine ⟨n + 1, w6.heap.size, _, _, rfl, by rw [← HR6.out]; exact hn1R, Nat.le_refl _, HXT.out, HB6.out.alloc hs6 _, HP6.out.below (((Below.refl w6.heap.size w6).alloc (Nat.le_refl _) _).mono hs6)⟩
  ·have HDN : Hid (MDone d P S0) := ⟨n, HS0.out.symm, by rw [← HR.out]; omega⟩
   have HGN := Lib.hid (mNet_good HGD.out)
   go_wp2
   refine wp_region_later (by kernel_rfl) (by kernel_rfl) ?_
   repeat (go_big_quiet_step ((fail)))
   refine wpQuiet_nil ?_
   intro _ hw9
   obtain ⟨nl, hw8⟩ := hw9
   subst hw8
   have HX4 := Lib.hid (HX.out.below nl.h)
   have HB4 := Lib.hid (HBL.out.trans (nl.h.mono hszC))
   have hs4 := nl.h.size
   obtain ⟨wD, hwD⟩ : ∃ wD, wD = nl.w := ⟨_, rfl⟩
   rw [← hwD] at HX4 HB4 hs4 ⊢
   have hszD : B ≤ wD.heap.size := by omega
   clear lx lp li hwD HX HBL HPM
   have hxl := HX4.out.box.lt
   have hpl := HX4.out.ptr.lt
   have hD : Below wD.heap.size wD wD.drew := (Below.refl _ _).drew
   have p0 := HX4.out.ptr.cell 0 rfl
   have x0 := HX4.out.box.cell 0 rfl
   have x2 := HX4.out.box.cell 2 rfl
   have P0 := keeps hD hpl p0
   have X0 := keeps hD hxl x0
   have X2 := keeps hD hxl x2
   have hfe : S0.edges.length ≤ 440 := by omega
   have HAR : Hid (wD.ownsRow B 111 3 av (arcsOf d (mNet S0)).length ((arcsOf d (mNet S0)).flatMap encC)) := by
    have h1 := HX4.out.arcs
    rw [encA_encC] at h1
    unfold Hid arcsOf
    rw [List.length_map]
    exact h1
   have hal : (arcsOf d (mNet S0)).length ≤ 1000 := by unfold arcsOf; rw [List.length_map]; show S0.edges.length ≤ 1000; omega
   obtain ⟨us, hus⟩ : ∃ us, us = (arcsOf d (mNet S0)).map Arc.lab := ⟨_, rfl⟩
   obtain ⟨Ls, hLs⟩ : ∃ Ls, Ls = (sysOf d (mNet S0)).labels := ⟨_, rfl⟩
   obtain ⟨Es, hEs⟩ : ∃ Es, Es = (sysOf d (mNet S0)).edges := ⟨_, rfl⟩
   have hul : us.length = (arcsOf d (mNet S0)).length := by rw [hus, List.length_map]
   have HLO : Hid (∀ (W : World), Below wD.heap.size wD W → Calls Tryz.prog 98 #[av] W (fun e w9 => ∃ v9, e = .returned v9 ∧ Below wD.heap.size wD w9 ∧ Below W.heap.size W w9 ∧ w9.ownsRow wD.heap.size 9 1 v9 us.length (us.map .string))) := by
    intro W hb
    rw [hus]
    refine (labelsOf_any B av (arcsOf d (mNet S0)) W ((SliceK.of_owns (enc := encC) encC_len rfl HAR.out).below hb) (by omega)).mono ?_
    rintro e w9 ⟨v9, h1, h2, h3⟩
    exact ⟨v9, h1, hb.trans (h2.mono hb.size), h2, own_lower h3 hb.size⟩
   have HLT : Hid (∀ (v9 : Value) (W : World), Below wD.heap.size wD W → SrcS W v9 us → Calls Tryz.prog 63 #[.int .i64 R, .int .i64 0, v9, av] W (fun e w8 => ∃ la lc ea ec, e = .returned (.agg #[.int .i64 R, .int .i64 0, .slice la Ls.length lc, .slice ea Es.length ec]) ∧ Below wD.heap.size wD w8 ∧ Below W.heap.size W w8
     ∧ w8.ownsRow wD.heap.size 9 1 (.slice la Ls.length lc) Ls.length (Ls.map .string) ∧ w8.ownsRow wD.heap.size 73 3 (.slice ea Es.length ec) Es.length (Es.flatMap encE))) := by
    intro v9 W hb h1
    have h3 := lts_any B R 0 us (arcsOf d (mNet S0)) v9 av W h1 ((SliceK.of_owns (enc := encC) encC_len rfl HAR.out).below hb) (by rw [hul]; exact hal) hal Ls (by rw [hLs, hus]; rfl) (by rw [hLs]; exact arc_mem HV.out HGN.out) (by rw [hLs]; exact sys_rise HV.out HGN.out HUP.out)
    have hEs2 : (arcsOf d (mNet S0)).map (edgeIn Ls) = Es := by rw [hEs, hLs]; rfl
    rw [hEs2] at h3
    refine h3.mono ?_
    rintro e w8 ⟨lv8, ev8, h4, h5, h6, h7⟩
    obtain ⟨la, lc, rfl, -, -⟩ := owns_slice h6
    obtain ⟨ea, ec, rfl, -, -⟩ := owns_slice h7
    exact ⟨la, lc, ea, ec, h4, hb.trans (h5.mono hb.size), h5, own_lower h6 hb.size, own_lower h7 hb.size⟩
   have HLs := Lib.hid hLs
   have HEs := Lib.hid hEs
   have hDZ : Below wD.heap.size wD ((wD.alloc (.cells #[.int .i64 0, .int .i64 0, .slice none 0 0, .slice none 0 0] 29)).drew) := ((Below.refl _ _).alloc (Nat.le_refl _) _).drew
   have BZ : Blk ((wD.alloc (.cells #[.int .i64 0, .int .i64 0, .slice none 0 0, .slice none 0 0] 29)).drew) wD.heap.size [.int .i64 0, .int .i64 0, .slice none 0 0, .slice none 0 0] 29 := (Blk.new wD _ _)
   have HDZ := Lib.hid hDZ
   have HBZ := Lib.hid BZ
   have HDD := Lib.hid hD
   clear hfe hus hLs hEs hDZ BZ hD
   go_wp2
   go_region_held3 (fun w' => w'.cell? ⟨pb, 0, none⟩ = some (.pointer (some ⟨xb, 0, none⟩)) ∧ w'.cell? ⟨xb, 0, none⟩ = some (.slice sa R cs) ∧ w'.cell? ⟨xb, 2, none⟩ = some av)
    (first
     | (refine ⟨?_, ?_, ?_⟩ <;> with_reducible assumption)
     | (refine ⟨?_, ?_, ?_⟩ <;> (rw [World.cell?_setCell_far _ _ _ _ (by first | exact fun e => np e.symm | exact fun e => nx e.symm), World.cell?_setCell_far _ _ _ _ (by first | exact fun e => np e.symm | exact fun e => nx e.symm), World.cell?_setCell_far _ _ _ _ (by first | exact fun e => np e.symm | exact fun e => nx e.symm), World.cell?_setCell_far _ _ _ _ (by first | exact fun e => np e.symm | exact fun e => nx e.symm)]; with_reducible assumption))
     | go_keep)
    (first
     | (go_at_call 98; refine Calls.mono (HLO.out _ (by first | with_reducible exact HDD.out | with_reducible exact HDZ.out)) ?_; rintro e w9 ⟨v9, rfl, hw9, hb9, ho9⟩; have k0 := keeps hw9 hpl p0; have k1 := keeps hw9 hxl x0; have k2 := keeps hw9 hxl x2; (try (have QZ : Hid (Blk w9 wD.heap.size [.int .i64 0, .int .i64 0, .slice none 0 0, .slice none 0 0] 29) := Lib.hid (by with_reducible exact HBZ.out.below hb9))); have HSL := Lib.hid (SrcS.of_own ho9))
     | (go_at_call 63; refine Calls.mono (HLT.out v9 _ (by first | with_reducible exact hw9 | with_reducible exact hw9.alloc hw9.size _) (by first | with_reducible exact HSL.out | with_reducible exact HSL.out.below (box_below9 _ _ _))) ?_; rintro e w8 ⟨la, lc, ea, ec, rfl, hw8, hb8, ho8, he8⟩; have k4 := keeps hw8 hpl p0; have k5 := keeps hw8 hxl x0; have k6 := keeps hw8 hxl x2; ((try (have QY : Blk w8 wD.heap.size [.int .i64 0, .int .i64 0, .slice none 0 0, .slice none 0 0] 29 := by with_reducible exact QZ.out.below hb8)); (try (have q0 := QY.cell 0 rfl; have q1 := QY.cell 1 rfl; have q2 := QY.cell 2 rfl; have q3 := QY.cell 3 rfl; have f0 := QY.frozen 0; have f1 := QY.frozen 1; have f2 := QY.frozen 2; have f3 := QY.frozen 3; have hq := QY.lt; have np : pb ≠ wD.heap.size := (by omega); have nx : xb ≠ wD.heap.size := (by omega)))); ((have HN9 := blk_new9 w9); (try (have QX : Blk w8 w9.heap.size [.int .i64 0, .int .i64 0, .slice none 0 0, .slice none 0 0] 29 := by with_reducible exact HN9.below hb8)); (try (have q0 := QX.cell 0 rfl; have q1 := QX.cell 1 rfl; have q2 := QX.cell 2 rfl; have q3 := QX.cell 3 rfl; have f0 := QX.frozen 0; have f1 := QX.frozen 1; have f2 := QX.frozen 2; have f3 := QX.frozen 3; have hq := QX.lt; have np : pb ≠ w9.heap.size := (by have := hw9.size; omega); have nx : xb ≠ w9.heap.size := (by have := hw9.size; omega))))))
   all_goals (
    first
     | (
      have h1 := four_sets (v0 := .int .i64 R) (v1 := .int .i64 0) (v2 := .slice la Ls.length lc) (v3 := .slice ea Es.length ec) QX hw8 hw9.size
      have hle := h1.2.2 ho8 (by decide)
      have hee := h1.2.2 he8 (by decide)
      have hwe := h1.1
      have hbe := h1.2.1
      have hlo : wD.heap.size ≤ w9.heap.size := hw9.size
      obtain ⟨WE, hWE⟩ : ∃ WE, WE = (((w8.setCell ⟨w9.heap.size, 0, none⟩ (.int .i64 R)).setCell ⟨w9.heap.size, 1, none⟩ (.int .i64 0)).setCell ⟨w9.heap.size, 2, none⟩ (.slice la Ls.length lc)).setCell ⟨w9.heap.size, 3, none⟩ (.slice ea Es.length ec) := ⟨_, rfl⟩
      rw [← hWE] at hle hee hwe hbe ⊢
      obtain ⟨b12, hb12⟩ : ∃ b12, b12 = w9.heap.size := ⟨_, rfl⟩
      rw [← hb12] at hbe hlo ⊢
      clear hWE hb12 h1)
     | (
      have h1 := four_sets (v0 := .int .i64 R) (v1 := .int .i64 0) (v2 := .slice la Ls.length lc) (v3 := .slice ea Es.length ec) QY hw8 (Nat.le_refl _)
      have hle := h1.2.2 ho8 (by decide)
      have hee := h1.2.2 he8 (by decide)
      have hwe := h1.1
      have hbe := h1.2.1
      obtain ⟨WE, hWE⟩ : ∃ WE, WE = (((w8.setCell ⟨wD.heap.size, 0, none⟩ (.int .i64 R)).setCell ⟨wD.heap.size, 1, none⟩ (.int .i64 0)).setCell ⟨wD.heap.size, 2, none⟩ (.slice la Ls.length lc)).setCell ⟨wD.heap.size, 3, none⟩ (.slice ea Es.length ec) := ⟨_, rfl⟩
      rw [← hWE] at hle hee hwe hbe ⊢
      obtain ⟨b12, hb12⟩ : ∃ b12, b12 = wD.heap.size := ⟨_, rfl⟩
      have hlo : wD.heap.size ≤ b12 := Nat.le_of_eq hb12.symm
      rw [← hb12] at hbe ⊢
      clear hWE hb12 h1)
     | (
      have hle : (w8.alloc (.cells #[.int .i64 R, .int .i64 0, .slice la Ls.length lc, .slice ea Es.length ec] 29)).ownsRow wD.heap.size 9 1 (.slice la Ls.length lc) Ls.length (Ls.map .string) := ho8.alloc _
      have hee : (w8.alloc (.cells #[.int .i64 R, .int .i64 0, .slice la Ls.length lc, .slice ea Es.length ec] 29)).ownsRow wD.heap.size 73 3 (.slice ea Es.length ec) Es.length (Es.flatMap encE) := he8.alloc _
      have hwe : Below wD.heap.size wD (w8.alloc (.cells #[.int .i64 R, .int .i64 0, .slice la Ls.length lc, .slice ea Es.length ec] 29)) := hw8.alloc hw8.size _
      have hbe : Blk (w8.alloc (.cells #[.int .i64 R, .int .i64 0, .slice la Ls.length lc, .slice ea Es.length ec] 29)) w8.heap.size [.int .i64 R, .int .i64 0, .slice la Ls.length lc, .slice ea Es.length ec] 29 := Blk.new w8 _ _
      have hlo : wD.heap.size ≤ w8.heap.size := hw8.size
      obtain ⟨WE, hWE⟩ : ∃ WE, WE = w8.alloc (.cells #[.int .i64 R, .int .i64 0, .slice la Ls.length lc, .slice ea Es.length ec] 29) := ⟨_, rfl⟩
      rw [← hWE] at hle hee hwe hbe ⊢
      obtain ⟨b12, hb12⟩ : ∃ b12, b12 = w8.heap.size := ⟨_, rfl⟩
      rw [← hb12] at hbe hlo ⊢
      clear hWE hb12)
    have HLE := Lib.hid hle
    have HEE2 := Lib.hid hee
    have HWE := Lib.hid hwe
    have HBE := Lib.hid hbe
    clear hle hee hwe hbe
    have hWd : Below WE.heap.size WE WE.drew := (Below.refl _ _).drew
    have hDW : Below wD.heap.size wD WE.drew := HWE.out.trans (hWd.mono HWE.out.size)
    have hgl : Glob WE.drew := HG.out.below (by have h9 := HB4.out.trans (hDW.mono hszD); rw [HB.out] at h9; exact h9)
    obtain ⟨bv, hbv, HVL⟩ : ∃ bv : Bool, (bv = true ↔ DSmall (mNet S0)) ∧ Hid (Calls Tryz.prog 24 #[.agg #[.int .i64 R, .int .i64 0, .slice la Ls.length lc, .slice ea Es.length ec]] WE.drew fun e w' => e = .returned (.bool bv) ∧ Below WE.drew.heap.size WE.drew w') := by
     have h1 := ValidLts_any wD.heap.size (sysOf d (mNet S0)) (.slice la Ls.length lc) (.slice ea Es.length ec) WE.drew (sys_short HV.out HGN.out HSH.out)
      (by have h9 := (SliceK.of_owns (enc := encS) encS_len rfl (by rw [flat_encS]; exact HLE.out)).below hWd; rw [HLs.out] at h9 ⊢; exact h9)
      (by have h9 := (SliceK.of_owns (enc := encE) encE_len rfl HEE2.out).below hWd; rw [HEs.out] at h9 ⊢; exact h9) hgl
     have h2 : (sysOf d (mNet S0)).states = (R : Int) := by show (((S0.rows.map ([·])).length : Nat) : Int) = _; rw [List.length_map, HR.out]
     have h3 : (sysOf d (mNet S0)).initial = 0 := rfl
     rw [h2, h3] at h1
     have h4 := sys_valid HV.out HGN.out HUP.out
     by_cases hs : DSmall (mNet S0)
     ·exact ⟨true, by simp [hs], Decides.yes h1 (h4.2 hs)⟩
     ·exact ⟨false, by simp [hs], Decides.no h1 (fun h => hs (h4.1 h))⟩
    have HBV := Lib.hid hbv
    have hlb := HBE.out.lt
    have hpW : pb < WE.heap.size := by have := HWE.out.size; omega
    have hxW : xb < WE.heap.size := by have := HWE.out.size; omega
    have b0 := keeps hWd hlb (HBE.out.cell 0 rfl)
    have b1 := keeps hWd hlb (HBE.out.cell 1 rfl)
    have b2 := keeps hWd hlb (HBE.out.cell 2 rfl)
    have b3 := keeps hWd hlb (HBE.out.cell 3 rfl)
    have b4 := keeps hDW hpl p0
    have b5 := keeps hDW hxl x0
    have hrl := HX4.out.res.lt
    have hnb : b12 ≠ rb := by omega
    have hnp : pb ≠ rb := blk_blk_ne HX4.out.ptr HX4.out.res (by decide)
    have hnx : xb ≠ rb := blk_blk_ne HX4.out.box HX4.out.res (by decide)
    have HDWW := Lib.hid hDW
    clear hbv hWd hDW hgl k0 k1 k2 k4 k5 k6
    go_wp2
    go_region_held3 (fun w' => w'.cell? ⟨b12, 0, none⟩ = some (.int .i64 R) ∧ w'.cell? ⟨b12, 1, none⟩ = some (.int .i64 0) ∧ w'.cell? ⟨b12, 2, none⟩ = some (.slice la Ls.length lc) ∧ w'.cell? ⟨b12, 3, none⟩ = some (.slice ea Es.length ec) ∧ w'.cell? ⟨pb, 0, none⟩ = some (.pointer (some ⟨xb, 0, none⟩)) ∧ w'.cell? ⟨xb, 0, none⟩ = some (.slice sa R cs))
     (first
      | (refine ⟨?_, ?_, ?_, ?_, ?_, ?_⟩ <;> with_reducible assumption)
      | (refine ⟨?_, ?_, ?_, ?_, ?_, ?_⟩ <;> (rw [World.cell?_setCell_far _ _ _ _ (by first | exact fun e => hnb e.symm | exact fun e => hnp e.symm | exact fun e => hnx e.symm), World.cell?_setCell_far _ _ _ _ (by first | exact fun e => hnb e.symm | exact fun e => hnp e.symm | exact fun e => hnx e.symm), World.cell?_setCell_far _ _ _ _ (by first | exact fun e => hnb e.symm | exact fun e => hnp e.symm | exact fun e => hnx e.symm), World.cell?_setCell_far _ _ _ _ (by first | exact fun e => hnb e.symm | exact fun e => hnp e.symm | exact fun e => hnx e.symm)]; with_reducible assumption))
      | go_keep)
     (first
      | (go_at_call 24; refine Calls.mono HVL.out ?_; rintro e wV ⟨rfl, hbV⟩; have c0 := keeps hbV (by simp; omega) b0; have c1 := keeps hbV (by simp; omega) b1; have c2 := keeps hbV (by simp; omega) b2; have c3 := keeps hbV (by simp; omega) b3; have c4 := keeps hbV (by simp; omega) b4; have c5 := keeps hbV (by simp; omega) b5; have HDV := Lib.hid (HDWW.out.trans (hbV.mono HDWW.out.size)); have HRV := Lib.hid (HX4.out.res.below HDV.out); have r0 := HRV.out.cell 0 rfl; have r1 := HRV.out.cell 1 rfl; have r2 := HRV.out.cell 2 rfl; have r3 := HRV.out.cell 3 rfl; have s0 := HRV.out.frozen 0; have s1 := HRV.out.frozen 1; have s2 := HRV.out.frozen 2; have s3 := HRV.out.frozen 3; have HBVV := Lib.hid hbV))
    all_goals (
     have hBV := HB4.out.trans (HDV.out.mono hszD)
     have hrB := HX4.out.rbase
     have hLV := own_lower (owns_below (owns_below HLE.out (Below.drew (Below.refl _ _))) HBVV.out) hszD
     have hEV := own_lower (owns_below (owns_below HEE2.out (Below.drew (Below.refl _ _))) HBVV.out) hszD
     have HA1 := Lib.hid hBV
     have HA2 := Lib.hid hLV
     have HA3 := Lib.hid hEV
     clear hBV hLV hEV
     go_wp2
     refine bodyPost_ret (explM_results rfl ((((HRV.out.set 0 _).set 1 _).set 2 _).set 3 _)) rfl ?_
     refine ⟨(((HA1.out.setCell hrB _).setCell hrB _).setCell hrB _).setCell hrB _, ?_⟩
     refine ⟨S0, .slice la Ls.length lc, .slice ea Es.length ec, _, bv, HDN.out, by rw [← HR.out]; rfl, ?_, ?_⟩
     ·rw [← HLs.out]; exact own4 HRV.out HA2.out (by decide)
     ·rw [← HEs.out]; exact own4 HRV.out HA3.out (by decide)))

end Go.Proofs.YtaabkeejbhdenaaGreatDoor

namespace Go.Proofs.YtaabkeejbhdenaaGreatDoor
open Go Go.RowKit

/-- A function of one element that answers P at the element's place, and turns nothing that was there. -/
def AskK (fid : Nat) (caps : Array Value) (P : Nat → Bool) (vs : List Value) (B : Nat) (w : World) : Prop :=
 ∀ w', Below B w w' → ∀ i (h : i < vs.length), Calls Tryz.prog fid (#[vs[i]] ++ caps) w' fun e w'' => e = .returned (.bool (P i)) ∧ Below w'.heap.size w' w''
def fstP (P : Nat → Bool) (n : Nat) : Int := if (List.range n).findIdx P < n then ((List.range n).findIdx P : Nat) else -1
theorem fstP_hit {P : Nat → Bool} {n k : Nat} (hk : k < n) (hn : ∀ j, j < k → P j = false) (h : P k = true) : fstP P n = k := by
 have e : (List.range n).findIdx P = k := by
  rw [List.findIdx_eq (by simpa using hk)]
  refine ⟨by simpa using h, fun j hj => by simpa using hn j hj⟩
 unfold fstP
 rw [e, if_pos hk]
theorem fstP_none {P : Nat → Bool} {n : Nat} (hn : ∀ j, j < n → P j = false) : fstP P n = -1 := by
 unfold fstP
 rw [if_neg]
 intro h
 have h2 := List.findIdx_getElem (w := show (List.range n).findIdx P < (List.range n).length by simpa using h)
 rw [List.getElem_range, hn _ h] at h2
 cases h2

set_option maxRecDepth 100000 in
set_option maxHeartbeats 1000000 in
theorem IndexFuncK (lo : Nat) (v : Value) (vs : List Value) (fid : Nat) (caps : Array Value) (P : Nat → Bool) (w : World) (hv : SliceK 1 encV lo w v vs) (eg : ∀ args w, (callFunc fid args).run Tryz.prog w = .ok (.enter fid args) w) (hP : AskK fid caps P vs w.heap.size w) :
  Calls Tryz.prog 155 #[v, .func (.func fid) #[] caps] w fun e w' => e = .returned (.int .i64 (fstP P vs.length)) ∧ Below w.heap.size w w' := by
 obtain ⟨a, c, rfl, hcn, hcc, hrow⟩ := hv
 have HR := Lib.hid hrow
 have HP := Lib.hid hP
 clear hP hrow
 go_enter Tryz.func155, Tryz.ntmps155
 go_wp2_with fail
 go_loopw [8] (fun i wr => ∃ k : Nat, k ≤ vs.length ∧ i = .int .i64 k ∧ Below w.heap.size w wr ∧ ∀ j, j < k → P j = false) (fun i _ => vs.length - (intOf i).toNat)
 case atStart => exact ⟨0, Nat.zero_le _, rfl, Below.refl _ _, fun _ h => by omega⟩
 case round =>
  obtain ⟨k, hk, rfl, hbl, ha⟩ := hrel
  have HA := Lib.hid ha
  have HBL := Lib.hid hbl
  clear ha
  by_cases hlt : k < vs.length
  ·obtain ⟨b1, o1, rfl, -, hbs, c1⟩ := (HR.out.below hbl).one hlt
   simp only [encV, List.getElem?_cons_zero] at c1
   clear hbl
   have HC := Lib.hid (HP.out wr HBL.out k hlt)
   obtain ⟨x, hx⟩ : ∃ x, x = vs[k] := ⟨_, rfl⟩
   rw [← hx] at c1 HC
   obtain ⟨b, hb⟩ : ∃ b, b = P k := ⟨_, rfl⟩
   rw [← hb] at HC
   have HB := Lib.hid hb
   clear hb hx
   go_wp2_with fail
   refine Calls.mono HC.out ?_
   rintro e w1 ⟨rfl, hb1⟩
   have HB1 := Lib.hid (HBL.out.trans (hb1.mono HBL.out.size))
   clear hb1 c1
   cases b
   ·go_wp2_with fail
    go_roundw
    case rel => exact ⟨k + 1, by omega, by go_num, HB1.out, fun j hj => by
     by_cases e : j = k
     ·subst e; exact HB.out.symm
     ·exact HA.out j (by omega)⟩
    case measure => simp [intOf]; omega
   ·have HE : Hid (fstP P vs.length = k) := fstP_hit hlt HA.out HB.out.symm
    go_wp2_with fail
    go_ret
    exact ⟨ret_int HE.out.symm, HB1.out⟩
  ·clear hbl
   have HN : Hid (fstP P vs.length = -1) := fstP_none fun j hj => HA.out j (by omega)
   go_wp2_with fail
   go_ret
   exact ⟨ret_int HN.out.symm, HBL.out⟩

theorem rowI_at {lo : Nat} {w : World} {v : Value} {xs : List Int} (h : SliceK 1 encI lo w v xs) (hx : xs ≠ []) : ∃ b o c, v = .slice (some ⟨b, o, none⟩) xs.length c ∧ xs.length ≤ c ∧ c ≤ 9223372036854775807 ∧ ∀ j, j < xs.length → w.cell? ⟨b, o + j, none⟩ = some (.int .i64 (xs.getD j 0)) := by
 obtain ⟨a, c, rfl, hn, hc, hrow⟩ := h
 rcases hrow with h0 | ⟨b, o, rfl, -, -, hcell⟩
 ·exact absurd (List.length_eq_zero_iff.1 h0) hx
 ·refine ⟨b, o, c, rfl, hn, hc, fun j hj => ?_⟩
  have h1 := hcell j hj 0 (by decide)
  simp only [encI, List.getElem?_cons_zero] at h1
  rw [List.getD_eq_getElem?_getD, List.getElem?_eq_getElem hj]
  simpa using h1
theorem EqualI_any (lo lo' : Nat) (va vb : Value) (xs ys : List Int) (w : World) (hva : SliceK 1 encI lo w va xs) (hvb : SliceK 1 encI lo' w vb ys) (hx : xs ≠ []) (hy : ys ≠ []) :
  Calls Tryz.prog 113 #[va, vb] w fun e w' => e = .returned (.bool (xs == ys)) ∧ Below w.heap.size w w' := by
 obtain ⟨b1, o1, c1, rfl, n1, m1, h1⟩ := rowI_at hva hx
 obtain ⟨b2, o2, c2, rfl, n2, m2, h2⟩ := rowI_at hvb hy
 refine (Tryz.slices_Equal_int b1 o1 xs.length c1 b2 o2 ys.length c2 xs ys w (Nat.le_refl _) (Nat.le_refl _) (by omega) (by omega) h1 h2).mono ?_
 rintro e w' ⟨rfl, q, rfl⟩
 refine ⟨by rw [List.take_length, List.take_length], below_drewN (Below.refl _ _) q⟩

set_option maxRecDepth 100000 in
theorem nk1_any (lo lo' tb : Nat) (va vb : Value) (xs ys : List Int) (w : World) (hva : SliceK 1 encI lo w va xs) (hvb : SliceK 1 encI lo' w vb ys) (hx : xs ≠ []) (hy : ys ≠ []) (hb : Blk w tb [vb] 66) :
  Calls Tryz.prog 156 #[va, .pointer (some ⟨tb, 0, none⟩)] w fun e w' => e = .returned (.bool (xs == ys)) ∧ Below w.heap.size w w' := by
 have HE := Lib.hid (EqualI_any lo lo' va vb xs ys w hva hvb hx hy)
 have x0 := hb.cell 0 rfl
 obtain ⟨b, hbb⟩ : ∃ b, b = (xs == ys) := ⟨_, rfl⟩
 rw [← hbb] at HE ⊢
 clear hva hvb hb hbb
 go_enter Tryz.func156, Tryz.ntmps156
 go_wp2_with fail
 refine Calls.mono HE.out ?_
 rintro e w1 ⟨rfl, hb1⟩
 have HB1 := Lib.hid hb1
 clear hb1 x0 HE
 go_wp2
 go_ret
 exact ⟨rfl, HB1.out⟩

theorem SliceK.headK {lo n c : Nat} {a : Option Addr} {w : World} {xs : List Value} (h : SliceK 1 encV lo w (.slice a n c) xs) {m : Nat} (hm : m ≤ n) : SliceK 1 encV lo w (.slice a m c) (xs.take m) := by
 obtain ⟨b9, c9, h2, h3, h4, h5⟩ := h
 simp only [Value.slice.injEq] at h2
 obtain ⟨rfl, rfl, rfl⟩ := h2
 refine ⟨_, _, by rw [List.length_take]; congr 1; omega, by rw [List.length_take]; omega, by omega, ?_⟩
 rcases h5 with h5 | ⟨b, o, h6, h7, h8, h9⟩
 ·left; rw [List.length_take]; omega
 ·refine .inr ⟨b, o, h6, h7, h8, fun i hi j hj => ?_⟩
  rw [List.length_take] at hi
  rw [h9 i (by omega) j hj, List.getElem_take]

theorem info_int64K : (Tryz.prog.info? 2).map (fun i => (i.zero, i.size, i.bytes)) = some (some (.int .i64 0), 1, 8) := by kernel_rfl
theorem firstIx_of {ks : List (List Int)} {k : Nat} (hk : k < ks.length) : (firstIx ks)[k]? = some (if fstP (fun j => ks.getD j [] == ks[k]) k < 0 then (k : Int) else fstP (fun j => ks.getD j [] == ks[k]) k) := by
 rw [firstIx_at hk]
 have hg : ∀ j (h : j < ks.length), ks.getD j [] = ks[j] := fun j h => by rw [List.getD_eq_getElem?_getD, List.getElem?_eq_getElem h]; rfl
 have hle : fstIx ks ks[k] ≤ k := by
  rcases Nat.lt_or_ge k (fstIx ks ks[k]) with h | h
  ·exact absurd (List.getElem?_eq_getElem hk) (fstIx_first h)
  ·exact h
 congr 1
 rcases Nat.lt_or_ge (fstIx ks ks[k]) k with h | h
 ·have h1 : fstP (fun j => ks.getD j [] == ks[k]) k = (fstIx ks ks[k] : Nat) := by
   refine fstP_hit h (fun j hj => ?_) ?_
   ·rw [beq_eq_false_iff_ne, hg j (by omega)]
    intro e
    exact fstIx_first hj (by rw [List.getElem?_eq_getElem (show j < ks.length by omega), e])
   ·rw [beq_iff_eq, hg _ (by omega)]
    have h2 := fstIx_get (List.getElem_mem hk)
    rw [List.getElem?_eq_getElem (show fstIx ks ks[k] < ks.length by omega)] at h2
    exact Option.some.inj h2
  rw [h1, if_neg (by omega)]
 ·have e : fstIx ks ks[k] = k := by omega
  have h1 : fstP (fun j => ks.getD j [] == ks[k]) k = -1 := by
   refine fstP_none fun j hj => ?_
   rw [beq_eq_false_iff_ne, hg j (by omega)]
   intro e2
   exact fstIx_first (by omega : j < fstIx ks ks[k]) (by rw [List.getElem?_eq_getElem (show j < ks.length by omega), e2])
  rw [h1, if_pos (by decide), e]

set_option maxRecDepth 100000 in
set_option maxHeartbeats 1000000 in
theorem normalKeys_any (lo : Nat) (v : Value) (vs : List Value) (ks : List (List Int)) (w : World) (hv : OwnIntss 66 2 lo w v vs ks) (hne : ∀ r ∈ ks, r ≠ []) (hz : ks.length ≤ 1000) :
  Calls Tryz.prog 112 #[v] w (MadeNums (blocksL ks) w) := by
 have hvl := hv.1
 have HSV : Hid (SliceK 1 encV lo w v vs) := SliceK.of_owns (enc := encV) encV_len rfl (by rw [flat_encV]; exact hv.2.1)
 have HRW : Hid (∀ i (h : i < vs.length) (h' : i < ks.length), SliceK 1 encI lo w vs[i] ks[i]) := fun i h h' => SliceK.of_owns (enc := encI) encI_len rfl (by rw [flat_encI]; exact hv.2.2.1 i h h')
 have HNE := Lib.hid hne
 obtain ⟨a, c, rfl, hc, hcm⟩ := owns_slice hv.2.1
 have HROW : Hid (RowK 1 encV lo w a vs) := by
  obtain ⟨a9, c9, e9, -, -, h9⟩ := id HSV.out
  simp only [Value.slice.injEq] at e9
  rw [e9.1]
  exact h9
 obtain ⟨N, hN⟩ : ∃ N, N = vs.length := ⟨_, rfl⟩
 rw [← hN] at HSV hvl hc ⊢
 have HN := Lib.hid hN
 have HVL := Lib.hid hvl
 obtain ⟨Q, hQ⟩ : ∃ Q, Q = firstIx ks := ⟨_, rfl⟩
 have HQ := Lib.hid hQ
 have HQN : Hid (Q.length = N) := by unfold Hid; rw [hQ, firstIx_len, hvl]
 have hbQ : blocksL ks = normL Q := by rw [hQ]; rfl
 rw [hbQ]
 have hzN : N ≤ 1000 := by omega
 obtain ⟨i1, hi1, hz10, hz11, hz12⟩ := info_parts info_int64K
 have eg : ∀ args w, (callFunc 156 args).run Tryz.prog w = .ok (.enter 156 args) w := fun args w => by kernel_rfl
 have HEG := Lib.hid eg
 clear hv hne hN hvl hQ hbQ hz eg
 go_enter Tryz.func112, Tryz.ntmps112
 go_wp2
 go_loopw [3, 9] (fun v3 v9 wr => ∃ k : Nat, k ≤ N ∧ v9 = .int .i64 k ∧ Below w.heap.size w wr ∧ wr.ownsRow w.heap.size 2 1 v3 (Q.take k).length ((Q.take k).map (Value.int .i64))) (fun _ v9 _ => N - (intOf v9).toNat)
 case atStart => exact ⟨0, Nat.zero_le _, rfl, Below.refl _ _, World.ownsRow_nil _ _ _ _⟩
 case round =>
  obtain ⟨k, hk, rfl, hbl, ho⟩ := hrel
  obtain ⟨wC, rfl⟩ : ∃ wC : World, wC = wr := ⟨_, rfl⟩
  have HBL := Lib.hid hbl
  have hszC := hbl.size
  have hTk : (Q.take k).length = k := by rw [List.length_take, HQN.out]; omega
  rw [hTk] at ho
  obtain ⟨oa, oc, rfl, -, -⟩ := owns_slice ho
  have HO := Lib.hid ho
  clear ho hTk
  by_cases hlt : k < N
  ·have hlv : k < vs.length := by rw [← HN.out]; exact hlt
   have hlk : k < ks.length := by rw [← HVL.out]; exact hlt
   obtain ⟨b1, o1, rfl, -, hb1, c1⟩ := (HROW.out.below hbl).one hlv
   simp only [encV, List.getElem?_cons_zero] at c1
   have hkr := HRW.out k hlv hlk
   obtain ⟨ra, rc, hr9, -, -, -⟩ := id hkr
   obtain ⟨RL, hRL⟩ : ∃ RL, RL = ks[k].length := ⟨_, rfl⟩
   rw [← hRL] at hr9
   rw [hr9] at c1
   obtain ⟨tb, htb⟩ : ∃ tb, tb = wC.heap.size := ⟨_, rfl⟩
   obtain ⟨wK, hwK⟩ : ∃ wK, wK = wC.alloc (.cells #[.slice ra RL rc] 66) := ⟨_, rfl⟩
   have hbK : Below wC.heap.size wC wK := by rw [hwK]; exact (Below.refl _ _).alloc (Nat.le_refl _) _
   have hT : Blk wK tb [.slice ra RL rc] 66 := by rw [hwK, htb]; exact Blk.new wC _ _
   have hBK := HBL.out.trans (hbK.mono hszC)
   have HBK := Lib.hid hBK
   have HT := Lib.hid hT
   have HOK := Lib.hid (owns_below HO.out hbK)
   have HTK : Hid ((vs.take k).length = k) := by unfold Hid; rw [List.length_take]; omega
   have HIX := Lib.hid (IndexFuncK lo (.slice (some ⟨b1, o1, none⟩) k c) (vs.take k) 156 #[.pointer (some ⟨tb, 0, none⟩)] (fun j => ks.getD j [] == ks[k]) wK ((HSV.out.below hBK).headK (by omega)) HEG.out (fun w' hb i hi => by
    have hik : i < k := by rw [HTK.out] at hi; exact hi
    have hiv : i < vs.length := by omega
    have hil : i < ks.length := by omega
    rw [List.getElem_take]
    have hg : ks.getD i [] = ks[i] := by rw [List.getD_eq_getElem?_getD, List.getElem?_eq_getElem hil]; rfl
    show Calls Tryz.prog 156 (#[vs[i]] ++ #[.pointer (some ⟨tb, 0, none⟩)]) w' fun e w'' => e = .returned (.bool (ks.getD i [] == ks[k])) ∧ Below w'.heap.size w' w''
    rw [hg]
    exact nk1_any lo lo tb vs[i] (.slice ra RL rc) ks[i] ks[k] w' ((HRW.out i hiv hil).below (HBK.out.trans (hb.mono HBK.out.size))) (by rw [← hr9]; exact (HRW.out k hlv hlk).below (HBK.out.trans (hb.mono HBK.out.size))) (HNE.out _ (List.getElem_mem hil)) (HNE.out _ (List.getElem_mem hlk)) (HT.out.below hb)))
   rw [HTK.out] at HIX
   have hfi := firstIx_of hlk
   rw [← HQ.out] at hfi
   obtain ⟨f, hf⟩ : ∃ f, f = fstP (fun j => ks.getD j [] == ks[k]) k := ⟨_, rfl⟩
   rw [← hf] at HIX hfi
   obtain ⟨z, hz⟩ : ∃ z : Int, z = if f < 0 then (k : Int) else f := ⟨_, rfl⟩
   rw [← hz] at hfi
   have hltq : k < Q.length := by rw [HQN.out]; exact hlt
   have hQk : Q[k] = z := by
    rw [List.getElem?_eq_getElem hltq] at hfi
    exact Option.some.inj hfi
   have HNX : Hid ((Q.take (k + 1)).length = k + 1 ∧ (Q.take (k + 1)).map (Value.int .i64) = (Q.take k).map (Value.int .i64) ++ [.int .i64 z]) := by
    refine ⟨by rw [List.length_take, HQN.out]; omega, ?_⟩
    rw [List.take_succ_eq_append_getElem hltq, List.map_append, hQk]
    rfl
   have HZ := Lib.hid hz
   have HWK := Lib.hid hwK
   have HTB := Lib.hid htb
   have hsK : w.heap.size ≤ wK.heap.size := hBK.size
   clear hkr hr9 hRL hwK hbK hT hBK hfi hf hQk hz htb hbl
   go_wp2_with fail
   rw [← HWK.out]
   try rw [← HTB.out]
   refine Calls.mono HIX.out ?_
   rintro e w3 ⟨rfl, hb3⟩
   have HB3 := Lib.hid (HBK.out.trans (hb3.mono hsK))
   have HO3 := Lib.hid (owns_below HOK.out hb3)
   have hs3 := HB3.out.size
   clear hb3 HIX c1
   by_cases hf0 : f < 0
   ·have HZ2 : Hid (z = (k : Int)) := by unfold Hid; rw [HZ.out, if_pos hf0]
    go_wp2_with (at_builtin; refine wpList_append_own _ rfl _ _ 66 rfl w.heap.size 2 i1 (.int .i64 0) 1 8 Tryz.underlying66 hi1 hz10 hz11 hz12 rfl (by decide) _ k _ rfl (HO3.out.alloc _) ⟨w3.heap.size, 0, none⟩ 1 1 [.int .i64 k] rfl rfl ?c1 ?c2 ?c3 ?c4 ?c5 ?_)
    case c1 => exact World.news_of_block (cs := #[.int .i64 k]) (t := 2) (fr := (0, 0)) (heap_alloc_new _ _)
    case c2 => intro u hu; simp at hu; subst hu; rfl
    case c3 => simp [maxLen]; omega
    case c4 => omega
    case c5 => first | omega | (simp; omega)
    intro v7 w7 ho7 hg7 _
    have HB7 : Hid (Below w.heap.size w w7) := (HB3.out.alloc hs3 _).grown hg7 (by simp; omega) (fun b e => (HO3.out.lt b e).1)
    have HO7 : Hid (w7.ownsRow w.heap.size 2 1 v7 (Q.take (k + 1)).length ((Q.take (k + 1)).map (Value.int .i64))) := by unfold Hid; rw [HNX.out.1, HNX.out.2, HZ2.out, List.map_take]; exact ho7
    clear ho7 hg7
    go_wp2
    go_roundw
    case rel => exact ⟨k + 1, by omega, by go_num, HB7.out, HO7.out⟩
    case measure => simp [intOf]; omega
   ·have HZ2 : Hid (z = f) := by unfold Hid; rw [HZ.out, if_neg hf0]
    go_wp2_with (at_builtin; refine wpList_append_own _ rfl _ _ 66 rfl w.heap.size 2 i1 (.int .i64 0) 1 8 Tryz.underlying66 hi1 hz10 hz11 hz12 rfl (by decide) _ k _ rfl (HO3.out.alloc _) ⟨w3.heap.size, 0, none⟩ 1 1 [.int .i64 f] rfl rfl ?c1 ?c2 ?c3 ?c4 ?c5 ?_)
    case c1 => exact World.news_of_block (cs := #[.int .i64 f]) (t := 2) (fr := (0, 0)) (heap_alloc_new _ _)
    case c2 => intro u hu; simp at hu; subst hu; rfl
    case c3 => simp [maxLen]; omega
    case c4 => omega
    case c5 => first | omega | (simp; omega)
    intro v7 w7 ho7 hg7 _
    have HB7 : Hid (Below w.heap.size w w7) := (HB3.out.alloc hs3 _).grown hg7 (by simp; omega) (fun b e => (HO3.out.lt b e).1)
    have HO7 : Hid (w7.ownsRow w.heap.size 2 1 v7 (Q.take (k + 1)).length ((Q.take (k + 1)).map (Value.int .i64))) := by unfold Hid; rw [HNX.out.1, HNX.out.2, HZ2.out, List.map_take]; exact ho7
    clear ho7 hg7
    go_wp2
    go_roundw
    case rel => exact ⟨k + 1, by omega, by go_num, HB7.out, HO7.out⟩
    case measure => simp [intOf]; omega
  ·obtain rfl : k = N := by omega
   have hof : wC.ownsRow w.heap.size 2 1 (.slice oa k oc) Q.length (Q.map (Value.int .i64)) := by
    have h := HO.out
    rw [← HQN.out] at h ⊢
    simpa using h
   have HNM := Lib.hid (normal_any w.heap.size (.slice oa k oc) Q wC (by rw [HQN.out]; omega) (fun x hx => by
    obtain ⟨i, hi, rfl⟩ := List.mem_iff_getElem.1 hx
    have h := firstIx_at (l := ks) (i := i) (by have := HQN.out; have := HVL.out; omega)
    rw [← HQ.out, List.getElem?_eq_getElem hi] at h
    have h2 := fstIx_le ks (ks[i]'(by have := HQN.out; have := HVL.out; omega))
    rw [Option.some.inj h]
    have := HVL.out
    exact ⟨by omega, by omega⟩) (SliceK.of_owns (enc := encI) encI_len HQN.out.symm (by rw [flat_encI]; rw [HQN.out] at hof; exact hof)))
   clear hof hbl
   go_wp2_with fail
   refine Calls.mono HNM.out ?_
   rintro e w5 ⟨v5, rfl, hb5, ho5⟩
   have HB5 := Lib.hid (HBL.out.trans (hb5.mono hszC))
   have HO5 := Lib.hid (own_lower ho5 hszC)
   clear hb5 ho5 HNM
   go_wp2
   go_ret
   exact ⟨_, rfl, HB5.out, HO5.out⟩

end Go.Proofs.YtaabkeejbhdenaaGreatDoor
