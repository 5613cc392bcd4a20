/-
  What explored computes at sets of states: the net, and whether its system is valid.
  What the implementation's determinize computes: the same as the reference's l12Sets.
  ValidLts at a valid system, and at one that is not; boxes.
  What the small functions of the package laws compute: the size of the arguments, their copies, their comparison.
-/
import Derived.Test.YtaabkeejbhdenaaGreatDoorC20
import Derived.Test.YtaabkeejbhdenaaGreatDoorC10
import Derived.Handy
import Derived.Test.YtaabkeejbhdenaaGreatDoorC17
import Derived.Test.YtaabkeejbhdenaaGreatDoorRows
import Derived.Test.YtaabkeejbhdenaaGreatDoorC1
import Derived.BigQuiet
import Derived.Deep.QuietTactic
import Derived.Deep.LoopGhost
namespace Go.Proofs.YtaabkeejbhdenaaGreatDoor
open Go Go.RowKit

theorem encA_encC (t : Lts) (es : List Edge) : es.flatMap (encA t) = (es.map (arcOf t)).flatMap encC := by
 rw [List.flatMap_map]
 rfl
theorem blk_new9 (w : World) : Blk (w.alloc (.cells #[.int .i64 0, .int .i64 0, .slice none 0 0, .slice none 0 0] 29)) w.heap.size [.int .i64 0, .int .i64 0, .slice none 0 0, .slice none 0 0] 29 := Blk.new w _ _
theorem box_below9 (w : World) (a : Array Value) (T : TypeId) : Below w.heap.size w (w.alloc (.cells a T)) := (Below.refl _ _).alloc (Nat.le_refl _) _
/-- The next round's variable. -/
theorem ExpAt.turn {B xb mb pb ib rb i : Nat} {t : Lts} {st : DNet} {sv av : Value} {vs : List Value} {w : World} {j : Nat} (h : ExpAt B xb mb pb ib rb true i t st sv av vs w) (hB : B ≤ w.heap.size) :
  ExpAt B xb mb pb w.heap.size rb true j t st sv av vs (w.alloc (.cells #[.int .i64 j] 3)) := by
 have hb : Below w.heap.size w (w.alloc (.cells #[.int .i64 j] 3)) := (Below.refl _ _).alloc (Nat.le_refl _) _
 have h2 := h.below hb
 exact ⟨h2.base, h2.mbase, h2.pbase, hB, h2.rbase, h2.box, h2.ptr, fun _ => Blk.new w [.int .i64 j] 3, h2.res, h2.rows, h2.map, h2.arcs⟩

theorem found_full {t : Lts} {st : DNet} (h : DFound t st) (h0 : 0 < st.rows.length) (hs : ¬ DSmall st) : DFull t := by
 obtain ⟨n, hc, rfl, hl⟩ := h
 obtain ⟨m, rfl⟩ : ∃ m, n = m + 1 := ⟨n - 1, by omega⟩
 have hm := hc m (by omega)
 refine ⟨m, t.labels.length - 1, (dAt t m).rows[m], fun k hk => hc k (by omega), List.getElem?_eq_getElem hm, Nat.le_refl _, ?_⟩
 rw [← dAt_succ (List.getElem?_eq_getElem hm)]
 exact hs
theorem own4 {w : World} {b : Nat} {x0 x1 x2 x3 v0 v1 v2 v3 : Value} (hb : Blk w b [x0, x1, x2, x3] 29) {base e size n : Nat} {v : Value} {xs : List Value} (ho : w.ownsRow base e size v n xs) (he : e ≠ 29) :
  ((((w.setCell ⟨b, 0, none⟩ v0).setCell ⟨b, 1, none⟩ v1).setCell ⟨b, 2, none⟩ v2).setCell ⟨b, 3, none⟩ v3).ownsRow base e size v n xs :=
 own_sets (own_sets (own_sets (own_sets ho hb he 0 _) (hb.set 0 v0) he 1 _) ((hb.set 0 v0).set 1 v1) he 2 _) (((hb.set 0 v0).set 1 v1).set 2 v2) he 3 _
theorem OwnIntss.set1 {eo ei lo : Nat} {w : World} {v : Value} {vs : List Value} {xss : List (List Int)} (h : OwnIntss eo ei lo w v vs xss) {b : Nat} {cs : List Value} {t : TypeId} (hb : Blk w b cs t) (he : eo ≠ t) (hi : ei ≠ t) (i : Nat) (u : Value) : OwnIntss eo ei lo (w.setCell ⟨b, i, none⟩ u) v vs xss :=
 h.kept (grown_setCell w ⟨b, i, none⟩ u) (own_type_ne h.2.1 hb he) (fun j hj => own_type_ne (h.2.2.1 j hj (by rw [← h.1]; exact hj)) hb hi)
theorem sys_short {t : Lts} {st : DNet} (hv : Valid t) (hG : DGood t st) (h : Short20 t.labels) : Short20 (sysOf t st).labels := by
 intro i hi
 have hm := ((used_is hv.labels (used_mem hG)).2 (sysOf t st).labels[i]).1 (List.getElem_mem hi)
 rcases List.mem_cons.1 hm with e | hm
 ·rw [e]; decide
 ·obtain ⟨j, hj, e⟩ := List.mem_iff_getElem.1 (used_mem hG _ hm)
  rw [← e]
  exact h j hj
theorem four_sets {w w8 : World} {b : Nat} {x0 x1 x2 x3 v0 v1 v2 v3 : Value} (hb : Blk w8 b [x0, x1, x2, x3] 29) (hB : Below w.heap.size w w8) (hw : w.heap.size ≤ b) :
  Below w.heap.size w ((((w8.setCell ⟨b, 0, none⟩ v0).setCell ⟨b, 1, none⟩ v1).setCell ⟨b, 2, none⟩ v2).setCell ⟨b, 3, none⟩ v3) ∧ Blk ((((w8.setCell ⟨b, 0, none⟩ v0).setCell ⟨b, 1, none⟩ v1).setCell ⟨b, 2, none⟩ v2).setCell ⟨b, 3, none⟩ v3) b [v0, v1, v2, v3] 29
   ∧ ∀ {base e size n : Nat} {v : Value} {xs : List Value}, w8.ownsRow base e size v n xs → e ≠ 29 → ((((w8.setCell ⟨b, 0, none⟩ v0).setCell ⟨b, 1, none⟩ v1).setCell ⟨b, 2, none⟩ v2).setCell ⟨b, 3, none⟩ v3).ownsRow base e size v n xs :=
 ⟨(((hB.setCell hw _).setCell hw _).setCell hw _).setCell hw _, (((hb.set 0 v0).set 1 v1).set 2 v2).set 3 v3,
  fun ho he => own_sets (own_sets (own_sets (own_sets ho hb he 0 _) (hb.set 0 v0) he 1 _) ((hb.set 0 v0).set 1 v1) he 2 _) (((hb.set 0 v0).set 1 v1).set 2 v2) he 3 _⟩
theorem expl_results {w : World} {b : Nat} {v0 v1 v2 v3 : Value} {tmps : Array Value} (hc : tmps.getD 6 undef = .pointer (some ⟨b, 0, none⟩)) (hb : Blk w b [v0, v1, v2, v3] 29) :
  (results Tryz.f57 tmps).run Tryz.prog w = .ok (.tuple #[.agg #[v0, v1, v2, v3], tmps.getD 7 undef, tmps.getD 8 undef]) w := by
 have h0 := hb.cell 0 rfl
 have h1 := hb.cell 1 rfl
 have h2 := hb.cell 2 rfl
 have h3 := hb.cell 3 rfl
 simp only [Array.getD_eq_getD_getElem?] at hc
 simp [results, Tryz.results57, go_sem, hc, h0, h1, h2, h3, Result.andThen]

/-- What explored returns: too large, or the net with its system. -/
def RetExp (t : Lts) (B : Nat) (w0 : World) (e : Ending) (w' : World) : Prop :=
 Below B w0 w' ∧ ((DFull t ∧ ∃ a b a1 n1 c1 a2 n2 c2 v, e = .returned (.tuple #[.agg #[.int .i64 a, .int .i64 b, .slice a1 n1 c1, .slice a2 n2 c2], v, .bool false]))
  ∨ ∃ st lv ev sv, DOk t st ∧ DGood t st ∧ Up st.edges ∧ e = .returned (.tuple #[.agg #[.int .i64 st.rows.length, .int .i64 0, lv, ev], sv, .bool true])
   ∧ w'.ownsRow B 9 1 lv (sysOf t st).labels.length ((sysOf t st).labels.map .string) ∧ w'.ownsRow B 73 3 ev (sysOf t st).edges.length ((sysOf t st).edges.flatMap encE) ∧ ∃ vs, OwnIntss 66 2 B w' sv vs st.rows)

set_option maxRecDepth 100000 in
set_option maxHeartbeats 8000000 in
theorem explored_any (B tb lo : Nat) (t : Lts) (lv ev fv : Value) (w0 w : World) (hv : Valid t) (hB : B = w0.heap.size) (hbl : Below B w0 w) (hf : w.ownsRow B 2 1 fv (firstS t).length ((firstS t).map (Value.int .i64)))
  (hl : SliceK 1 encS lo w0 lv t.labels) (he : SliceK 3 encE lo w0 ev t.edges) (ht : Blk w0 tb [.int .i64 t.states, .int .i64 t.initial, lv, ev] 29) (g : Glob w0) (hsh : Short20 t.labels) :
  Calls Tryz.prog 57 #[fv, .func (.func 59) #[] #[], .func (.func 61) #[] #[.pointer (some ⟨tb, 0, none⟩)]] w (RetExp t B w0) := by
 have HV := Lib.hid hv
 have HL := Lib.hid hl
 have HEV := Lib.hid he
 have HT := Lib.hid ht
 have HG := Lib.hid g
 have HSH := Lib.hid hsh
 have HB := Lib.hid hB
 have hszB : B ≤ w.heap.size := by rw [hB]; exact hbl.size
 obtain ⟨rb, hrb⟩ : ∃ rb, rb = w.heap.size := ⟨_, rfl⟩
 -- the world at the first find
 obtain ⟨w1, hw1⟩ : ∃ w1, w1 = (((w.alloc (.cells #[.int .i64 0, .int .i64 0, .slice none 0 0, .slice none 0 0] 29)).alloc (.map #[] 0)).alloc (.cells #[.slice none 0 0, .map (some (w.heap.size + 1)), .slice none 0 0, .func (.func 59) #[] #[]] 135)).alloc (.cells #[.pointer (some ⟨w.heap.size + 1 + 1, 0, none⟩)] 132) := ⟨_, rfl⟩
 have hb1 : Below w.heap.size w w1 := by rw [hw1]; exact ((((Below.refl _ _).alloc (Nat.le_refl _) _).alloc (by simp) _).alloc (by simp; omega) _).alloc (by simp; omega) _
 have HX1 : Hid (ExpAt B (rb + 1 + 1) (rb + 1) (rb + 1 + 1 + 1) rb rb false 0 t ⟨[], []⟩ (.slice none 0 0) (.slice none 0 0) [] w1) := by
  unfold Hid
  rw [hw1, hrb]
  refine ⟨by omega, by omega, by omega, by omega, by omega, ?_, ?_, (fun h => by cases h), ?_, ?_, ?_, World.ownsRow_nil _ _ _ _⟩
  ·have := (Blk.new ((w.alloc (.cells #[.int .i64 0, .int .i64 0, .slice none 0 0, .slice none 0 0] 29)).alloc (.map #[] 0)) [.slice none 0 0, .map (some (w.heap.size + 1)), .slice none 0 0, .func (.func 59) #[] #[]] 135)
   rw [World.size_alloc, World.size_alloc] at this
   exact this.alloc _
  ·have := Blk.new (((w.alloc (.cells #[.int .i64 0, .int .i64 0, .slice none 0 0, .slice none 0 0] 29)).alloc (.map #[] 0)).alloc (.cells #[.slice none 0 0, .map (some (w.heap.size + 1)), .slice none 0 0, .func (.func 59) #[] #[]] 135)) [.pointer (some ⟨w.heap.size + 1 + 1, 0, none⟩)] 132
   rw [World.size_alloc, World.size_alloc, World.size_alloc] at this
   exact this
  ·exact (((Blk.new w _ _).alloc _).alloc _).alloc _
  ·exact ⟨rfl, World.ownsRow_nil _ _ _ _, fun i h _ => absurd h (Nat.not_lt_zero _), fun i j h _ _ => absurd h (Nat.not_lt_zero _), fun i h => absurd h (Nat.not_lt_zero _)⟩
  ·have := NumMap.made .i64 (w.alloc (.cells #[.int .i64 0, .int .i64 0, .slice none 0 0, .slice none 0 0] 29))
   rw [World.size_alloc] at this
   have h2 : Below (w.heap.size + 1 + 1) ((w.alloc (.cells #[.int .i64 0, .int .i64 0, .slice none 0 0, .slice none 0 0] 29)).alloc (.map #[] 0)) ((((w.alloc (.cells #[.int .i64 0, .int .i64 0, .slice none 0 0, .slice none 0 0] 29)).alloc (.map #[] 0)).alloc (.cells #[.slice none 0 0, .map (some (w.heap.size + 1)), .slice none 0 0, .func (.func 59) #[] #[]] 135)).alloc (.cells #[.pointer (some ⟨w.heap.size + 1 + 1, 0, none⟩)] 132)) := ((Below.refl _ _).alloc (by simp) _).alloc (by simp) _
   exact this.below (by simpa using h2)
 have hf1 := owns_below hf hb1
 have HBL1 := Lib.hid (hbl.trans (hb1.mono hszB))
 have hg1 : Glob w1 := g.below (by have := HBL1.out; rw [hB] at this; exact this)
 have HF1 := Lib.hid (findS_any B (rb + 1 + 1) (rb + 1) (rb + 1 + 1 + 1) rb rb false 0 B t ⟨[], []⟩ (.slice none 0 0) (.slice none 0 0) fv [] (firstS t) w1 (Nat.le_trans hszB hb1.size) HX1.out List.nodup_nil (fun r hr => by cases hr) (first_rowOk hv) (fun i h => by cases h) (Nat.le_refl _) hf1 (by simp) hg1)
 have HW1 := Lib.hid hw1
 have HRB := Lib.hid hrb
 have p1 := HX1.out.ptr.cell 0 rfl
 have hmm := @run_makeMap Tryz.prog
 clear hv hl he ht g hsh hbl hw1 hb1 hf hf1 hg1 HX1 hB hrb
 go_enter Tryz.func57, Tryz.ntmps57
 go_wp2_with fail
 rw [← HW1.out, ← HRB.out]
 refine Calls.mono HF1.out ?_
 rintro e2 w2 ⟨rfl, hb2, sv2, vs2, hx2, -, -⟩
 have HX2 := Lib.hid hx2
 have HB2 := Lib.hid (HBL1.out.trans hb2)
 obtain ⟨xb, hxb⟩ : ∃ xb, xb = rb + 1 + 1 := ⟨_, rfl⟩
 obtain ⟨mb, hmb⟩ : ∃ mb, mb = rb + 1 := ⟨_, rfl⟩
 obtain ⟨pb, hpb⟩ : ∃ pb, pb = rb + 1 + 1 + 1 := ⟨_, rfl⟩
 rw [← hpb, ← hxb, ← hmb] at HX2
 rw [← hpb]
 have hs2 : B ≤ w2.heap.size := by have h1 := HX2.out.ptr.lt; have h2 := HX2.out.pbase; omega
 clear hx2 hb2 HF1 HBL1 p1 hmm hxb hmb hpb
 have HX3 : Hid (ExpAt B xb mb pb w2.heap.size rb true 0 t (dAt t 0) sv2 (.slice none 0 0) vs2 (w2.alloc (.cells #[.int .i64 0] 3))) := by
  have hb : Below w2.heap.size w2 (w2.alloc (.cells #[.int .i64 0] 3)) := (Below.refl _ _).alloc (Nat.le_refl _) _
  have h2 := HX2.out.below hb
  have hd : (⟨dadd [] (firstS t), []⟩ : DNet) = dAt t 0 := by rw [dAt]; rfl
  rw [hd] at h2
  exact ⟨h2.base, h2.mbase, h2.pbase, hs2, h2.rbase, h2.box, h2.ptr, fun _ => Blk.new w2 _ _, h2.res, h2.rows, h2.map, h2.arcs⟩
 go_wp2
 go_loopg [10] 64 (fun gk v10 wr => ∃ (n ib : Nat) (sv av : Value) (vs : List Value), v10 = .pointer (some ⟨ib, 0, none⟩) ∧ DCome t n ∧ (dAt t n).rows.length ≤ 40 ∧ 64 - n ≤ gk ∧ ExpAt B xb mb pb ib rb true n t (dAt t n) sv av vs wr ∧ Below B w0 wr)
 case atStart => exact ⟨0, w2.heap.size, sv2, _, vs2, rfl, DCome.zero t, by simp [dAt], by omega, HX3.out, HB2.out.alloc hs2 _⟩
 case round =>
  clear HX3 HB2 HX2
  obtain ⟨n, ib, sv, av, vs, rfl, hcome, h40, hgk, hx, hbl⟩ := hrel
  obtain ⟨wC, rfl⟩ : ∃ wC : World, wC = wr := ⟨_, rfl⟩
  have HCO := Lib.hid hcome
  have HX := Lib.hid hx
  have HBL := Lib.hid hbl
  have HGK := Lib.hid hgk
  have HGD := Lib.hid (DGood.at HV.out n)
  have HUP := Lib.hid (up_at t n)
  have hfew := dAt_few HV.out.labels.most n
  have hszC : B ≤ wC.heap.size := by rw [HB.out]; exact hbl.size
  have hvl : vs.length = (dAt t n).rows.length := hx.rows.1
  obtain ⟨sa, cs, rfl, -, -⟩ := owns_slice hx.rows.2.1
  have hn40 : n ≤ 40 := by
   rcases Nat.eq_zero_or_pos n with h | h
   ·omega
   ·have h1 := hcome (n - 1) (by omega)
    have h2 := dAt_le t (n - 1) 1
    rw [show n - 1 + 1 = n from by omega] at h2
    obtain ⟨⟨r, hr⟩, -⟩ := h2
    rw [hr, List.length_append] at h40
    omega
  obtain ⟨S0, hS0⟩ : ∃ S0, S0 = dAt t n := ⟨_, rfl⟩
  rw [← hS0] at HX HGD HUP h40 hvl hfew
  have HS0 := Lib.hid hS0
  rw [hvl] at HX
  obtain ⟨R, hR⟩ : ∃ R, R = S0.rows.length := ⟨_, rfl⟩
  rw [← hR] at HX h40 hvl
  have HR := Lib.hid hR
  have hxl := HX.out.box.lt
  have hpl := HX.out.ptr.lt
  have hil := (HX.out.idx rfl).lt
  have lx := later_cell hxl (HX.out.box.cell 0 rfl)
  have lp := later_cell hpl (HX.out.ptr.cell 0 rfl)
  have li := later_cell hil ((HX.out.idx rfl).cell 0 rfl)
  clear hcome hx hbl hgk hS0 hR
  by_cases hlt : n < R
  ·have hlR : n < S0.rows.length := by rw [← HR.out]; exact hlt
   obtain ⟨cur, hcur⟩ : ∃ cur, S0.rows[n]? = some cur := ⟨_, List.getElem?_eq_getElem hlR⟩
   obtain ⟨rn, hrn⟩ : ∃ rn, vs[n]? = some rn := ⟨_, List.getElem?_eq_getElem (show n < vs.length by omega)⟩
   obtain ⟨bs, e1, hbs, hcs⟩ : ∃ bs, sa = some ⟨bs, 0, none⟩ ∧ bs < wC.heap.size ∧ wC.cell? ⟨bs, n, none⟩ = some rn := by
    have h1 := HX.out.rows.2.1
    rw [hvl] at h1
    rcases h1.2 with ⟨h, h0⟩ | ⟨bs, c, u, h, -⟩
    ·omega
    ·simp only [Value.slice.injEq, true_and] at h
     obtain ⟨rfl, rfl⟩ := h
     refine ⟨bs, rfl, (h1.lt bs rfl).2, ?_⟩
     have := h1.cellAt n (by omega)
     rw [this, hrn]
   subst e1
   have HCU := Lib.hid hcur
   have HRN := Lib.hid hrn
   clear hcur hrn hlR
   go_wp2
   refine wp_region_later (by kernel_rfl) (by kernel_rfl) ?_
   repeat (go_big_quiet_step ((fail)))
   refine wpQuiet_nil ?_
   intro _ hw9
   obtain ⟨nl, hw8⟩ := hw9
   subst hw8
   have HX4 := Lib.hid (HX.out.below nl.h)
   have HB4 := Lib.hid (HBL.out.trans (nl.h.mono hszC))
   have hs4 := nl.h.size
   have hcs4 := keeps nl.h hbs hcs
   obtain ⟨wD, hwD⟩ : ∃ wD, wD = nl.w := ⟨_, rfl⟩
   rw [← hwD] at HX4 HB4 hs4 hcs4 ⊢
   have hbs4 : bs < wD.heap.size := by omega
   have hszD : B ≤ wD.heap.size := by omega
   clear lx lp li hcs hwD HX HBL
   have lx := later_cell HX4.out.box.lt (HX4.out.box.cell 0 rfl)
   have lp := later_cell HX4.out.ptr.lt (HX4.out.ptr.cell 0 rfl)
   have li := later_cell (HX4.out.idx rfl).lt ((HX4.out.idx rfl).cell 0 rfl)
   have lc := later_cell hbs4 hcs4
   have hni : (n : Int) < (R : Int) := by omega
   go_wp2
   refine wp_region_later_tail 9 (by kernel_rfl) (by kernel_rfl) ?_
   simp only [List.take_succ_cons, List.take_zero, List.drop_succ_cons, List.drop_zero]
   repeat (go_big_quiet_step ((fail)))
   refine wpQuiet_nil ?_
   intro _ hw9
   obtain ⟨nl, hw8⟩ := hw9
   subst hw8
   have HX5 := Lib.hid (HX4.out.below nl.h)
   have HB5 := Lib.hid (HB4.out.trans (nl.h.mono hszD))
   have HMV := Lib.hid (movesS_any B xb mb pb ib rb n tb lo t S0 cur (.slice (some ⟨bs, 0, none⟩) R cs) av lv ev rn vs w0 nl.w HV.out HB.out HB5.out HX5.out HL.out HEV.out HT.out HG.out HGD.out (by rw [← HR.out]; exact h40) (by omega) HCU.out HRN.out)
   have hda := dAt_succ (t := t) (n := n) (cur := cur) (by rw [← HS0.out]; exact HCU.out)
   rw [← HS0.out] at hda
   rw [← hda] at HMV
   have HDA := Lib.hid hda
   clear lx lp li lc hcs4 hbs4 HX4 HX5 HB4 hda hbs
   go_wp2_with fail
   refine Calls.mono HMV.out ?_
   rintro e6 w6 ⟨rfl, hb6, sv6, av6, vs6, hx6, -⟩
   have HX6 := Lib.hid hx6
   have HB6 := Lib.hid hb6
   have hvl6 : vs6.length = (dAt t (n + 1)).rows.length := hx6.rows.1
   obtain ⟨sa6, cs6, rfl, -, -⟩ := owns_slice hx6.rows.2.1
   have HCN := Lib.hid (HCO.out.succ (by rw [← HS0.out, ← HR.out]; exact hlt))
   obtain ⟨R6, hR6⟩ : ∃ R6, R6 = (dAt t (n + 1)).rows.length := ⟨_, rfl⟩
   rw [← hR6] at hvl6
   rw [hvl6] at HX6
   have HR6 := Lib.hid hR6
   have hs6 : B ≤ w6.heap.size := by have h1 := HX6.out.ptr.lt; have h2 := HX6.out.pbase; omega
   have p6 := HX6.out.ptr.cell 0 rfl
   have x6 := HX6.out.box.cell 0 rfl
   have i6 := (HX6.out.idx rfl).cell 0 rfl
   have i6f := (HX6.out.idx rfl).frozen 0
   have hil6 := (HX6.out.idx rfl).lt
   clear hx6 hb6 HMV hR6
   by_cases h41 : 40 < R6
   ·have HFU : Hid (DFull t) := by
     refine ⟨n, t.labels.length - 1, cur, HCO.out, by rw [← HS0.out]; exact HCU.out, Nat.le_refl _, fun h => ?_⟩
     rw [← HS0.out, ← HDA.out] at h
     have h1 := h.1
     have h2 := HR6.out
     omega
    have r0 := HX6.out.res.cell 0 rfl
    have r1 := HX6.out.res.cell 1 rfl
    have r2 := HX6.out.res.cell 2 rfl
    have r3 := HX6.out.res.cell 3 rfl
    have f0 := HX6.out.res.frozen 0
    have f1 := HX6.out.res.frozen 1
    have f2 := HX6.out.res.frozen 2
    have f3 := HX6.out.res.frozen 3
    have h41b : decide ((40 : Int) < ((R6 : Nat) : Int)) = true := by rw [decide_eq_true_eq]; omega
    go_wp2
    refine bodyPost_ret (expl_results rfl ((((HX6.out.res.set 0 _).set 1 _).set 2 _).set 3 _)) rfl ?_
    exact ⟨(((HB6.out.setCell HX6.out.rbase _).setCell HX6.out.rbase _).setCell HX6.out.rbase _).setCell HX6.out.rbase _, .inl ⟨HFU.out, _, _, _, _, _, _, _, _, _, rfl⟩⟩
   ·have h41b : decide ((40 : Int) < ((R6 : Nat) : Int)) = false := by rw [decide_eq_false_iff_not]; omega
    have HXT := Lib.hid (HX6.out.turn (j := n + 1) hs6)
    have hcast : (((n + 1 : Nat)) : Int) = (n : Int) + 1 := by omega
    rw [hcast] at HXT
    clear hcast
    go_wp2
    go_roundg (64 - (n + 1))
    case measure => have := HGK.out; omega
    case rel =>
     refine ⟨n + 1, w6.heap.size, _, _, _, rfl, HCN.out, by rw [← HR6.out]; omega, Nat.le_refl _, HXT.out, HB6.out.alloc hs6 _⟩
  ·have hdone := HCO.out
   have HFD : Hid (DFound t S0) := by
    refine ⟨n, HCO.out, HS0.out.symm, ?_⟩
    have h1 : n ≤ R := by
     rcases Nat.eq_zero_or_pos n with h | h
     ·omega
     ·have h2 := HCO.out (n - 1) (by omega)
      have h3 := dAt_le t (n - 1) 1
      rw [show n - 1 + 1 = n from by omega] at h3
      obtain ⟨⟨r, hr⟩, -⟩ := h3
      have h4 := HR.out
      rw [HS0.out, hr, List.length_append] at h4
      omega
    rw [← HR.out]
    omega
   clear hdone
   go_wp2
   refine wp_region_later (by kernel_rfl) (by kernel_rfl) ?_
   repeat (go_big_quiet_step ((fail)))
   refine wpQuiet_nil ?_
   intro _ hw9
   obtain ⟨nl, hw8⟩ := hw9
   subst hw8
   have HX4 := Lib.hid (HX.out.below nl.h)
   have HB4 := Lib.hid (HBL.out.trans (nl.h.mono hszC))
   have hs4 := nl.h.size
   obtain ⟨wD, hwD⟩ : ∃ wD, wD = nl.w := ⟨_, rfl⟩
   rw [← hwD] at HX4 HB4 hs4 ⊢
   have hszD : B ≤ wD.heap.size := by omega
   clear lx lp li hwD HX HBL
   have hxl := HX4.out.box.lt
   have hpl := HX4.out.ptr.lt
   have hD : Below wD.heap.size wD wD.drew := (Below.refl _ _).drew
   have p0 := HX4.out.ptr.cell 0 rfl
   have x0 := HX4.out.box.cell 0 rfl
   have x2 := HX4.out.box.cell 2 rfl
   have P0 := keeps hD hpl p0
   have X0 := keeps hD hxl x0
   have X2 := keeps hD hxl x2
   have hfe : S0.edges.length ≤ 440 := by omega
   have HAR : Hid (wD.ownsRow B 111 3 av (arcsOf t S0).length ((arcsOf t S0).flatMap encC)) := by
    have h1 := HX4.out.arcs
    rw [encA_encC] at h1
    unfold Hid arcsOf
    rw [List.length_map]
    exact h1
   have hal : (arcsOf t S0).length ≤ 1000 := by unfold arcsOf; rw [List.length_map]; omega
   obtain ⟨us, hus⟩ : ∃ us, us = (arcsOf t S0).map Arc.lab := ⟨_, rfl⟩
   obtain ⟨Ls, hLs⟩ : ∃ Ls, Ls = (sysOf t S0).labels := ⟨_, rfl⟩
   obtain ⟨Es, hEs⟩ : ∃ Es, Es = (sysOf t S0).edges := ⟨_, rfl⟩
   have hul : us.length = (arcsOf t S0).length := by rw [hus, List.length_map]
   have HLO : Hid (∀ (W : World), Below wD.heap.size wD W → Calls Tryz.prog 98 #[av] W (fun e w9 => ∃ v9, e = .returned v9 ∧ Below wD.heap.size wD w9 ∧ Below W.heap.size W w9 ∧ w9.ownsRow wD.heap.size 9 1 v9 us.length (us.map .string))) := by
    intro W hb
    rw [hus]
    refine (labelsOf_any B av (arcsOf t S0) W ((SliceK.of_owns (enc := encC) encC_len rfl HAR.out).below hb) (by omega)).mono ?_
    rintro e w9 ⟨v9, h1, h2, h3⟩
    exact ⟨v9, h1, hb.trans (h2.mono hb.size), h2, own_lower h3 hb.size⟩
   have HLT : Hid (∀ (v9 : Value) (W : World), Below wD.heap.size wD W → SrcS W v9 us → Calls Tryz.prog 63 #[.int .i64 R, .int .i64 0, v9, av] W (fun e w8 => ∃ la lc ea ec, e = .returned (.agg #[.int .i64 R, .int .i64 0, .slice la Ls.length lc, .slice ea Es.length ec]) ∧ Below wD.heap.size wD w8 ∧ Below W.heap.size W w8
     ∧ w8.ownsRow wD.heap.size 9 1 (.slice la Ls.length lc) Ls.length (Ls.map .string) ∧ w8.ownsRow wD.heap.size 73 3 (.slice ea Es.length ec) Es.length (Es.flatMap encE))) := by
    intro v9 W hb h1
    have h3 := lts_any B R 0 us (arcsOf t S0) v9 av W h1 ((SliceK.of_owns (enc := encC) encC_len rfl HAR.out).below hb) (by rw [hul]; exact hal) hal Ls (by rw [hLs, hus]; rfl) (by rw [hLs]; exact arc_mem HV.out HGD.out) (by rw [hLs]; exact sys_rise HV.out HGD.out HUP.out)
    have hEs2 : (arcsOf t S0).map (edgeIn Ls) = Es := by rw [hEs, hLs]; rfl
    rw [hEs2] at h3
    refine h3.mono ?_
    rintro e w8 ⟨lv8, ev8, h4, h5, h6, h7⟩
    obtain ⟨la, lc, rfl, -, -⟩ := owns_slice h6
    obtain ⟨ea, ec, rfl, -, -⟩ := owns_slice h7
    exact ⟨la, lc, ea, ec, h4, hb.trans (h5.mono hb.size), h5, own_lower h6 hb.size, own_lower h7 hb.size⟩
   have HLs := Lib.hid hLs
   have HEs := Lib.hid hEs
   have hDZ : Below wD.heap.size wD ((wD.alloc (.cells #[.int .i64 0, .int .i64 0, .slice none 0 0, .slice none 0 0] 29)).drew) := ((Below.refl _ _).alloc (Nat.le_refl _) _).drew
   have BZ : Blk ((wD.alloc (.cells #[.int .i64 0, .int .i64 0, .slice none 0 0, .slice none 0 0] 29)).drew) wD.heap.size [.int .i64 0, .int .i64 0, .slice none 0 0, .slice none 0 0] 29 := (Blk.new wD _ _)
   have HDZ := Lib.hid hDZ
   have HBZ := Lib.hid BZ
   have HDD := Lib.hid hD
   clear hfe hus hLs hEs hDZ BZ hD
   go_wp2
   go_region_held3 (fun w' => w'.cell? ⟨pb, 0, none⟩ = some (.pointer (some ⟨xb, 0, none⟩)) ∧ w'.cell? ⟨xb, 0, none⟩ = some (.slice sa R cs) ∧ w'.cell? ⟨xb, 2, none⟩ = some av)
    (first
     | (refine ⟨?_, ?_, ?_⟩ <;> with_reducible assumption)
     | (refine ⟨?_, ?_, ?_⟩ <;> (rw [World.cell?_setCell_far _ _ _ _ (by first | exact fun e => np e.symm | exact fun e => nx e.symm), World.cell?_setCell_far _ _ _ _ (by first | exact fun e => np e.symm | exact fun e => nx e.symm), World.cell?_setCell_far _ _ _ _ (by first | exact fun e => np e.symm | exact fun e => nx e.symm), World.cell?_setCell_far _ _ _ _ (by first | exact fun e => np e.symm | exact fun e => nx e.symm)]; with_reducible assumption))
     | go_keep)
    (first
     | (go_at_call 98; refine Calls.mono (HLO.out _ (by first | with_reducible exact HDD.out | with_reducible exact HDZ.out)) ?_; rintro e w9 ⟨v9, rfl, hw9, hb9, ho9⟩; have k0 := keeps hw9 hpl p0; have k1 := keeps hw9 hxl x0; have k2 := keeps hw9 hxl x2; (try (have QZ : Hid (Blk w9 wD.heap.size [.int .i64 0, .int .i64 0, .slice none 0 0, .slice none 0 0] 29) := Lib.hid (by with_reducible exact HBZ.out.below hb9))); have HSL := Lib.hid (SrcS.of_own ho9))
     | (go_at_call 63; refine Calls.mono (HLT.out v9 _ (by first | with_reducible exact hw9 | with_reducible exact hw9.alloc hw9.size _) (by first | with_reducible exact HSL.out | with_reducible exact HSL.out.below (box_below9 _ _ _))) ?_; rintro e w8 ⟨la, lc, ea, ec, rfl, hw8, hb8, ho8, he8⟩; have k4 := keeps hw8 hpl p0; have k5 := keeps hw8 hxl x0; have k6 := keeps hw8 hxl x2; ((try (have QY : Blk w8 wD.heap.size [.int .i64 0, .int .i64 0, .slice none 0 0, .slice none 0 0] 29 := by with_reducible exact QZ.out.below hb8)); (try (have q0 := QY.cell 0 rfl; have q1 := QY.cell 1 rfl; have q2 := QY.cell 2 rfl; have q3 := QY.cell 3 rfl; have f0 := QY.frozen 0; have f1 := QY.frozen 1; have f2 := QY.frozen 2; have f3 := QY.frozen 3; have hq := QY.lt; have np : pb ≠ wD.heap.size := (by omega); have nx : xb ≠ wD.heap.size := (by omega)))); ((have HN9 := blk_new9 w9); (try (have QX : Blk w8 w9.heap.size [.int .i64 0, .int .i64 0, .slice none 0 0, .slice none 0 0] 29 := by with_reducible exact HN9.below hb8)); (try (have q0 := QX.cell 0 rfl; have q1 := QX.cell 1 rfl; have q2 := QX.cell 2 rfl; have q3 := QX.cell 3 rfl; have f0 := QX.frozen 0; have f1 := QX.frozen 1; have f2 := QX.frozen 2; have f3 := QX.frozen 3; have hq := QX.lt; have np : pb ≠ w9.heap.size := (by have := hw9.size; omega); have nx : xb ≠ w9.heap.size := (by have := hw9.size; omega))))))
   all_goals (
    first
     | (
      have h1 := four_sets (v0 := .int .i64 R) (v1 := .int .i64 0) (v2 := .slice la Ls.length lc) (v3 := .slice ea Es.length ec) QX hw8 hw9.size
      have hle := h1.2.2 ho8 (by decide)
      have hee := h1.2.2 he8 (by decide)
      have hwe := h1.1
      have hbe := h1.2.1
      have hlo : wD.heap.size ≤ w9.heap.size := hw9.size
      obtain ⟨WE, hWE⟩ : ∃ WE, WE = (((w8.setCell ⟨w9.heap.size, 0, none⟩ (.int .i64 R)).setCell ⟨w9.heap.size, 1, none⟩ (.int .i64 0)).setCell ⟨w9.heap.size, 2, none⟩ (.slice la Ls.length lc)).setCell ⟨w9.heap.size, 3, none⟩ (.slice ea Es.length ec) := ⟨_, rfl⟩
      rw [← hWE] at hle hee hwe hbe ⊢
      obtain ⟨b12, hb12⟩ : ∃ b12, b12 = w9.heap.size := ⟨_, rfl⟩
      rw [← hb12] at hbe hlo ⊢
      clear hWE hb12 h1)
     | (
      have h1 := four_sets (v0 := .int .i64 R) (v1 := .int .i64 0) (v2 := .slice la Ls.length lc) (v3 := .slice ea Es.length ec) QY hw8 (Nat.le_refl _)
      have hle := h1.2.2 ho8 (by decide)
      have hee := h1.2.2 he8 (by decide)
      have hwe := h1.1
      have hbe := h1.2.1
      obtain ⟨WE, hWE⟩ : ∃ WE, WE = (((w8.setCell ⟨wD.heap.size, 0, none⟩ (.int .i64 R)).setCell ⟨wD.heap.size, 1, none⟩ (.int .i64 0)).setCell ⟨wD.heap.size, 2, none⟩ (.slice la Ls.length lc)).setCell ⟨wD.heap.size, 3, none⟩ (.slice ea Es.length ec) := ⟨_, rfl⟩
      rw [← hWE] at hle hee hwe hbe ⊢
      obtain ⟨b12, hb12⟩ : ∃ b12, b12 = wD.heap.size := ⟨_, rfl⟩
      have hlo : wD.heap.size ≤ b12 := Nat.le_of_eq hb12.symm
      rw [← hb12] at hbe ⊢
      clear hWE hb12 h1)
     | (
      have hle : (w8.alloc (.cells #[.int .i64 R, .int .i64 0, .slice la Ls.length lc, .slice ea Es.length ec] 29)).ownsRow wD.heap.size 9 1 (.slice la Ls.length lc) Ls.length (Ls.map .string) := ho8.alloc _
      have hee : (w8.alloc (.cells #[.int .i64 R, .int .i64 0, .slice la Ls.length lc, .slice ea Es.length ec] 29)).ownsRow wD.heap.size 73 3 (.slice ea Es.length ec) Es.length (Es.flatMap encE) := he8.alloc _
      have hwe : Below wD.heap.size wD (w8.alloc (.cells #[.int .i64 R, .int .i64 0, .slice la Ls.length lc, .slice ea Es.length ec] 29)) := hw8.alloc hw8.size _
      have hbe : Blk (w8.alloc (.cells #[.int .i64 R, .int .i64 0, .slice la Ls.length lc, .slice ea Es.length ec] 29)) w8.heap.size [.int .i64 R, .int .i64 0, .slice la Ls.length lc, .slice ea Es.length ec] 29 := Blk.new w8 _ _
      have hlo : wD.heap.size ≤ w8.heap.size := hw8.size
      obtain ⟨WE, hWE⟩ : ∃ WE, WE = w8.alloc (.cells #[.int .i64 R, .int .i64 0, .slice la Ls.length lc, .slice ea Es.length ec] 29) := ⟨_, rfl⟩
      rw [← hWE] at hle hee hwe hbe ⊢
      obtain ⟨b12, hb12⟩ : ∃ b12, b12 = w8.heap.size := ⟨_, rfl⟩
      rw [← hb12] at hbe hlo ⊢
      clear hWE hb12)
    have HLE := Lib.hid hle
    have HEE2 := Lib.hid hee
    have HWE := Lib.hid hwe
    have HBE := Lib.hid hbe
    clear hle hee hwe hbe
    have hWd : Below WE.heap.size WE WE.drew := (Below.refl _ _).drew
    have hDW : Below wD.heap.size wD WE.drew := HWE.out.trans (hWd.mono HWE.out.size)
    have hgl : Glob WE.drew := HG.out.below (by have h9 := HB4.out.trans (hDW.mono hszD); rw [HB.out] at h9; exact h9)
    obtain ⟨bv, hbv, HVL⟩ : ∃ bv : Bool, (bv = true ↔ DSmall S0) ∧ Hid (Calls Tryz.prog 24 #[.agg #[.int .i64 R, .int .i64 0, .slice la Ls.length lc, .slice ea Es.length ec]] WE.drew fun e w' => e = .returned (.bool bv) ∧ Below WE.drew.heap.size WE.drew w') := by
     have h1 := ValidLts_any wD.heap.size (sysOf t S0) (.slice la Ls.length lc) (.slice ea Es.length ec) WE.drew (sys_short HV.out HGD.out HSH.out)
      (by have h9 := (SliceK.of_owns (enc := encS) encS_len rfl (by rw [flat_encS]; exact HLE.out)).below hWd; rw [HLs.out] at h9 ⊢; exact h9)
      (by have h9 := (SliceK.of_owns (enc := encE) encE_len rfl HEE2.out).below hWd; rw [HEs.out] at h9 ⊢; exact h9) hgl
     have h2 : (sysOf t S0).states = (R : Int) := by rw [HR.out]; rfl
     have h3 : (sysOf t S0).initial = 0 := rfl
     rw [h2, h3] at h1
     have h4 := sys_valid HV.out HGD.out HUP.out
     by_cases hs : DSmall S0
     ·exact ⟨true, by simp [hs], Decides.yes h1 (h4.2 hs)⟩
     ·exact ⟨false, by simp [hs], Decides.no h1 (fun h => hs (h4.1 h))⟩
    have HBV := Lib.hid hbv
    have hlb := HBE.out.lt
    have hpW : pb < WE.heap.size := by have := HWE.out.size; omega
    have hxW : xb < WE.heap.size := by have := HWE.out.size; omega
    have b0 := keeps hWd hlb (HBE.out.cell 0 rfl)
    have b1 := keeps hWd hlb (HBE.out.cell 1 rfl)
    have b2 := keeps hWd hlb (HBE.out.cell 2 rfl)
    have b3 := keeps hWd hlb (HBE.out.cell 3 rfl)
    have b4 := keeps hDW hpl p0
    have b5 := keeps hDW hxl x0
    have hrl := HX4.out.res.lt
    have hnb : b12 ≠ rb := by omega
    have hnp : pb ≠ rb := blk_blk_ne HX4.out.ptr HX4.out.res (by decide)
    have hnx : xb ≠ rb := blk_blk_ne HX4.out.box HX4.out.res (by decide)
    have HDWW := Lib.hid hDW
    clear hbv hWd hDW hgl k0 k1 k2 k4 k5 k6
    go_wp2
    go_region_held3 (fun w' => w'.cell? ⟨b12, 0, none⟩ = some (.int .i64 R) ∧ w'.cell? ⟨b12, 1, none⟩ = some (.int .i64 0) ∧ w'.cell? ⟨b12, 2, none⟩ = some (.slice la Ls.length lc) ∧ w'.cell? ⟨b12, 3, none⟩ = some (.slice ea Es.length ec) ∧ w'.cell? ⟨pb, 0, none⟩ = some (.pointer (some ⟨xb, 0, none⟩)) ∧ w'.cell? ⟨xb, 0, none⟩ = some (.slice sa R cs))
     (first
      | (refine ⟨?_, ?_, ?_, ?_, ?_, ?_⟩ <;> with_reducible assumption)
      | (refine ⟨?_, ?_, ?_, ?_, ?_, ?_⟩ <;> (rw [World.cell?_setCell_far _ _ _ _ (by first | exact fun e => hnb e.symm | exact fun e => hnp e.symm | exact fun e => hnx e.symm), World.cell?_setCell_far _ _ _ _ (by first | exact fun e => hnb e.symm | exact fun e => hnp e.symm | exact fun e => hnx e.symm), World.cell?_setCell_far _ _ _ _ (by first | exact fun e => hnb e.symm | exact fun e => hnp e.symm | exact fun e => hnx e.symm), World.cell?_setCell_far _ _ _ _ (by first | exact fun e => hnb e.symm | exact fun e => hnp e.symm | exact fun e => hnx e.symm)]; with_reducible assumption))
      | go_keep)
     (first
      | (go_at_call 24; refine Calls.mono HVL.out ?_; rintro e wV ⟨rfl, hbV⟩; have c0 := keeps hbV (by simp; omega) b0; have c1 := keeps hbV (by simp; omega) b1; have c2 := keeps hbV (by simp; omega) b2; have c3 := keeps hbV (by simp; omega) b3; have c4 := keeps hbV (by simp; omega) b4; have c5 := keeps hbV (by simp; omega) b5; have HDV := Lib.hid (HDWW.out.trans (hbV.mono HDWW.out.size)); have HRV := Lib.hid (HX4.out.res.below HDV.out); have r0 := HRV.out.cell 0 rfl; have r1 := HRV.out.cell 1 rfl; have r2 := HRV.out.cell 2 rfl; have r3 := HRV.out.cell 3 rfl; have s0 := HRV.out.frozen 0; have s1 := HRV.out.frozen 1; have s2 := HRV.out.frozen 2; have s3 := HRV.out.frozen 3; have HBVV := Lib.hid hbV))
    all_goals (
     have hBV := HB4.out.trans (HDV.out.mono hszD)
     have hrB := HX4.out.rbase
     have hLV := own_lower (owns_below (owns_below HLE.out (Below.drew (Below.refl _ _))) HBVV.out) hszD
     have hEV := own_lower (owns_below (owns_below HEE2.out (Below.drew (Below.refl _ _))) HBVV.out) hszD
     have hIV := HX4.out.rows.below HDV.out
     have HA1 := Lib.hid hBV
     have HA2 := Lib.hid hLV
     have HA3 := Lib.hid hEV
     have HA4 := Lib.hid hIV
     clear hBV hLV hEV hIV
     go_wp2
     refine bodyPost_ret (expl_results rfl ((((HRV.out.set 0 _).set 1 _).set 2 _).set 3 _)) rfl ?_
     refine ⟨(((HA1.out.setCell hrB _).setCell hrB _).setCell hrB _).setCell hrB _, ?_⟩
     cases bv
     ·exact .inl ⟨found_full HFD.out HGD.out.some (fun h => by have := HBV.out.2 h; cases this), _, _, _, _, _, _, _, _, _, rfl⟩
     ·refine .inr ⟨S0, .slice la Ls.length lc, .slice ea Es.length ec, _, ⟨HFD.out, HBV.out.1 rfl⟩, HGD.out, HUP.out, by rw [← HR.out]; rfl, ?_, ?_, vs, ?_⟩
      ·rw [← HLs.out]; exact own4 HRV.out HA2.out (by decide)
      ·rw [← HEs.out]; exact own4 HRV.out HA3.out (by decide)
      ·exact (((HA4.out.set1 HRV.out (by decide) (by decide) 0 _).set1 (HRV.out.set 0 _) (by decide) (by decide) 1 _).set1 ((HRV.out.set 0 _).set 1 _) (by decide) (by decide) 2 _).set1 (((HRV.out.set 0 _).set 1 _).set 2 _) (by decide) (by decide) 3 _))

end Go.Proofs.YtaabkeejbhdenaaGreatDoor

namespace Go.Proofs.YtaabkeejbhdenaaGreatDoor
open Go Go.RowKit

theorem deter_results {w : World} {b : Nat} {v0 v1 v2 v3 : Value} {tmps : Array Value} (hc : tmps.getD 2 undef = .pointer (some ⟨b, 0, none⟩)) (hb : Blk w b [v0, v1, v2, v3] 29) :
  (results Tryz.f25 tmps).run Tryz.prog w = .ok (.tuple #[.agg #[v0, v1, v2, v3], tmps.getD 3 undef, tmps.getD 4 undef]) w := by
 have h0 := hb.cell 0 rfl
 have h1 := hb.cell 1 rfl
 have h2 := hb.cell 2 rfl
 have h3 := hb.cell 3 rfl
 simp only [Array.getD_eq_getD_getElem?] at hc
 simp [results, Tryz.results25, go_sem, hc, h0, h1, h2, h3, Result.andThen]

/-- lts over the labels of the system gives the net's edges back. -/
theorem lts_back {lo2 : Nat} {t : Lts} {st : DNet} {lv av : Value} {w : World} (hv : Valid t) (hG : DGood t st) (hu : Up st.edges) (hs : DSmall st) (hl : SrcS w lv t.labels) (ha : SliceK 3 encC lo2 w av (arcsOf t st)) :
  Calls Tryz.prog 63 #[.int .i64 st.rows.length, .int .i64 0, lv, av] w (RetLts st.rows.length 0 t.labels st.edges w) := by
 have h := lts_any lo2 st.rows.length 0 t.labels (arcsOf t st) lv av w hl ha (by have := hv.labels.most; omega) (by unfold arcsOf; rw [List.length_map]; have := hs.2; omega) t.labels (all_used hv.labels)
  (fun a ha => used_mem hG _ (List.mem_map.2 ⟨a, ha, rfl⟩)) (by rw [edge_back hv hG]; exact rise_up hu)
 rw [edge_back hv hG] at h
 exact h

set_option maxRecDepth 100000 in
set_option maxHeartbeats 4000000 in
theorem determinize_any (lo : Nat) (t : Lts) (lv ev : Value) (w : World) (hv : Valid t) (hsh : Short20 t.labels) (hl : SliceK 1 encS lo w lv t.labels) (he : SliceK 3 encE lo w ev t.edges) (g : Glob w) :
  Calls Tryz.prog 25 #[.agg #[.int .i64 t.states, .int .i64 t.initial, lv, ev]] w (RetSets t w) := by
 have HV := Lib.hid hv
 have HSH := Lib.hid hsh
 obtain ⟨tb, htb⟩ : ∃ tb, tb = w.heap.size := ⟨_, rfl⟩
 obtain ⟨wA, hwA⟩ : ∃ wA, wA = (w.alloc (.cells #[.int .i64 t.states, .int .i64 t.initial, lv, ev] 29)).alloc (.cells #[.int .i64 0, .int .i64 0, .slice none 0 0, .slice none 0 0] 29) := ⟨_, rfl⟩
 have hbA : Below w.heap.size w wA := by rw [hwA]; exact ((Below.refl _ _).alloc (Nat.le_refl _) _).alloc (by simp) _
 have hsA : wA.heap.size = tb + 1 + 1 := by rw [hwA, htb]; simp
 have hT : Blk wA tb [.int .i64 t.states, .int .i64 t.initial, lv, ev] 29 := by rw [hwA, htb]; exact (Blk.new w _ _).alloc _
 have hR : Blk wA (tb + 1) [.int .i64 0, .int .i64 0, .slice none 0 0, .slice none 0 0] 29 := by
  have := Blk.new (w.alloc (.cells #[.int .i64 t.states, .int .i64 t.initial, lv, ev] 29)) [.int .i64 0, .int .i64 0, .slice none 0 0, .slice none 0 0] 29
  rw [World.size_alloc, ← htb] at this
  rw [hwA]
  exact this
 obtain ⟨w1, hw1⟩ : ∃ w1, w1 = wA.alloc (.cells #[.int .i64 t.initial] 2) := ⟨_, rfl⟩
 have hb1 : Below wA.heap.size wA w1 := by rw [hw1]; exact (Below.refl _ _).alloc (Nat.le_refl _) _
 have hS : SliceK 1 encI 0 w1 (.slice (some ⟨tb + 1 + 1, 0, none⟩) 1 1) [t.initial] := by
  have := World.ownsRow_lit (base := 0) (e := 2) (size := 1) wA #[.int .i64 t.initial] 1 (Nat.zero_le _) (by decide) (by simp)
  rw [hsA] at this
  rw [hw1]
  exact SliceK.of_owns (e := 2) encI_len rfl (by rw [flat_encI]; simpa using this)
 have hIN := internal_any lo 0 t lv ev _ [t.initial] w1 hv ((hl.below hbA).below hb1) ((he.below hbA).below hb1) hS (fun x hx => by rw [List.mem_singleton] at hx; subst hx; exact ⟨hv.in0, hv.in1⟩) (by simp)
 rw [firstS_eq] at hIN
 have HIN := Lib.hid hIN
 have HL := Lib.hid (hl.below hbA)
 have HE := Lib.hid (he.below hbA)
 have HG := Lib.hid (g.below hbA)
 have HBA := Lib.hid hbA
 have HB1 := Lib.hid hb1
 have HT := Lib.hid hT
 have HR := Lib.hid hR
 have HWA := Lib.hid hwA
 have HW1 := Lib.hid hw1
 have HSA := Lib.hid hsA
 have HTB := Lib.hid htb
 have hsW : w.heap.size ≤ wA.heap.size := hbA.size
 clear hv hsh hl he g hwA hbA hsA hT hR hw1 hb1 hS hIN htb
 go_enter Tryz.func25, Tryz.ntmps25
 go_wp2_with fail
 rw [← HWA.out, ← HW1.out, ← HTB.out]
 refine Calls.mono HIN.out ?_
 rintro e2 w2 ⟨fv, rfl, hb2, ho2⟩
 have HB2 := Lib.hid (HB1.out.trans (hb2.mono HB1.out.size))
 have HO2 := Lib.hid (own_lower ho2 HB1.out.size)
 obtain ⟨fa, fc, rfl, -, -⟩ := owns_slice ho2
 have HEX := Lib.hid (explored_any wA.heap.size tb lo t lv ev _ wA w2 HV.out rfl HB2.out HO2.out HL.out HE.out HT.out HG.out HSH.out)
 clear hb2 ho2 HIN
 go_wp2_with fail
 refine Calls.mono HEX.out ?_
 rintro e3 w3 ⟨hb3, ⟨hfull, a, b, a1, n1, c1, a2, n2, c2, v, rfl⟩ | ⟨st, lvS, evS, sv, hok, hG, hu, rfl, hol, hoe, vs, hiv⟩⟩
 ·have HF := Lib.hid hfull
  have HB3 := Lib.hid hb3
  have HR3 := Lib.hid (HR.out.belowB hb3 (by rw [HSA.out]; omega))
  obtain ⟨W3, hW3⟩ : ∃ W3, W3 = w3.alloc (.cells #[.int .i64 a, .int .i64 b, .slice a1 n1 c1, .slice a2 n2 c2] 29) := ⟨_, rfl⟩
  have HR4 : Hid (Blk W3 (tb + 1) [.int .i64 0, .int .i64 0, .slice none 0 0, .slice none 0 0] 29) := by unfold Hid; rw [hW3]; exact HR3.out.alloc _
  have HB4 : Hid (Below wA.heap.size wA W3) := by unfold Hid; rw [hW3]; exact hb3.alloc hb3.size _
  have HW3 := Lib.hid hW3
  have r0 := HR4.out.cell 0 rfl
  have r1 := HR4.out.cell 1 rfl
  have r2 := HR4.out.cell 2 rfl
  have r3 := HR4.out.cell 3 rfl
  have s0 := HR4.out.frozen 0
  have s1 := HR4.out.frozen 1
  have s2 := HR4.out.frozen 2
  have s3 := HR4.out.frozen 3
  rw [hW3] at r0 r1 r2 r3 s0 s1 s2 s3
  clear hfull hb3 HEX hW3
  go_wp2
  rw [← HW3.out]
  refine bodyPost_ret (deter_results rfl ((((HR4.out.set 0 _).set 1 _).set 2 _).set 3 _)) rfl ?_
  have hle : w.heap.size ≤ tb + 1 := by rw [HTB.out]; omega
  exact ⟨((((HBA.out.trans (HB4.out.mono hsW)).setCell hle _).setCell hle _).setCell hle _).setCell hle _, .inl ⟨HF.out, rfl⟩⟩
 ·have HOK := Lib.hid hok
  have HGD := Lib.hid hG
  have HU := Lib.hid hu
  have hs := hok.2
  have HSM := Lib.hid hs
  have HB3 := Lib.hid hb3
  have HR3 := Lib.hid (HR.out.belowB hb3 (by rw [HSA.out]; omega))
  have HT3 := Lib.hid (HT.out.belowB hb3 (by rw [HSA.out]; omega))
  obtain ⟨la, lc, rfl, -, -⟩ := owns_slice hol
  obtain ⟨ea, ec, rfl, -, -⟩ := owns_slice hoe
  obtain ⟨sa, sc, rfl, -, -⟩ := owns_slice hiv.2.1
  obtain ⟨R, hRR⟩ : ∃ R, R = st.rows.length := ⟨_, rfl⟩
  obtain ⟨LS, hLS⟩ : ∃ LS, LS = (sysOf t st).labels.length := ⟨_, rfl⟩
  obtain ⟨ES, hES⟩ : ∃ ES, ES = (sysOf t st).edges.length := ⟨_, rfl⟩
  have SKL : SliceK 1 encS wA.heap.size w3 (.slice la (sysOf t st).labels.length lc) (sysOf t st).labels := SliceK.of_owns (enc := encS) (e := 9) encS_len rfl (by rw [flat_encS]; exact hol)
  have SKE : SliceK 3 encE wA.heap.size w3 (.slice ea (sysOf t st).edges.length ec) (sysOf t st).edges := SliceK.of_owns (enc := encE) (e := 73) encE_len rfl hoe
  rw [← hLS] at SKL
  rw [← hES] at SKE
  rw [← hRR, ← hLS, ← hES]
  obtain ⟨W3, hW3⟩ : ∃ W3, W3 = w3.alloc (.cells #[.int .i64 R, .int .i64 0, .slice la LS lc, .slice ea ES ec] 29) := ⟨_, rfl⟩
  have hb4 : Below w3.heap.size w3 W3.drew := by rw [hW3]; exact ((Below.refl _ _).alloc (Nat.le_refl _) _).drew
  obtain ⟨b5, hb5⟩ : ∃ b5, b5 = w3.heap.size := ⟨_, rfl⟩
  have hX : Blk W3.drew b5 [.int .i64 R, .int .i64 0, .slice la LS lc, .slice ea ES ec] 29 := by rw [hW3, hb5]; exact Blk.new w3 _ _
  have HX := Lib.hid hX
  have HT4 := Lib.hid (HT3.out.below hb4)
  have HR4 := Lib.hid (HR3.out.below hb4)
  have HIV4 := Lib.hid (hiv.below hb4)
  have HB4 := Lib.hid (HB3.out.trans (hb4.mono HB3.out.size))
  have hAR := arcs_any wA.heap.size (sysOf t st) (.slice la LS lc) (.slice ea ES ec) W3.drew (sys_edge HV.out hG) (by have := hs.2; simp [sysOf, arcsOf]; omega)
   (SKL.below hb4) (SKE.below hb4)
  rw [sys_arcs HV.out hG, show (sysOf t st).states = (R : Int) from by rw [hRR]; rfl, show (sysOf t st).initial = 0 from rfl] at hAR
  have HAR := Lib.hid hAR
  have hsB : wA.heap.size ≤ W3.drew.heap.size := HB4.out.size
  have hbA4 : Below wA.heap.size wA W3.drew := HB4.out
  have HSL := Lib.hid (SrcS.of_slice (HL.out.below hbA4) HV.out.labels.pos)
  have HLB : Hid (∀ w' av, SrcS w' lv t.labels → SliceK 3 encC W3.drew.heap.size w' av (arcsOf t st) → Calls Tryz.prog 63 #[.int .i64 R, .int .i64 0, lv, av] w' (RetLts R 0 t.labels st.edges w')) := fun w' av h1 h2 => by
   have := lts_back HV.out HGD.out HU.out HSM.out h1 h2
   rw [← hRR] at this
   exact this
  have hx0 := hX.cell 0 rfl
  have hx1 := hX.cell 1 rfl
  have hx2 := hX.cell 2 rfl
  have hx3 := hX.cell 3 rfl
  have ht2 := HT4.out.cell 2 rfl
  have hy0 : W3.cell? ⟨b5, 0, none⟩ = some (.int .i64 R) := hx0
  have hy1 : W3.cell? ⟨b5, 1, none⟩ = some (.int .i64 0) := hx1
  have hy2 : W3.cell? ⟨b5, 2, none⟩ = some (.slice la LS lc) := hx2
  have hy3 : W3.cell? ⟨b5, 3, none⟩ = some (.slice ea ES ec) := hx3
  have ht2' : W3.cell? ⟨tb, 2, none⟩ = some lv := ht2
  have hxl := hX.lt
  have htl := HT4.out.lt
  have hrl := HR4.out.lt
  have hnb : b5 ≠ tb + 1 := by have := HB3.out.size; rw [HSA.out] at this; omega
  have hnt : tb ≠ tb + 1 := by omega
  have HW3 := Lib.hid hW3
  have HB5 := Lib.hid hb5
  have HRR := Lib.hid hRR
  clear hok hG hu hs hb3 hol hoe hiv hLS hES hW3 hb4 hX hAR HEX hb5 hRR hbA4 SKL SKE
  go_wp2_with fail
  rw [← HW3.out, ← HB5.out]
  go_region_held3 (fun w' => w'.cell? ⟨b5, 0, none⟩ = some (.int .i64 R) ∧ w'.cell? ⟨b5, 1, none⟩ = some (.int .i64 0) ∧ w'.cell? ⟨b5, 2, none⟩ = some (.slice la LS lc) ∧ w'.cell? ⟨b5, 3, none⟩ = some (.slice ea ES ec) ∧ w'.cell? ⟨tb, 2, none⟩ = some lv)
   (first
    | (refine ⟨?_, ?_, ?_, ?_, ?_⟩ <;> with_reducible assumption)
    | (refine ⟨?_, ?_, ?_, ?_, ?_⟩ <;> (rw [World.cell?_setCell_far _ _ _ _ (by first | exact fun e => hnb e.symm | exact fun e => hnt e.symm), World.cell?_setCell_far _ _ _ _ (by first | exact fun e => hnb e.symm | exact fun e => hnt e.symm), World.cell?_setCell_far _ _ _ _ (by first | exact fun e => hnb e.symm | exact fun e => hnt e.symm), World.cell?_setCell_far _ _ _ _ (by first | exact fun e => hnb e.symm | exact fun e => hnt e.symm)]; with_reducible assumption))
    | go_keep)
   (first
    | (go_at_call 64; refine Calls.mono HAR.out ?_; rintro e wV ⟨av, rfl, hbV, hoV⟩; have c0 := keeps hbV hxl hx0; have c1 := keeps hbV hxl hx1; have c2 := keeps hbV hxl hx2; have c3 := keeps hbV hxl hx3; have c4 := keeps hbV htl ht2; have HBV := Lib.hid hbV; have HOV := Lib.hid hoV)
    | (go_at_call 63; refine Calls.mono (HLB.out _ _ (HSL.out.below HBV.out) (SliceK.of_owns (enc := encC) encC_len rfl HOV.out)) ?_; rintro e wL ⟨lv2, ev2, he2, hbL, hlL, heL⟩; obtain ⟨la2, lc2, rfl, -, -⟩ := owns_slice hlL; obtain ⟨ea2, ec2, rfl, -, -⟩ := owns_slice heL; subst he2; have hbL2 := HBV.out.trans (hbL.mono HBV.out.size); have d0 := keeps hbL2 hxl hx0; have d1 := keeps hbL2 hxl hx1; have d2 := keeps hbL2 hxl hx2; have d3 := keeps hbL2 hxl hx3; have d4 := keeps hbL2 htl ht2; have HBL := Lib.hid hbL2; have HRL := Lib.hid (HR4.out.below hbL2); have r0 := HRL.out.cell 0 rfl; have r1 := HRL.out.cell 1 rfl; have r2 := HRL.out.cell 2 rfl; have r3 := HRL.out.cell 3 rfl; have s0 := HRL.out.frozen 0; have s1 := HRL.out.frozen 1; have s2 := HRL.out.frozen 2; have s3 := HRL.out.frozen 3; have HSV := Lib.hid HBV.out.size; have HLL := Lib.hid hlL; have HEL := Lib.hid heL))
  all_goals (
   have hle : w.heap.size ≤ tb + 1 := by rw [HTB.out]; omega
   have hle3 : w.heap.size ≤ wV.heap.size := Nat.le_trans hsW (Nat.le_trans hsB HSV.out)
   have hall := HBA.out.trans ((HB4.out.trans (HBL.out.mono hsB)).mono hsW)
   have HALL := Lib.hid hall
   have HIV5 := Lib.hid ((HIV4.out.below HBL.out).lower hsW)
   have HLL2 := Lib.hid (own_lower HLL.out hle3)
   have HEL2 := Lib.hid (own_lower HEL.out hle3)
   clear hall hle3 HLL HEL
   go_wp2
   refine bodyPost_ret (deter_results rfl ((((HRL.out.set 0 _).set 1 _).set 2 _).set 3 _)) rfl ?_
   refine ⟨(((HALL.out.setCell hle _).setCell hle _).setCell hle _).setCell hle _, .inr ⟨st, _, _, _, HOK.out, by rw [← HRR.out]; rfl, ⟨⟨vs, ?_⟩, ?_⟩, ?_⟩⟩
   ·have := (((HIV5.out.set1 HRL.out (by decide) (by decide) 0 (.int .i64 R)).set1 (HRL.out.set 0 _) (by decide) (by decide) 1 (.int .i64 0)).set1 ((HRL.out.set 0 _).set 1 _) (by decide) (by decide) 2 (.slice la2 t.labels.length lc2)).set1 (((HRL.out.set 0 _).set 1 _).set 2 _) (by decide) (by decide) 3 (.slice ea2 st.edges.length ec2)
    exact this
   ·exact own4 HRL.out HEL2.out (by decide)
   ·exact own4 HRL.out HLL2.out (by decide))

end Go.Proofs.YtaabkeejbhdenaaGreatDoor

namespace Go.Proofs.YtaabkeejbhdenaaGreatDoor
open Go Go.RowKit

theorem Valid_yes {lo : Nat} {t : Lts} {lv ev : Value} {w : World} (hv : Valid t) (hsh : Short20 t.labels) (hl : SliceK 1 encS lo w lv t.labels) (he : SliceK 3 encE lo w ev t.edges) (g : Glob w) :
  Calls Tryz.prog 24 #[.agg #[.int .i64 t.states, .int .i64 t.initial, lv, ev]] w fun e w' => e = .returned (.bool true) ∧ Below w.heap.size w w' :=
 Decides.yes (ValidLts_any lo t lv ev w hsh hl he g) hv
theorem Valid_no {lo : Nat} {t : Lts} {lv ev : Value} {w : World} (hv : ¬ Valid t) (hsh : Short20 t.labels) (hl : SliceK 1 encS lo w lv t.labels) (he : SliceK 3 encE lo w ev t.edges) (g : Glob w) :
  Calls Tryz.prog 24 #[.agg #[.int .i64 t.states, .int .i64 t.initial, lv, ev]] w fun e w' => e = .returned (.bool false) ∧ Below w.heap.size w w' :=
 Decides.no (ValidLts_any lo t lv ev w hsh hl he g) hv

theorem box_below (w : World) (a : Array Value) (T : TypeId) : Below w.heap.size w (w.alloc (.cells a T)) := (Below.refl _ _).alloc (Nat.le_refl _) _

end Go.Proofs.YtaabkeejbhdenaaGreatDoor

namespace Go.Proofs.YtaabkeejbhdenaaGreatDoor
open Go Go.RowKit

def szS (ss : List ByteArray) (left : Int) : Int :=
 match ss with
 | [] => left
 | s :: r => if left - s.size < 0 then -1 else szS r (left - s.size)

theorem szS_lt (ss : List ByteArray) (left : Int) (h : 0 ≤ left) : -1 ≤ szS ss left ∧ szS ss left ≤ left := by
 induction ss generalizing left with
 | nil => simp [szS]; omega
 | cons s r ih =>
  unfold szS
  split
  ·omega
  ·have := ih (left - s.size) (by omega); omega

/-- What szStringS returns. -/
def szSS (ss : List ByteArray) (left : Int) : Int := if left - ss.length < 0 then -1 else szS ss (left - ss.length)
theorem szSS_neg {ss : List ByteArray} {left : Int} (h : left - ss.length < 0) : szSS ss left = -1 := by unfold szSS; rw [if_pos h]
theorem szSS_pos {ss : List ByteArray} {left : Int} (h : ¬ left - ss.length < 0) : szSS ss left = szS ss (left - ss.length) := by unfold szSS; rw [if_neg h]
def szN (n : Nat) (left : Int) : Int := if left - n < 0 then -1 else left - n
theorem szN_neg {n : Nat} {left : Int} (h : left - n < 0) : szN n left = -1 := by unfold szN; rw [if_pos h]
theorem szN_pos {n : Nat} {left : Int} (h : ¬ left - n < 0) : szN n left = left - n := by unfold szN; rw [if_neg h]

set_option maxHeartbeats 400000 in
theorem szStringS_any (v : Value) (lo : Nat) (ss : List ByteArray) (left : Int) (w : World)
   (h1 : 0 ≤ left) (h2 : left ≤ 1048576) (hs : StrsOk ss) (hv : SliceK 1 encS lo w v ss) :
  Calls Tryz.prog 12 #[v, .int .i64 left] w fun e w' => e = .returned (.int .i64 (szSS ss left)) ∧ w = w' := by
 have hS := Lib.hid hs
 clear hs
 obtain ⟨a, cap, rfl, hn, hcap, hr⟩ := hv
 by_cases hl : left - ss.length < 0
 ·go_enter Tryz.func12, Tryz.ntmps12
  go_wp2
  go_ret
  exact ⟨ret_int (szSS_neg hl).symm, rfl⟩
 ·go_enter Tryz.func12, Tryz.ntmps12
  go_wp2
  go_loop [1, 5] (fun t i => ∃ k : Nat, ∃ l : Int, k ≤ ss.length ∧ i = .int .i64 k ∧ t = .int .i64 l ∧ 0 ≤ l ∧ l ≤ 1048576 ∧ szS (ss.drop k) l = szS ss (left - ss.length)) (fun _ i => ss.length - (intOf i).toNat)
  case atStart => exact ⟨0, _, Nat.zero_le _, rfl, rfl, by omega, by omega, rfl⟩
  case round =>
   obtain ⟨k, l, hk, rfl, rfl, hl0, hl1, hs⟩ := hrel
   have hs' := Lib.hid hs
   clear hs
   by_cases hlt : k < ss.length
   ·have hsk := hS.out _ (List.getElem_mem hlt)
    obtain ⟨b, off, rfl, -, -, hck⟩ := hr.one hlt
    simp only [encS, List.getElem?_cons_zero] at hck
    clear hr
    have hd : Hid (szS (ss.drop k) l = if l - (ss[k]).size < 0 then -1 else szS (ss.drop (k+1)) (l - (ss[k]).size)) := by
     unfold Hid; rw [List.drop_eq_getElem_cons hlt, szS]
    by_cases hz : l - (ss[k]).size < 0
    ·go_wp2
     go_ret
     refine ⟨?_, rfl⟩
     exact ret_int (by rw [szSS_pos (by omega), ← hs'.out, hd.out, if_pos (by omega)])
    ·go_wp2
     go_round
     case rel => exact ⟨k+1, _, by omega, by go_num, rfl, by omega, by omega, by rw [← hs'.out, hd.out, if_neg (by omega)]⟩
     case measure => simp [intOf]; omega
   ·clear hr
    go_wp2
    go_ret
    refine ⟨?_, rfl⟩
    have : k = ss.length := by omega
    exact ret_int (by rw [szSS_pos (by omega), ← hs'.out]; simp [this, szS])

theorem szEdgeS_any (a : Option Addr) (cap n : Nat) (left : Int) (w : World) (h1 : 0 ≤ left) (h2 : left ≤ 1048576) (hn : n ≤ cap) (hcap : cap ≤ 9223372036854775807) :
  Calls Tryz.prog 19 #[.slice a n cap, .int .i64 left] w fun e w' => e = .returned (.int .i64 (szN n left)) ∧ w = w' := by
 by_cases hl : left - n < 0
 ·go_enter Tryz.func19, Tryz.ntmps19
  go_wp2
  go_ret
  exact ⟨ret_int (szN_neg hl).symm, rfl⟩
 ·go_enter Tryz.func19, Tryz.ntmps19
  go_wp2
  go_ret
  exact ⟨ret_int (szN_pos (by omega)).symm, rfl⟩

/-- What szLts returns. -/
def szL (t : Lts) (left : Int) : Int :=
 if szSS t.labels left < 0 then -1
 else if szN t.edges.length (szSS t.labels left) < 0 then -1
 else szN t.edges.length (szSS t.labels left)

theorem szSS_le (ss : List ByteArray) (left : Int) (h : 0 ≤ left) : -1 ≤ szSS ss left ∧ szSS ss left ≤ left := by
 unfold szSS
 split
 ·omega
 ·have := szS_lt ss (left - ss.length) (by omega); omega

set_option maxHeartbeats 400000 in
theorem szLts_any (v : Value) (lo : Nat) (t : Lts) (left : Int) (w : World)
   (h1 : 0 ≤ left) (h2 : left ≤ 1048576) (hs : StrsOk t.labels) (hv : LtsAt lo w v t) :
  Calls Tryz.prog 5 #[v, .int .i64 left] w
   fun e w' => e = .returned (.int .i64 (szL t left)) ∧ Below w.heap.size w w' := by
 have hb := szSS_le t.labels left h1
 have hS := Lib.hid hs
 clear hs
 obtain ⟨lv, ev, rfl, hl, ae, ce, rfl, hn, hcap, hr⟩ := hv
 go_enter Tryz.func5, Tryz.ntmps5
 go_wp2_with fail
 refine (szStringS_any _ _ _ _ _ h1 h2 hS.out (hl.below ((Below.refl _ w).alloc (Nat.le_refl _) _))).mono ?_
 clear hl hr
 rintro e w' ⟨rfl, rfl⟩
 have hf : Hid (szL t left = if szSS t.labels left < 0 then -1 else if szN t.edges.length (szSS t.labels left) < 0 then -1 else szN t.edges.length (szSS t.labels left)) := rfl
 generalize szSS t.labels left = q at *
 by_cases hl : q < 0
 ·go_wp2_with fail
  go_ret
  exact ⟨ret_int (by rw [hf.out, if_pos hl]), (Below.refl _ _).alloc (Nat.le_refl _) _⟩
 ·go_wp2_with fail
  refine (szEdgeS_any _ _ _ _ _ (by omega) (by omega) hn hcap).mono ?_
  rintro e w' ⟨rfl, rfl⟩
  generalize szN t.edges.length q = q2 at *
  by_cases hl2 : q2 < 0
  ·go_wp2_with fail
   go_ret
   exact ⟨ret_int (by rw [hf.out, if_neg (by omega), if_pos (by omega)]), (Below.refl _ _).alloc (Nat.le_refl _) _⟩
  ·go_wp2_with fail
   go_ret
   exact ⟨ret_int (by rw [hf.out, if_neg (by omega), if_neg (by omega)]), (Below.refl _ _).alloc (Nat.le_refl _) _⟩

set_option maxHeartbeats 400000 in
theorem eqStringS_same (va vb : Value) (lo lo' : Nat) (xs : List ByteArray) (w : World) (hva : SliceK 1 encS lo w va xs) (hvb : SliceK 1 encS lo' w vb xs) :
  Calls Tryz.prog 16 #[va, vb] w fun e w' => e = .returned (.bool true) ∧ Below w.heap.size w w' := by
 obtain ⟨a, ca, rfl, hna, hca, ha⟩ := hva
 obtain ⟨b, cb, rfl, hnb, hcb, hb⟩ := hvb
 go_enter Tryz.func16, Tryz.ntmps16
 go_wp2
 go_loopw [5] (fun i wr => ∃ k : Nat, k ≤ xs.length ∧ i = .int .i64 k ∧ Below w.heap.size w wr) (fun i _ => xs.length - (intOf i).toNat)
 case atStart => exact ⟨0, Nat.zero_le _, rfl, Below.refl _ _⟩
 case round =>
  obtain ⟨k, hk, rfl, hbl⟩ := hrel
  by_cases hlt : k < xs.length
  ·obtain ⟨b1, o1, rfl, -, h1, c1⟩ := ha.one hlt
   obtain ⟨b2, o2, rfl, -, h2, c2⟩ := hb.one hlt
   simp only [encS, List.getElem?_cons_zero] at c1 c2
   replace c1 := keeps hbl h1 c1
   replace c2 := keeps hbl h2 c2
   clear ha hb
   go_wp2
   go_quiet (fail)
   go_wp2
   go_roundw
   case rel => exact ⟨k + 1, by omega, by go_num, drews hbl _⟩
   case measure => simp [intOf]; omega
  ·clear ha hb
   go_wp2
   go_ret
   exact ⟨rfl, hbl⟩

set_option maxHeartbeats 400000 in
theorem eqEdge_same (x y z : Int) (w : World) :
  Calls Tryz.prog 66 #[.agg #[.int .i64 x, .int .i64 y, .int .i64 z], .agg #[.int .i64 x, .int .i64 y, .int .i64 z]] w fun e w' => e = .returned (.bool true) ∧ Below w.heap.size w w' := by
 go_enter Tryz.func66, Tryz.ntmps66
 go_wp2
 go_ret
 exact ⟨rfl, ((Below.refl _ _).alloc (Nat.le_refl _) _).alloc (by simp) _⟩

set_option maxHeartbeats 400000 in
theorem eqEdgeS_same (va vb : Value) (lo lo' : Nat) (xs : List Edge) (w : World) (hva : SliceK 3 encE lo w va xs) (hvb : SliceK 3 encE lo' w vb xs) :
  Calls Tryz.prog 27 #[va, vb] w fun e w' => e = .returned (.bool true) ∧ Below w.heap.size w w' := by
 obtain ⟨a, ca, rfl, hna, hca, ha⟩ := hva
 obtain ⟨b, cb, rfl, hnb, hcb, hb⟩ := hvb
 go_enter Tryz.func27, Tryz.ntmps27
 go_wp2
 go_loopw [5] (fun i wr => ∃ k : Nat, k ≤ xs.length ∧ i = .int .i64 k ∧ Below w.heap.size w wr) (fun i _ => xs.length - (intOf i).toNat)
 case atStart => exact ⟨0, Nat.zero_le _, rfl, Below.refl _ _⟩
 case round =>
  obtain ⟨k, hk, rfl, hbl⟩ := hrel
  by_cases hlt : k < xs.length
  ·obtain ⟨b1, o1, rfl, -, h1, c1, c2, c3⟩ := (ha.below hbl).edge hlt
   obtain ⟨b2, o2, rfl, -, h2, c4, c5, c6⟩ := (hb.below hbl).edge hlt
   replace c1 := later_cell h1 c1
   replace c2 := later_cell h1 c2
   replace c3 := later_cell h1 c3
   replace c4 := later_cell h2 c4
   replace c5 := later_cell h2 c5
   replace c6 := later_cell h2 c6
   clear ha hb
   go_wp2
   refine wp_region_later (by kernel_rfl) (by kernel_rfl) ?_
   repeat (go_big_quiet_step ((go_at_call 66; exact later_call (eqEdge_same _ _ _ _))))
   refine wpQuiet_nil ?_
   intro _ hw9
   obtain ⟨nl, hw8⟩ := hw9
   subst hw8
   go_wp2
   go_roundw
   case rel => exact ⟨k + 1, by omega, by go_num, hbl.trans (nl.h.mono hbl.size)⟩
   case measure => simp [intOf]; omega
  ·clear ha hb
   go_wp2
   go_ret
   exact ⟨rfl, hbl⟩

set_option maxHeartbeats 400000 in
theorem eqLts_same (va vb : Value) (lo lo' : Nat) (t : Lts) (w : World) (hva : LtsAt lo w va t) (hvb : LtsAt lo' w vb t) :
  Calls Tryz.prog 9 #[va, vb] w fun e w' => e = .returned (.bool true) ∧ Below w.heap.size w w' := by
 obtain ⟨la, ea, rfl, h1, h2⟩ := hva
 obtain ⟨lb, eb, rfl, h3, h4⟩ := hvb
 have hw0 : ∀ o1 o2, Below w.heap.size w ((w.alloc o1).alloc o2) := fun _ _ => ((Below.refl _ _).alloc (Nat.le_refl _) _).alloc (by simp) _
 have H0 := Lib.hid hw0
 have H1 := Lib.hid h1
 have H2 := Lib.hid h2
 have H3 := Lib.hid h3
 have H4 := Lib.hid h4
 clear hw0
 obtain ⟨_, _, rfl, -⟩ := h1
 obtain ⟨_, _, rfl, -⟩ := h2
 obtain ⟨_, _, rfl, -⟩ := h3
 obtain ⟨_, _, rfl, -⟩ := h4
 go_enter Tryz.func9, Tryz.ntmps9
 go_wp2_with fail
 refine (eqStringS_same _ _ _ _ _ _ (SliceK.below H1.out (H0.out _ _)) (SliceK.below H3.out (H0.out _ _))).mono ?_
 rintro e w1 ⟨rfl, hb1⟩
 obtain ⟨hc1, -⟩ := both hb1
 have hz := hb1.size
 simp only [World.size_alloc] at hz
 go_wp2_with fail
 refine (eqEdgeS_same _ _ _ _ _ _ (SliceK.below H2.out ((H0.out _ _).trans (hb1.mono (by simp; omega)))) (SliceK.below H4.out ((H0.out _ _).trans (hb1.mono (by simp; omega))))).mono ?_
 rintro e w2 ⟨rfl, hb2⟩
 go_wp2_with fail
 go_ret
 exact ⟨rfl, (H0.out _ _).trans ((hb1.mono (by simp; omega)).trans (hb2.mono (by omega)))⟩

end Go.Proofs.YtaabkeejbhdenaaGreatDoor
