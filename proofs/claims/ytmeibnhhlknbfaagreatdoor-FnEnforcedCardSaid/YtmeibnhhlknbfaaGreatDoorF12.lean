/-
  A whole slice appended to a row of the call's own.
  A struct of four cells that is written; a slice of edges cloned.
  The reference's l11Own.
-/
import Derived.Test.YtmeibnhhlknbfaaGreatDoorF3
import Derived.Laws.AppendOwn
import Derived.Laws.AppendOwnNone
import Derived.Test.YtmeibnhhlknbfaaGreatDoorF7
import Derived.Test.YtmeibnhhlknbfaaGreatDoorF10
import Derived.Deep.Cut
import Derived.Deep.RegionHeld3
namespace Go.Proofs.YtmeibnhhlknbfaaGreatDoor
open Go Go.RowKit

theorem flat_lenC {α : Type} {k : Nat} {enc : α → List Value} (hk : ∀ x, (enc x).length = k) (xs : List α) : (xs.flatMap enc).length = xs.length * k := by
 induction xs with
 | nil => simp
 | cons x r ih => rw [List.flatMap_cons, List.length_append, hk, ih, List.length_cons, Nat.succ_mul]; omega
theorem flat_at {α : Type} {k : Nat} {enc : α → List Value} (hk : ∀ x, (enc x).length = k) : ∀ (xs : List α) (i : Nat) (h : i < xs.length) (j : Nat), j < k → (xs.flatMap enc)[i * k + j]? = (enc xs[i])[j]?
 | x :: r, 0, _, j, hj => by rw [List.flatMap_cons, Nat.zero_mul, Nat.zero_add, List.getElem?_append_left (by rw [hk]; exact hj)]; rfl
 | x :: r, i + 1, h, j, hj => by
  rw [List.flatMap_cons, List.getElem?_append_right (by rw [hk, Nat.succ_mul]; omega), hk, show (i + 1) * k + j - k = i * k + j from by rw [Nat.succ_mul]; omega]
  exact flat_at hk r i (by simpa using h) j hj
theorem run_append_zero {P : Program} {w : World} (base : Nat) (t ty e : TypeId) (i : TypeInfo) (size : Nat) (ht : P.underlying t = some (.slice e)) (hi : P.info? e = some i)
  (v : Value) (n : Nat) (xs : List Value) (hown : w.ownsRow base e size v n xs) (c : Nat) :
  (Builtin.append_ #[t, t] ty #[v, .slice none 0 c]).run P w = .ok v w := by
 rcases hown.2 with ⟨rfl, rfl⟩ | ⟨g, cap, cur, rfl, _, _, hnc, _⟩
 ·simp [Builtin.append_, run_underlying ht, sizeOf, typeInfo, hi, Builtin.lenOf, Builtin.firstCells]
 ·simp [Builtin.append_, run_underlying ht, sizeOf, typeInfo, hi, Builtin.lenOf, Builtin.firstCells, hnc, storeCells]

theorem append_slice {α : Type} {k : Nat} {enc : α → List Value} (hk : ∀ x, (enc x).length = k) (h1 : ∀ x, ∀ u ∈ enc x, u.oneCell' = true) (h0 : 0 < k)
  {P : Program} {ops : Array Oper} {rest : List Oper} {o : Oper} {a : Act} {w : World} {Q : Exit → Act → World → Prop} (hgd : o.guard = none) (s x : Operand) (t : TypeId)
  (ho : o.op = .call { callee := .builtin .append, args := #[s, x], argTypes := #[t, t] })
  (base : Nat) (e : TypeId) (i : TypeInfo) (z : Value) (bytes : Nat) (ht : P.underlying t = some (.slice e)) (hi : P.info? e = some i) (hz : i.zero = some z)
  (hsize : i.size = k) (hby : i.bytes = bytes) (hzs : z.cells.size = k) (v : Value) (n : Nat) (xs : List Value) (hs : a.eval s = v) (hown : w.ownsRow base e k v n xs)
  (lo : Nat) (ys : List α) (hsrc : SliceK k enc lo w (a.eval x) ys) (h63 : n + ys.length ≤ maxLen) (hbytes : (n + ys.length) * bytes ≤ 140737488355328) (hbase : base ≤ w.heap.size)
  (h : ∀ v' w', w'.ownsRow base e k v' (n + ys.length) (xs ++ ys.flatMap enc) → w.grownBy w' v.ownBlock → wpList P ops Q rest (a.put o.dst v') w') :
  wpList P ops Q (o :: rest) a w := by
 obtain ⟨ad, cap, hx, -, -, hrow⟩ := hsrc
 rcases hrow with hz0 | ⟨b, off, rfl, -, hb, hc⟩
 ·obtain rfl : ys = [] := List.eq_nil_of_length_eq_zero hz0
  cases ad with
  | none =>
   refine wpList_plain hgd fun K hK => ?_
   have hrun := run_append_zero (P := P) (w := w) base t o.type e i k ht hi v n xs hown cap
   unfold Oper.wp
   simp [execOp, ho, resolve, invoke, builtin, hs, hx, hrun, Result.andThen]
   exact hK _ _ (h v w (by simpa using hown) (grown_refl _ _))
  | some ad =>
   exact wpList_append_own w hgd s x t ho base e i z k bytes ht hi hz hsize hby hzs h0 v n xs hs hown ad 0 cap [] hx (by simp) (by simp) (by simp) h63 hbytes hbase (fun v' w' k1 k2 _ => h v' w' (by simpa using k1) k2)
 ·refine wpList_append_own w hgd s x t ho base e i z k bytes ht hi hz hsize hby hzs h0 v n xs hs hown ⟨b, off, none⟩ ys.length cap (ys.flatMap enc) hx (flat_lenC hk ys) ?_ ?_ h63 hbytes hbase (fun v' w' k1 k2 _ => h v' w' k1 k2)
  ·intro j u hu
   have hj : j < ys.length * k := by rw [← flat_lenC hk]; exact (List.getElem?_eq_some_iff.1 hu).1
   have hi' : j / k < ys.length := (Nat.div_lt_iff_lt_mul h0).2 hj
   have hr : j % k < k := Nat.mod_lt _ h0
   have e0 : j / k * k + j % k = j := by rw [Nat.mul_comm]; exact Nat.div_add_mod _ _
   have e1 := flat_at hk ys (j / k) hi' (j % k) hr
   rw [e0, hu] at e1
   have e2 := hc (j / k) hi' (j % k) hr
   rw [← e1, Nat.add_assoc, e0] at e2
   by_cases hj0 : j = 0
   ·subst hj0; (first | (simp [Addr.add]; exact e2) | (simp only [Nat.add_zero] at e2; simpa [Addr.add] using e2))
   ·simp [Addr.add, hj0]; exact e2
  ·intro u hu
   obtain ⟨y, -, hy⟩ := List.mem_flatMap.1 hu
   exact h1 y u hy
theorem encE_one (x : Edge) : ∀ u ∈ encE x, u.oneCell' = true := by
 intro u hu
 simp [encE] at hu
 rcases hu with rfl | rfl | rfl <;> rfl
theorem encS_one (x : ByteArray) : ∀ u ∈ encS x, u.oneCell' = true := by
 intro u hu
 simp [encS] at hu
 subst hu
 rfl

end Go.Proofs.YtmeibnhhlknbfaaGreatDoor

namespace Go.Proofs.YtmeibnhhlknbfaaGreatDoor
open Go Go.RowKit

theorem put4 {w : World} {b : Nat} {x0 x1 x2 x3 v0 v1 v2 v3 : Value} {T : TypeId} (hb : Blk w b [x0, x1, x2, x3] T) : Blk ((((w.setCell ⟨b, 0, none⟩ v0).setCell ⟨b, 1, none⟩ v1).setCell ⟨b, 2, none⟩ v2).setCell ⟨b, 3, none⟩ v3) b [v0, v1, v2, v3] T := (((hb.set 0 v0).set 1 v1).set 2 v2).set 3 v3
theorem own_put {w : World} {base e size n : Nat} {v : Value} {xs : List Value} (h : w.ownsRow base e size v n xs) {b : Nat} {cs : List Value} {t : TypeId} (hb : Blk w b cs t) (he : e ≠ t) (i : Nat) (u : Value) : (w.setCell ⟨b, i, none⟩ u).ownsRow base e size v n xs :=
 h.kept (grown_setCell w ⟨b, i, none⟩ u) (own_type_ne h hb he)
theorem own_put4 {w : World} {b : Nat} {x0 x1 x2 x3 v0 v1 v2 v3 : Value} {T : TypeId} (hb : Blk w b [x0, x1, x2, x3] T) {base e size n : Nat} {v : Value} {xs : List Value} (h : w.ownsRow base e size v n xs) (he : e ≠ T) :
  ((((w.setCell ⟨b, 0, none⟩ v0).setCell ⟨b, 1, none⟩ v1).setCell ⟨b, 2, none⟩ v2).setCell ⟨b, 3, none⟩ v3).ownsRow base e size v n xs :=
 own_put (own_put (own_put (own_put h hb he 0 _) (hb.set 0 _) he 1 _) ((hb.set 0 _).set 1 _) he 2 _) (((hb.set 0 _).set 1 _).set 2 _) he 3 _
theorem below_put4 {B : Nat} {w0 w : World} {b : Nat} {v0 v1 v2 v3 : Value} (h : Below B w0 w) (hb : B ≤ b) : Below B w0 ((((w.setCell ⟨b, 0, none⟩ v0).setCell ⟨b, 1, none⟩ v1).setCell ⟨b, 2, none⟩ v2).setCell ⟨b, 3, none⟩ v3) :=
 (((h.setCell hb _).setCell hb _).setCell hb _).setCell hb _
theorem blk_put {w : World} {b c : Nat} {ds : List Value} {u : TypeId} (h : Blk w c ds u) (i : Nat) (v : Value) (hne : c ≠ b) : Blk (w.setCell ⟨b, i, none⟩ v) c ds u := h.setOther _ _ hne
end Go.Proofs.YtmeibnhhlknbfaaGreatDoor

namespace Go.Proofs.YtmeibnhhlknbfaaGreatDoor
open Go Go.RowKit

theorem own_results {w : World} {b : Nat} {v0 v1 v2 v3 : Value} {tmps : Array Value} (hc : tmps.getD 2 undef = .pointer (some ⟨b, 0, none⟩)) (hb : Blk w b [v0, v1, v2, v3] 27) :
  (results Tryz.f37 tmps).run Tryz.prog w = .ok (.agg #[v0, v1, v2, v3]) w := by
 have h0 := hb.cell 0 rfl
 have h1 := hb.cell 1 rfl
 have h2 := hb.cell 2 rfl
 have h3 := hb.cell 3 rfl
 simp only [Array.getD_eq_getD_getElem?] at hc
 simp [results, Tryz.results37, go_sem, hc, h0, h1, h2, h3, Result.andThen]
theorem blk_grownF {w w' : World} {b m : Nat} {cs : List Value} {t : TypeId} (h : Blk w b cs t) (hg : w.grownBy w' (some m)) (hne : b ≠ m) : Blk w' b cs t := (hg.block b h.lt (by simpa using hne)).trans h
theorem info_strW : (Tryz.prog.info? 9).map (fun i => (i.zero, i.size, i.bytes)) = some (some (.string ⟨#[]⟩), 1, 16) := by kernel_rfl

set_option maxRecDepth 100000 in
set_option maxHeartbeats 2000000 in
theorem l11Own_any (bt lo : Nat) (t : Lts) (w : World) (hz : t.labels.length ≤ 1048576) (hz2 : t.edges.length ≤ 1048576) (hp : LtsPtr lo w bt t) :
  Calls Tryz.prog 37 #[.pointer (some ⟨bt, 0, none⟩)] w fun e w' => ∃ lv ev, e = .returned (.agg #[.int .i64 t.states, .int .i64 t.initial, lv, ev]) ∧ Below w.heap.size w w' ∧ OwnLts w.heap.size w' lv ev t := by
 obtain ⟨lv, ev, hpl, q0, q1, q2, q3, hls, hes⟩ := hp
 obtain ⟨rc, hrc⟩ : ∃ rc, rc = w.heap.size := ⟨_, rfl⟩
 obtain ⟨W, hW⟩ : ∃ W, W = w.alloc (.cells #[.int .i64 0, .int .i64 0, .slice none 0 0, .slice none 0 0] 27) := ⟨_, rfl⟩
 have hb : Below w.heap.size w W := by rw [hW]; exact (Below.refl _ _).alloc (Nat.le_refl _) _
 have hR : Blk W rc [.int .i64 0, .int .i64 0, .slice none 0 0, .slice none 0 0] 27 := by rw [hW, hrc]; exact Blk.new w _ _
 have HB := Lib.hid hb
 have HR := Lib.hid hR
 have HW := Lib.hid hW
 have HRC := Lib.hid hrc
 have p0 := keeps hb hpl q0
 have p1 := keeps hb hpl q1
 have hplW : bt < W.heap.size := Nat.lt_of_lt_of_le hpl hb.size
 have HQ2 := Lib.hid q2
 have HQ3 := Lib.hid q3
 have HLS := Lib.hid hls
 have HES := Lib.hid hes
 clear hrc hW hb hR q0 q1 q2 q3 hls hes
 go_enter Tryz.func37, Tryz.ntmps37
 go_wp2
 rw [← HW.out]
 try rw [← HRC.out]
 go_cut [3] from 4 (fun v3 wx => ∃ ob, v3 = .pointer (some ⟨ob, 0, none⟩) ∧ W.heap.size ≤ ob ∧ Below W.heap.size W wx ∧ Blk wx ob [.int .i64 t.states, .int .i64 t.initial, .slice none 0 0, .slice none 0 0] 27)
 case first =>
  go_region
  all_goals (
   go_wp2_with fail
   go_meet
   have hal : Below W.heap.size W (W.alloc (.cells #[.int .i64 t.states, .int .i64 t.initial, .slice none 0 0, .slice none 0 0] 27)) := (Below.refl _ _).alloc (Nat.le_refl _) _
   exact ⟨W.heap.size, rfl, Nat.le_refl _, hal.drew, (Blk.new W _ _).below (Below.refl _ _).drew⟩)
 case rest =>
  obtain ⟨ob, rfl, hob, hbc, hO⟩ := hcut
  obtain ⟨B, hB⟩ : ∃ B, B = w.heap.size := ⟨_, rfl⟩
  have hbw : Below B w wc := by rw [hB]; exact HB.out.trans (hbc.mono HB.out.size)
  have hBo : B ≤ ob := by rw [hB]; exact Nat.le_trans HB.out.size hob
  have hBr : B ≤ rc := by rw [hB, HRC.out]; exact Nat.le_refl _
  have hne : rc ≠ ob := by have h1 := HR.out.lt; omega
  have hBc : B ≤ wc.heap.size := by rw [hB]; have := hbw.size; omega
  have hbw' : Below w.heap.size w wc := by rw [← hB]; exact hbw
  have q2 := keeps hbw' hpl HQ2.out
  have hplc : bt < wc.heap.size := Nat.lt_of_lt_of_le hpl hbw'.size
  have HO := Lib.hid hO
  have HRW := Lib.hid (HR.out.below hbc)
  have HBW := Lib.hid hbw
  have HBE := Lib.hid hB
  have HNE := Lib.hid hne
  have hal : Below wc.heap.size wc (wc.alloc (.cells #[] 9)) := (Below.refl _ _).alloc (Nat.le_refl _) _
  have HAL := Lib.hid hal
  have ho : Hid ((wc.alloc (.cells #[] 9)).ownsRow B 9 1 (.slice (some ⟨wc.heap.size, 0, none⟩) 0 0) 0 []) := World.ownsRow_lit (base := B) (e := 9) (size := 1) wc #[] 0 hBc (by simp [maxLen]) rfl
  have HSL := Lib.hid ((HLS.out.below hbw').below hal)
  obtain ⟨is, his, hsz0, hsz1, hsz2⟩ := info_parts info_strW
  obtain ⟨ie, hie, hez0, hez1, hez2⟩ := info_parts info_edge2
  obtain ⟨LN, hLN⟩ : ∃ LN, LN = t.labels.length := ⟨_, rfl⟩
  obtain ⟨EN, hEN⟩ : ∃ EN, EN = t.edges.length := ⟨_, rfl⟩
  have HLN := Lib.hid hLN
  have HEN := Lib.hid hEN
  rw [← hLN] at hz
  rw [← hEN] at hz2
  have o2 := hO.cell 2 rfl
  have o2f := hO.frozen 2
  have hol := hO.lt
  clear hbc hO hB hbw hbw' hne hob hal hLN hEN p0 p1
  go_wp2_with (at_builtin; refine append_slice encS_len encS_one (by decide) rfl _ _ 24 rfl B 9 is (.string ⟨#[]⟩) 16 Tryz.underlying24 his hsz0 hsz1 hsz2 rfl _ _ _ rfl ho.out lo t.labels HSL.out ?_ ?_ ?_ ?_)
  ·rw [← HLN.out]; simp [maxLen]; omega
  ·rw [← HLN.out]; omega
  ·simp; omega
  intro v1 w1 ho1 hg1
  rw [flat_encS] at ho1
  obtain ⟨a1, c1, rfl, -, -⟩ := owns_slice ho1
  have hor : ob ≠ wc.heap.size := by have := HO.out.lt; omega
  have hrr : rc ≠ wc.heap.size := by have := HRW.out.lt; omega
  have hO1 : Blk w1 ob [.int .i64 t.states, .int .i64 t.initial, .slice none 0 0, .slice none 0 0] 27 := blk_grownF (HO.out.below HAL.out) hg1 hor
  have hR1 : Blk w1 rc [.int .i64 0, .int .i64 0, .slice none 0 0, .slice none 0 0] 27 := blk_grownF (HRW.out.below HAL.out) hg1 hrr
  have hb1 : Below B w w1 := (HBW.out.trans (HAL.out.mono hBc)).grown hg1 (by simp; omega) (fun b e => by cases e; exact hBc)
  obtain ⟨w2, hw2⟩ : ∃ w2, w2 = w1.setCell ⟨ob, 2, none⟩ (.slice a1 t.labels.length c1) := ⟨_, rfl⟩
  have hb2 : Below B w w2 := by rw [hw2]; exact hb1.setCell hBo _
  have hO2 : Blk w2 ob [.int .i64 t.states, .int .i64 t.initial, .slice a1 t.labels.length c1, .slice none 0 0] 27 := by rw [hw2]; exact hO1.set 2 _
  have hR2 : Blk w2 rc [.int .i64 0, .int .i64 0, .slice none 0 0, .slice none 0 0] 27 := by rw [hw2]; exact blk_put hR1 2 _ HNE.out
  have hr2 : w2.ownsRow B 9 1 (.slice a1 t.labels.length c1) t.labels.length (t.labels.map .string) := by rw [hw2]; exact own_put ho1 hO1 (by decide) 2 _
  have hb2' : Below w.heap.size w w2 := by rw [← HBE.out]; exact hb2
  have q3 := keeps hb2' hpl HQ3.out
  have hpl2 : bt < w2.heap.size := Nat.lt_of_lt_of_le hpl hb2'.size
  have hB2 : B ≤ w2.heap.size := by rw [HBE.out]; exact hb2'.size
  have hal : Below w2.heap.size w2 (w2.alloc (.cells #[] 59)) := (Below.refl _ _).alloc (Nat.le_refl _) _
  have HAL2 := Lib.hid hal
  have ho2 : Hid ((w2.alloc (.cells #[] 59)).ownsRow B 59 3 (.slice (some ⟨w2.heap.size, 0, none⟩) 0 0) 0 []) := World.ownsRow_lit (base := B) (e := 59) (size := 3) w2 #[] 0 hB2 (by simp [maxLen]) rfl
  have HES2 := Lib.hid ((HES.out.below hb2').below hal)
  have HO2 := Lib.hid hO2
  have HR2 := Lib.hid hR2
  have HRW2 := Lib.hid hr2
  have HB2 := Lib.hid hb2
  have HW2 := Lib.hid hw2
  have o12 := hO1.cell 2 rfl
  have o12f := hO1.frozen 2
  have o3 := hO2.cell 3 rfl
  have o3f := hO2.frozen 3
  have hol2 := hO2.lt
  clear ho1 hg1 hor hrr hO1 hR1 hb1 hb2 hO2 hR2 hr2 hb2' hal hw2 q2 o2 o2f
  go_upto_region 3 with fail
  rw [← HW2.out]
  go_wp2_with (at_builtin; refine append_slice encE_len encE_one (by decide) rfl _ _ 25 rfl B 59 ie (.agg #[.int .i64 0, .int .i64 0, .int .i64 0]) 24 Tryz.underlying25 hie hez0 hez1 hez2 rfl _ _ _ rfl ho2.out lo t.edges HES2.out ?_ ?_ ?_ ?_)
  ·rw [← HEN.out]; simp [maxLen]; omega
  ·rw [← HEN.out]; omega
  ·simp; omega
  intro v3 w3 ho3 hg3
  obtain ⟨a3, c3, rfl, -, -⟩ := owns_slice ho3
  have hor : ob ≠ w2.heap.size := by have := HO2.out.lt; omega
  have hrr : rc ≠ w2.heap.size := by have := HR2.out.lt; omega
  have hO3 : Blk w3 ob [.int .i64 t.states, .int .i64 t.initial, .slice a1 t.labels.length c1, .slice none 0 0] 27 := blk_grownF (HO2.out.below HAL2.out) hg3 hor
  have hR3 : Blk w3 rc [.int .i64 0, .int .i64 0, .slice none 0 0, .slice none 0 0] 27 := blk_grownF (HR2.out.below HAL2.out) hg3 hrr
  have hb3 : Below B w w3 := (HB2.out.trans (HAL2.out.mono hB2)).grown hg3 (by simp; omega) (fun b e => by cases e; exact hB2)
  have hr3 : w3.ownsRow B 9 1 (.slice a1 t.labels.length c1) t.labels.length (t.labels.map .string) := (owns_below HRW2.out HAL2.out).kept hg3 (.inr (fun e => by have h := (HRW2.out.lt w2.heap.size e).2; omega))
  have HO4 := Lib.hid (hO3.set 3 (.slice a3 t.edges.length c3))
  have HR4 := Lib.hid (blk_put hR3 3 (.slice a3 t.edges.length c3) HNE.out)
  have HRS := Lib.hid (own_put hr3 hO3 (by decide) 3 (.slice a3 t.edges.length c3))
  have HRE := Lib.hid (own_put ho3 hO3 (by decide) 3 (.slice a3 t.edges.length c3))
  have HB4 : Hid (Below B w (w3.setCell ⟨ob, 3, none⟩ (.slice a3 t.edges.length c3))) := hb3.setCell hBo _
  obtain ⟨w4, hw4⟩ : ∃ w4, w4 = w3.setCell ⟨ob, 3, none⟩ (.slice a3 t.edges.length c3) := ⟨_, rfl⟩
  rw [← hw4] at HO4 HR4 HRS HRE HB4
  have HW4 := Lib.hid hw4
  have o33 := hO3.cell 3 rfl
  have o33f := hO3.frozen 3
  clear ho3 hg3 hor hrr hO3 hR3 hb3 hr3 hw4 q3 o3 o3f o12 o12f
  go_upto_region 4 with fail
  rw [← HW4.out]
  have o0 := HO4.out.cell 0 rfl
  have o1 := HO4.out.cell 1 rfl
  have o2 := HO4.out.cell 2 rfl
  have o3 := HO4.out.cell 3 rfl
  have r0 := HR4.out.cell 0 rfl
  have r1 := HR4.out.cell 1 rfl
  have r2 := HR4.out.cell 2 rfl
  have r3 := HR4.out.cell 3 rfl
  have s0 := HR4.out.frozen 0
  have s1 := HR4.out.frozen 1
  have s2 := HR4.out.frozen 2
  have s3 := HR4.out.frozen 3
  clear o33 o33f
  go_wp2
  refine bodyPost_ret (own_results rfl (put4 HR4.out)) rfl ?_
  refine ⟨_, _, rfl, ?_, ?_, ?_⟩
  ·rw [← HBE.out]; exact below_put4 HB4.out hBr
  ·rw [← HBE.out]; exact own_put4 HR4.out HRS.out (by decide)
  ·rw [← HBE.out]; exact own_put4 HR4.out HRE.out (by decide)

end Go.Proofs.YtmeibnhhlknbfaaGreatDoor
