/-
  The reference's drawer of a pair of systems: what stands while it draws.
  The reference's drawer of a system with a long way.
  The reference's sets of states: l14List, l12Marks, l12Close.
  The reference's l12Close: what internal edges reach, by sweeps over a list of truth values.
  The reference's l12First and l12Next: the first set, the set behind a label.
  The net of sets in memory: its rows and its edges, of the call's own.
  Cells of rows of texts; what the element types of three lists are.
-/
import Derived.Test.YtmeibnhhlknbfaaGreatDoorF13
import Derived.Test.YtmeibnhhlknbfaaGreatDoorF7
import Derived.Deep.RegionLaw
import Derived.Deep.RegionHeld3
import Derived.Test.YtmeibnhhlknbfaaGreatDoorF4
import Derived.Test.YtmeibnhhlknbfaaGreatDoorF6
import Derived.Test.YtmeibnhhlknbfaaGreatDoorF3
import Derived.Test.YtmeibnhhlknbfaaGreatDoorF2
namespace Go.Proofs.YtmeibnhhlknbfaaGreatDoor
open Go Go.RowKit


theorem riseE_validD {t : Lts} (hv : Valid t) : RiseE t.edges := by
 unfold RiseE
 rw [List.pairwise_iff_getElem]
 intro i j hi hj hij
 induction j with
 | zero => omega
 | succ j ih =>
  have h1 := hv.rise j hj
  rcases Nat.lt_or_ge i j with hlt | hge
  ·have h2 := ih (by omega) hlt
   rw [edgeLess_iff] at *
   omega
  ·obtain rfl : i = j := by omega
   exact h1
theorem own_takeD {w : World} {base e sz n g c : Nat} {xs : List Value} (h : w.ownsRow base e sz (.slice (some ⟨g, 0, none⟩) n c) n xs) {k : Nat} (hk : k ≤ n) : w.ownsRow base e sz (.slice (some ⟨g, 0, none⟩) k c) k (xs.take (k * sz)) := by
 rcases h.2 with ⟨h0, -⟩ | ⟨g', cap, cur, hv, hb, hg, hn, hm, hs, ht⟩
 ·cases h0
 ·simp only [Value.slice.injEq, Option.some.injEq, Addr.mk.injEq, and_true, true_and] at hv
  obtain ⟨rfl, rfl⟩ := hv
  have hle : k * sz ≤ n * sz := Nat.mul_le_mul_right _ hk
  refine ⟨by rw [List.length_take, h.1]; exact Nat.min_eq_left hle, .inr ⟨g, c, cur, rfl, hb, hg, by omega, hm, hs, ?_⟩⟩
  rw [← ht, List.take_take, Nat.min_eq_left hle]
theorem own_capD {w : World} {base e sz n g c : Nat} {xs : List Value} (h : w.ownsRow base e sz (.slice (some ⟨g, 0, none⟩) n c) n xs) : n ≤ c := by
 rcases h.2 with ⟨h0, -⟩ | ⟨g', cap, cur, hv, hb, hg, hn, hm, hs, ht⟩
 ·cases h0
 ·simp only [Value.slice.injEq, Option.some.injEq, Addr.mk.injEq, and_true, true_and] at hv
  obtain ⟨rfl, rfl⟩ := hv
  exact hn
theorem flat_take3 : ∀ (E : List Edge) (k : Nat), (E.flatMap encE).take (k * 3) = (E.take k).flatMap encE
 | [], k => by simp
 | _ :: _, 0 => by simp
 | x :: E, k + 1 => by
  have ih := flat_take3 E k
  rw [show (k + 1) * 3 = k * 3 + 3 by omega]
  simp only [List.flatMap_cons, encE, List.cons_append, List.nil_append, List.take_succ_cons]
  exact congrArg _ (congrArg _ (congrArg _ ih))
theorem flat_drop3 : ∀ (E : List Edge) (k : Nat), (E.flatMap encE).drop (k * 3) = (E.drop k).flatMap encE
 | [], k => by simp
 | _ :: _, 0 => by simp
 | x :: E, k + 1 => by
  have ih := flat_drop3 E k
  rw [show (k + 1) * 3 = k * 3 + 3 by omega]
  simp only [List.flatMap_cons, encE, List.cons_append, List.nil_append, List.drop_succ_cons]
  exact ih
theorem encE_oneD (E : List Edge) : ∀ u ∈ E.flatMap encE, u.oneCell' = true := by
 intro u hu
 obtain ⟨x, -, hx⟩ := List.mem_flatMap.1 hu
 simp only [encE, List.mem_cons, List.not_mem_nil, or_false] at hx
 rcases hx with rfl | rfl | rfl <;> rfl
/-- At a step of a drawn region: an append that fits: the row grows in its place. -/
theorem step_fitsD (w : World) {ops : Array Oper} {o : Oper} {a : Act} {K : Act → World → Prop} {Q : Exit → Act → World → Prop} {F : Prop} (hgd : o.guard = none) (s x : Operand) (t : TypeId)
  (hop : o.op = Op.call { callee := Callee.builtin Builtin.append, args := #[s, x], argTypes := #[t, t] })
  (base : Nat) (e : TypeId) (i : TypeInfo) (size : Nat) (h1 : Tryz.prog.underlying t = some (.slice e)) (h2 : Tryz.prog.info? e = some i) (h4 : i.size = size)
  (g k cap : Nat) (xs : List Value) (hs : a.eval s = .slice (some ⟨g, 0, none⟩) k cap) (hown : w.ownsRow base e size (.slice (some ⟨g, 0, none⟩) k cap) k xs) (ad : Addr) (m c : Nat) (news : List Value) (hx : a.eval x = .slice (some ad) m c) (hn : news.length = m * size)
  (hc : ∀ j u, news[j]? = some u → w.cell? (ad.add j) = some u) (h1c : ∀ u ∈ news, u.oneCell' = true) (b1 : k + m ≤ cap)
  (hK : ∀ w', w'.ownsRow base e size (.slice (some ⟨g, 0, none⟩) (k + m) cap) (k + m) (xs ++ news) → w.grownBy w' (some g) → K (a.put o.dst (.slice (some ⟨g, 0, none⟩) (k + m) cap)) w') :
  if Region.wanted o (yielded ops a.tmps) = true then Oper.wp Tryz.prog o a w K Q else F := by
 have hw : Region.wanted o (yielded ops a.tmps) = true := by simp [Region.wanted, hgd]
 rw [if_pos hw]
 obtain ⟨w', hrun, r1, r2⟩ := run_append_fits (P := Tryz.prog) w base t o.type e i size h1 h2 h4 g k cap xs hown ad m c news hn hc h1c b1
 unfold Oper.wp execOp
 simp only [hop, resolve, invoke, builtin, Sem.run_bind, Sem.run_pure, Result.andThen_ok, List.map_toArray, List.map_cons, List.map_nil, hs, hx, hrun]
 exact hK w' r1 r2
theorem slice_fromD (T e : TypeId) (s : Nat) (hT : Tryz.prog.underlying T = some (.slice e)) (hs : ∀ w, (sizeOf e).run Tryz.prog w = .ok s w) (g n c k : Nat) (hk : k + 1 ≤ n) (w : World) :
  (Instr.slice T (.slice (some ⟨g, 0, none⟩) n c) (some (.int .i64 ((k : Int) + 1))) none none).run Tryz.prog w = .ok (.slice (some ⟨g, if c = k + 1 then 0 else (k + 1) * s, none⟩) (n - (k + 1)) (c - (k + 1))) w := by
 have hel : Tryz.prog.elem T = e := by simp [Program.elem, hT]
 rw [run_slice_l w T (some ⟨g, 0, none⟩) n c (by rw [hel]; exact hT) .i64 ((k : Int) + 1) (by omega) (by omega), hel, hs]
 have ht : ((k : Int) + 1).toNat = k + 1 := by omega
 simp only [Result.andThen, sliced, ht]
 by_cases h : c = k + 1
 ·simp [h]
 ·simp [h, Addr.add_lit]
/-- The cells behind a place of a row. -/
theorem cells_fromD {w : World} {base e sz g n c k : Nat} {xs : List Value} (h : w.ownsRow base e sz (.slice (some ⟨g, 0, none⟩) n c) n xs) (hk : k + 1 ≤ n) (hnc : n ≤ c) {o : Nat} (ho : o = (if c = k + 1 then 0 else (k + 1) * sz)) :
  ∀ j u, (xs.drop ((k + 1) * sz))[j]? = some u → w.cell? ((⟨g, o, none⟩ : Addr).add j) = some u := by
 intro j u hu
 have hlen := h.1
 have hj : (k + 1) * sz + j < n * sz := by
  have h1 := (List.getElem?_eq_some_iff.1 hu).1
  rw [List.length_drop, hlen] at h1
  omega
 have hne : c ≠ k + 1 := by
  intro e1
  have : n = k + 1 := by omega
  subst this
  omega
 rw [if_neg hne] at ho
 rw [Addr.add_lit, ho, h.cellAt _ hj]
 rw [List.getElem?_drop] at hu
 exact hu
theorem rise_eraseD {E : List Edge} (h : RiseE E) (k : Nat) : RiseE (E.eraseIdx k) := List.Pairwise.sublist (List.eraseIdx_sublist _ _) h

/-- What stands while a pair is drawn: the first system. -/
structure PEnv (sb m ra rc ab : Nat) (a : Lts) (la ea : Value) (w0 w : World) : Prop where
 drew : Drew sb m w0 w
 sbl : sb < w0.heap.size
 own : OwnLts w0.heap.size w la ea a
 abox : Blk w ab [.int .i64 a.states, .int .i64 a.initial, la, ea] 27
 rbox : Blk w ra [.int .i64 0, .int .i64 0, .slice none 0 0, .slice none 0 0] 27
 cbox : Blk w rc [.int .i64 0, .int .i64 0, .slice none 0 0, .slice none 0 0] 27
 abl : w0.heap.size ≤ ab
 ral : w0.heap.size ≤ ra
 rcl : w0.heap.size ≤ rc
 nar : ab ≠ ra
 nac : ab ≠ rc
 nrc : ra ≠ rc
section
variable {sb m ra rc ab : Nat} {a : Lts} {la ea : Value} {w0 w w' : World}
theorem PEnv.then {m' : Nat} (h : PEnv sb m ra rc ab a la ea w0 w) (hd : Drew sb m' w w') : PEnv sb m' ra rc ab a la ea w0 w' :=
 ⟨h.drew.trans hd, h.sbl, ⟨hd.own h.own.1 h.sbl, hd.own h.own.2 h.sbl⟩, hd.blk h.abox (by have := h.abl; have := h.sbl; omega), hd.blk h.rbox (by have := h.ral; have := h.sbl; omega), hd.blk h.cbox (by have := h.rcl; have := h.sbl; omega), h.abl, h.ral, h.rcl, h.nar, h.nac, h.nrc⟩
theorem PEnv.below (h : PEnv sb m ra rc ab a la ea w0 w) (hb : Below w.heap.size w w') : PEnv sb m ra rc ab a la ea w0 w' :=
 ⟨h.drew.below hb, h.sbl, h.own.below hb, h.abox.below hb, h.rbox.below hb, h.cbox.below hb, h.abl, h.ral, h.rcl, h.nar, h.nac, h.nrc⟩
theorem PEnv.mono {m' : Nat} (h : PEnv sb m ra rc ab a la ea w0 w) (hm : m ≤ m') : PEnv sb m' ra rc ab a la ea w0 w := ⟨h.drew.mono hm, h.sbl, h.own, h.abox, h.rbox, h.cbox, h.abl, h.ral, h.rcl, h.nar, h.nac, h.nrc⟩
end
/-- What comes back. -/
def RetPair (sb m : Nat) (w : World) (e : Ending) (w' : World) : Prop :=
 ∃ (a b : Lts) (la ea lb eb : Value), e = .returned (.tuple #[.agg #[.int .i64 a.states, .int .i64 a.initial, la, ea], .agg #[.int .i64 b.states, .int .i64 b.initial, lb, eb]]) ∧ Drew sb m w w' ∧ OwnLts w.heap.size w' la ea a ∧ OwnLts w.heap.size w' lb eb b ∧ (∀ l ∈ a.labels, l.size ≤ 6) ∧ ∀ l ∈ b.labels, l.size ≤ 6
theorem RetPair.drew {sb m : Nat} {w w' : World} {e : Ending} (h : RetPair sb m w e w') : RetPair sb m w e w'.drew := by
 obtain ⟨a, b, la, ea, lb, eb, he, hd, ha, hb, h6⟩ := h
 have hB : Below w'.heap.size w' w'.drew := (Below.refl _ _).drew
 exact ⟨a, b, la, ea, lb, eb, he, hd.below hB, ha.below hB, hb.below hB, h6⟩
theorem PEnv.fin {sb m ra rc ab : Nat} {a : Lts} {la ea : Value} {w0 w : World} (h : PEnv sb m ra rc ab a la ea w0 w) {b : Lts} {lb eb : Value} (hb : OwnLts w0.heap.size w lb eb b) (ha6 : ∀ l ∈ a.labels, l.size ≤ 6) (hb6 : ∀ l ∈ b.labels, l.size ≤ 6) {v0 v1 v2 v3 u0 u1 u2 u3 : Value} :
  RetPair sb m w0 (.returned (.tuple #[.agg #[.int .i64 a.states, .int .i64 a.initial, la, ea], .agg #[.int .i64 b.states, .int .i64 b.initial, lb, eb]])) ((((((((w.setCell ⟨ra, 0, none⟩ v0).setCell ⟨ra, 1, none⟩ v1).setCell ⟨ra, 2, none⟩ v2).setCell ⟨ra, 3, none⟩ v3).setCell ⟨rc, 0, none⟩ u0).setCell ⟨rc, 1, none⟩ u1).setCell ⟨rc, 2, none⟩ u2).setCell ⟨rc, 3, none⟩ u3) := by
 have hc1 : Blk ((((w.setCell ⟨ra, 0, none⟩ v0).setCell ⟨ra, 1, none⟩ v1).setCell ⟨ra, 2, none⟩ v2).setCell ⟨ra, 3, none⟩ v3) rc [.int .i64 0, .int .i64 0, .slice none 0 0, .slice none 0 0] 27 := blk_put4D h.cbox (fun e => h.nrc e.symm)
 refine ⟨a, b, la, ea, lb, eb, rfl, ?_, ⟨own_put4D hc1 (own_put4D h.rbox h.own.1 (by decide)) (by decide), own_put4D hc1 (own_put4D h.rbox h.own.2 (by decide)) (by decide)⟩, ⟨own_put4D hc1 (own_put4D h.rbox hb.1 (by decide)) (by decide), own_put4D hc1 (own_put4D h.rbox hb.2 (by decide)) (by decide)⟩, ha6, hb6⟩
 exact drew_put4 (drew_put4 h.drew h.ral h.sbl) h.rcl h.sbl
section
variable {sb m ra rc ab bb Be : Nat} {a : Lts} {la ea : Value} {E : List Edge} {lb eb : Value} {w0 w w' : World}
theorem PEnv.at {row : Option Nat} (h : PEnv sb m ra rc ab a la ea w0 w) (hbe : w0.heap.size ≤ Be) (hl : ∀ k, la.ownBlock = some k → k < Be) (he : ∀ k, ea.ownBlock = some k → k < Be) (n1 : ab < Be) (n2 : ra < Be) (n3 : rc < Be) (hg : w.grownBy w' row) (hr : ∀ k, row = some k → Be ≤ k) : PEnv sb m ra rc ab a la ea w0 w' :=
 ⟨h.drew.grown hg (fun j e => Nat.le_trans hbe (hr j e)) h.sbl, h.sbl, ⟨h.own.1.kept hg (by
   cases hv : la.ownBlock with
   | none => exact .inl rfl
   | some k => exact .inr (fun e => by have := hl k hv; have := hr k e.symm; omega)), h.own.2.kept hg (by
   cases hv : ea.ownBlock with
   | none => exact .inl rfl
   | some k => exact .inr (fun e => by have := he k hv; have := hr k e.symm; omega))⟩,
  h.abox.far hg (fun e => by have := hr _ e; omega), h.rbox.far hg (fun e => by have := hr _ e; omega), h.cbox.far hg (fun e => by have := hr _ e; omega), h.abl, h.ral, h.rcl, h.nar, h.nac, h.nrc⟩
end
end Go.Proofs.YtmeibnhhlknbfaaGreatDoor

namespace Go.Proofs.YtmeibnhhlknbfaaGreatDoor
open Go Go.RowKit


theorem long_results {w : World} {b : Nat} {v0 v1 v2 v3 : Value} {tmps : Array Value} (hc : tmps.getD 2 undef = .pointer (some ⟨b, 0, none⟩)) (hb : Blk w b [v0, v1, v2, v3] 27) :
  (results Tryz.f35 tmps).run Tryz.prog w = .ok (.agg #[v0, v1, v2, v3]) w := by
 have h0 := hb.cell 0 rfl
 have h1 := hb.cell 1 rfl
 have h2 := hb.cell 2 rfl
 have h3 := hb.cell 3 rfl
 simp only [Array.getD_eq_getD_getElem?] at hc
 simp [results, Tryz.results35, go_sem, hc, h0, h1, h2, h3, Result.andThen]
def longT : List ByteArray := [nmT, nmA, nmB]
def longE : List Edge := [⟨0, 1, 0⟩, ⟨0, 2, 0⟩, ⟨0, 1, 1⟩]
theorem mk_loose {n i : Int} {es R : List Edge} (h : MkEdges (labSet (tauT :: longT)) longT es R) (hl : es.length ≤ 100) : LooseOk ⟨n, i, labSet (tauT :: longT), R⟩ where
 few := Nat.le_trans (labSet_len _) (by decide)
 short := fun l hl => by
  have h1 := ((labSet_is (tauT :: longT)).2 l).1 hl
  simp only [longT, List.mem_cons, List.not_mem_nil, or_false] at h1
  rcases h1 with rfl | rfl | rfl | rfl <;> decide
 most := by
  have := h.2.1
  show R.length ≤ 200
  omega

set_option maxRecDepth 100000 in
set_option maxHeartbeats 4000000 in
theorem drawLong_any (sb n : Nat) (w : World) (hs : Src sb n w) (hn : n ≤ 990000000) :
  Calls Tryz.prog 35 #[.pointer (some ⟨sb, 0, none⟩)] w (RetLo sb (n + 20) w) := by
 have hsb := hs.lt
 obtain ⟨i2, hi2, hx0, hx1, hx2⟩ := info_parts info_edgeD
 obtain ⟨rb, hrb⟩ : ∃ rb, rb = w.heap.size := ⟨_, rfl⟩
 obtain ⟨W, hW⟩ : ∃ W, W = w.alloc (.cells #[.int .i64 0, .int .i64 0, .slice none 0 0, .slice none 0 0] 27) := ⟨_, rfl⟩
 have hD0 : Drew sb n w W := by rw [hW]; exact (Drew.refl hs).alloc _
 have hX0 : Blk W rb [.int .i64 0, .int .i64 0, .slice none 0 0, .slice none 0 0] 27 := by rw [hW, hrb]; exact Blk.new w _ _
 have HPI := Lib.hid (pick_any sb n 4 W hD0.2 (by omega) (by omega))
 have HD0 := Lib.hid hD0
 have HX0 := Lib.hid hX0
 have HW := Lib.hid hW
 have HRB := Lib.hid hrb
 have hrbl : w.heap.size ≤ rb := by rw [hrb]; exact Nat.le_refl _
 have hsW : w.heap.size ≤ W.heap.size := hD0.size
 clear hs hW hD0 hX0 hrb
 go_enter Tryz.func35, Tryz.ntmps35
 go_wp2_with fail
 rw [← HW.out, ← HRB.out]
 refine Calls.mono HPI.out ?_
 rintro e w1 ⟨k0, rfl, hk0, -, hk1, hd1⟩
 have hk2 := hk1 (by omega)
 obtain ⟨q, rfl⟩ : ∃ q : Nat, k0 = (q : Int) := ⟨k0.toNat, by omega⟩
 have hq : q < 4 := by omega
 have HD1 : Hid (Drew sb (n + 20) w w1) := (HD0.out.trans hd1).mono (by omega)
 have HX1 := Lib.hid (hd1.blk HX0.out (by omega))
 clear hd1 HPI hk1 hk2 hk0 HD0 HX0
 obtain ⟨W2, hW2⟩ : ∃ W2, W2 = (w1.alloc (.cells #[.string ⟨#[116, 97, 117]⟩, .string ⟨#[97]⟩, .string ⟨#[98]⟩] 9)).alloc (.cells #[.int .i64 0, .int .i64 1, .int .i64 0, .int .i64 0, .int .i64 2, .int .i64 0, .int .i64 0, .int .i64 1, .int .i64 1] 59) := ⟨_, rfl⟩
 obtain ⟨xb, hxb⟩ : ∃ xb, xb = w1.heap.size := ⟨_, rfl⟩
 have hs1 : w.heap.size ≤ w1.heap.size := HD1.out.size
 have hb2 : Below w1.heap.size w1 W2 := by rw [hW2]; exact ((Below.refl _ _).alloc (Nat.le_refl _) _).alloc (by simp) _
 have hT2 : OwnStrs w.heap.size W2 (.slice (some ⟨xb, 0, none⟩) 3 3) longT := by
  have h := strs_lit (w := w1) (xs := longT) (cs := #[.string ⟨#[116, 97, 117]⟩, .string ⟨#[97]⟩, .string ⟨#[98]⟩]) rfl (by decide)
  rw [hW2, hxb]
  exact (h.lower hs1).below ((Below.refl _ _).alloc (Nat.le_refl _) _)
 have hE2 : W2.ownsRow w.heap.size 59 3 (.slice (some ⟨xb + 1, 0, none⟩) 3 3) 3 (longE.flatMap encE) := by
  have h := World.ownsRow_lit (base := w.heap.size) (size := 3) (e := 59) (w1.alloc (.cells #[.string ⟨#[116, 97, 117]⟩, .string ⟨#[97]⟩, .string ⟨#[98]⟩] 9)) #[.int .i64 0, .int .i64 1, .int .i64 0, .int .i64 0, .int .i64 2, .int .i64 0, .int .i64 0, .int .i64 1, .int .i64 1] 3 (by simp; omega) (by decide) rfl
  rw [World.size_alloc, ← hxb] at h
  rw [hW2]
  exact h
 have HD2 := Lib.hid (HD1.out.below hb2)
 have HX2 := Lib.hid (HX1.out.below hb2)
 have HT2 := Lib.hid hT2
 have HE2 := Lib.hid hE2
 have HW2 := Lib.hid hW2
 have HXB := Lib.hid hxb
 clear hW2 hxb hb2 hT2 hE2 HD1 HX1
 go_wp2
 rw [← HW2.out, ← HXB.out]
 go_loopw [5, 6] (fun v5 v6 wr => ∃ (k : Nat) (p : Option Addr) (c EL : Nat) (es : List Edge), 1 ≤ k ∧ k ≤ 4 + q ∧ v6 = .int .i64 k ∧ v5 = .slice p EL c ∧ EL = es.length ∧ EL ≤ 1 + 2 * k ∧ (∀ e ∈ es, 0 ≤ e.lab ∧ e.lab < 3) ∧ Drew sb (n + 20) w wr ∧ Blk wr rb [.int .i64 0, .int .i64 0, .slice none 0 0, .slice none 0 0] 27 ∧ OwnStrs w.heap.size wr (.slice (some ⟨xb, 0, none⟩) 3 3) longT ∧ wr.ownsRow w.heap.size 59 3 (.slice p EL c) EL (es.flatMap encE)) (fun _ v6 _ => 20 - (intOf v6).toNat)
 case atStart => exact ⟨1, _, 3, 3, longE, Nat.le_refl _, by omega, rfl, rfl, rfl, by omega, (fun e he => by
  simp only [longE, List.mem_cons, List.not_mem_nil, or_false] at he
  rcases he with rfl | rfl | rfl <;> decide), HD2.out, HX2.out, HT2.out, HE2.out⟩
 case round =>
  clear HD2 HX2 HT2 HE2
  obtain ⟨k, p, c, EL, es, hk1, hk2, rfl, rfl, hel, hle, hlab, hd, hx, ht, he⟩ := hrel
  obtain ⟨wC, rfl⟩ : ∃ wC : World, wC = wr := ⟨_, rfl⟩
  have HEL := Lib.hid hel
  have HLA := Lib.hid hlab
  have HD := Lib.hid hd
  have HX := Lib.hid hx
  have HTX := Lib.hid ht
  have HE := Lib.hid he
  have hsC : w.heap.size ≤ wC.heap.size := hd.size
  clear hel hlab hd hx ht he
  by_cases hlt : k < 4 + q
  ·have hgd : decide ((k : Int) < 4 + (q : Int)) = true := decide_eq_true (by omega)
   go_wp2_with (at_builtin; refine wpList_append_own _ rfl _ _ 25 rfl w.heap.size 59 i2 (.agg #[.int .i64 0, .int .i64 0, .int .i64 0]) 3 24 Tryz.underlying25 hi2 hx0 hx1 hx2 rfl (by decide) _ _ _ rfl (HE.out.alloc _) ⟨wC.heap.size, 0, none⟩ 2 2 [.int .i64 k, .int .i64 1, .int .i64 ((k : Int) + 1), .int .i64 k, .int .i64 2, .int .i64 ((k : Int) + 1)] rfl rfl ?c1 ?c2 ?c3 ?c4 ?c5 ?_)
   case c1 => exact World.news_of_block (cs := #[.int .i64 k, .int .i64 1, .int .i64 ((k : Int) + 1), .int .i64 k, .int .i64 2, .int .i64 ((k : Int) + 1)]) (t := 59) (fr := (0, 0)) (heap_alloc_new wC _)
   case c2 => intro u hu; simp at hu; rcases hu with rfl | rfl | rfl | rfl | rfl | rfl <;> rfl
   case c3 => first | omega | (simp [maxLen]; omega)
   case c4 => first | omega | (simp; omega)
   case c5 => first | omega | (simp; omega)
   intro v' w4 ho4 hg4 _
   have hal : Below wC.heap.size wC (wC.alloc (.cells #[.int .i64 k, .int .i64 1, .int .i64 ((k : Int) + 1), .int .i64 k, .int .i64 2, .int .i64 ((k : Int) + 1)] 59)) := (Below.refl _ _).alloc (Nat.le_refl _) _
   obtain ⟨p4, c4, rfl, -, -⟩ := owns_slice ho4
   have HD4 : Hid (Drew sb (n + 20) w w4) := (HD.out.below hal).grown hg4 (fun b e => (HE.out.lt b e).1) hsb
   have HX4 : Hid (Blk w4 rb [.int .i64 0, .int .i64 0, .slice none 0 0, .slice none 0 0] 27) := blk_kept (HX.out.below hal) (owns_below HE.out hal) hg4 (by decide)
   have HT4 : Hid (OwnStrs w.heap.size w4 (.slice (some ⟨xb, 0, none⟩) 3 3) longT) := World.ownsRow.kept (HTX.out.below hal) hg4 (own_types (HTX.out.below hal) (owns_below HE.out hal) (by decide))
   have HE4 : Hid (w4.ownsRow w.heap.size 59 3 (.slice p4 (EL + 2) c4) (EL + 2) ((es ++ ([⟨(k : Int), 1, (k : Int) + 1⟩, ⟨(k : Int), 2, (k : Int) + 1⟩] : List Edge)).flatMap encE)) := by
    unfold Hid
    rw [List.flatMap_append]
    exact ho4
   clear ho4 hg4 hal
   go_wp2
   go_roundw
   case rel => exact ⟨k + 1, p4, c4, EL + 2, es ++ [⟨(k : Int), 1, (k : Int) + 1⟩, ⟨(k : Int), 2, (k : Int) + 1⟩], by omega, by omega, by go_num, rfl, by rw [List.length_append, HEL.out]; rfl, by omega, (fun e he => by
    rcases List.mem_append.1 he with h | h
    ·exact HLA.out e h
    ·simp only [List.mem_cons, List.not_mem_nil, or_false] at h
     rcases h with rfl | rfl
     ·exact ⟨by show (0 : Int) ≤ 1; decide, by show (1 : Int) < 3; decide⟩
     ·exact ⟨by show (0 : Int) ≤ 2; decide, by show (2 : Int) < 3; decide⟩), HD4.out, HX4.out, HT4.out, HE4.out⟩
   case measure => simp [intOf]; omega
  ·have hgd : decide ((k : Int) < 4 + (q : Int)) = false := decide_eq_false (by omega)
   have HMK := Lib.hid (l11Make_any w.heap.size w.heap.size (4 + (q : Int) + 1) 0 longT es (.slice (some ⟨xb, 0, none⟩) 3 3) (.slice p EL c) wC HTX.out.at (SliceK.of_owns (e := 59) encE_len HEL.out HE.out) (by decide) (by have := HEL.out; omega) HLA.out)
   go_wp2_with fail
   refine Calls.mono HMK.out ?_
   rintro e w9 ⟨hb9, lv9, ev9, R, rfl, hol, hoe, hmk⟩
   obtain ⟨la9, lc9, rfl, -, -⟩ := owns_slice hol
   obtain ⟨ea9, ec9, rfl, -, -⟩ := owns_slice hoe
   have HD9 := Lib.hid (HD.out.below hb9)
   have HX9 := Lib.hid (HX.out.below hb9)
   have HOL := Lib.hid (own_lower hol hsC)
   have HOE := Lib.hid (own_lower hoe hsC)
   have HLO : Hid (LooseOk ⟨4 + (q : Int) + 1, 0, labSet (tauT :: longT), R⟩) := mk_loose hmk (by have := HEL.out; omega)
   have r0 := HX9.out.cell 0 rfl
   have r1 := HX9.out.cell 1 rfl
   have r2 := HX9.out.cell 2 rfl
   have r3 := HX9.out.cell 3 rfl
   have s0 := HX9.out.frozen 0
   have s1 := HX9.out.frozen 1
   have s2 := HX9.out.frozen 2
   have s3 := HX9.out.frozen 3
   clear hb9 hol hoe hmk HMK
   go_wp2
   refine bodyPost_ret (long_results rfl (put4D HX9.out)) rfl ?_
   exact ⟨⟨4 + (q : Int) + 1, 0, labSet (tauT :: longT), R⟩, _, _, rfl, drew_put4 HD9.out hrbl hsb, ⟨own_put4D HX9.out HOL.out (by decide), own_put4D HX9.out HOE.out (by decide)⟩, HLO.out⟩

end Go.Proofs.YtmeibnhhlknbfaaGreatDoor

namespace Go.Proofs.YtmeibnhhlknbfaaGreatDoor
open Go Go.RowKit

set_option maxRecDepth 100000 in
set_option maxHeartbeats 1000000 in
theorem l14List_any (lo : Nat) (v : Value) (l : List Bool) (w : World) (hsmall : l.length ≤ 1073741824) (hv : SliceK 1 encB lo w v l) : Calls Tryz.prog 66 #[v] w (MadeNums (truesTo l l.length) w) := by
 obtain ⟨a, cap, rfl, hn, hcap, hrow⟩ := hv
 obtain ⟨i0, hi, hz0, hz1, hz2⟩ := info_parts info_int64
 go_enter Tryz.func66, Tryz.ntmps66
 go_wp2
 go_loopw [3, 4] (fun v i wr => ∃ k : Nat, k ≤ l.length ∧ i = .int .i64 k ∧ Below w.heap.size w wr ∧ wr.ownsRow w.heap.size 2 1 v (truesTo l k).length ((truesTo l k).map (Value.int .i64))) (fun _ i _ => l.length - (intOf i).toNat)
 case atStart => exact ⟨0, Nat.zero_le _, rfl, (Below.refl _ _).alloc (Nat.le_refl _) _, World.ownsRow_lit (size := 1) w #[] 0 (Nat.le_refl _) (by simp [maxLen]) rfl⟩
 case round =>
  obtain ⟨k, hk, rfl, hbl, ho⟩ := hrel
  have HBL := Lib.hid hbl
  have HO := Lib.hid ho
  have hsz := hbl.size
  have hfl := truesTo_len l k
  have HT := Lib.hid (truesTo_succ l k)
  clear hbl ho
  by_cases hlt : k < l.length
  ·obtain ⟨b, o, rfl, -, hb, c⟩ := (hrow.below HBL.out).one hlt
   simp only [encB, List.getElem?_cons_zero] at c
   have hgd : l[k] = l.getD k false := by simp [List.getD, hlt]
   rw [hgd] at c
   clear hrow hgd
   cases hg : l.getD k false
   ·rw [hg] at c HT
    clear hg
    go_wp2
    go_roundw
    case rel => exact ⟨k + 1, by omega, by go_num, HBL.out, by rw [HT.out]; simpa using HO.out⟩
    case measure => simp [intOf]; omega
   ·rw [hg] at c HT
    clear hg
    obtain ⟨fs, hfs⟩ : ∃ fs, fs = truesTo l k := ⟨_, rfl⟩
    rw [← hfs] at HO HT hfl
    clear hfs
    go_wp2_with (at_builtin; refine wpList_append_own _ rfl _ _ 28 rfl w.heap.size 2 i0 (.int .i64 0) 1 8 Tryz.underlying28 hi hz0 hz1 hz2 rfl (by decide) _ _ _ rfl (HO.out.alloc _) ⟨wr.heap.size, 0, none⟩ 1 1 [.int .i64 k] rfl rfl ?c1 ?c2 ?c3 ?c4 ?c5 ?_)
    case c2 => rfl
    case c3 => simp [maxLen]; omega
    case c4 => omega
    case c5 => omega
    intro v' w3 ho1 hg1 _
    have HO2 : Hid (w3.ownsRow w.heap.size 2 1 v' (fs ++ [(k : Int)]).length ((fs ++ [(k : Int)]).map (Value.int .i64))) := by
     unfold Hid
     rw [List.length_append, List.map_append]
     exact ho1
    have HB2 : Hid (Below w.heap.size w w3) := (HBL.out.alloc hsz _).grown hg1 (by simp; omega) (fun b e => (HO.out.lt b e).1)
    clear ho1 hg1
    go_wp2
    go_roundw
    case rel => exact ⟨k + 1, by omega, by go_num, HB2.out, by rw [HT.out, if_pos trivial]; exact HO2.out⟩
    case measure => simp [intOf]; omega
  ·clear hrow
   go_wp2
   go_ret
   obtain rfl : k = l.length := by omega
   exact ⟨_, rfl, HBL.out, HO.out⟩

/-- A list of truth values of the call's own. -/
def MadeBools (n : Nat) (P : List Bool → Prop) (w : World) (e : Ending) (w' : World) : Prop :=
 ∃ (g : Nat) (l : List Bool), e = .returned (.slice (some ⟨g, 0, none⟩) n n) ∧ P l ∧ Below w.heap.size w w' ∧ w'.ownsRow w.heap.size 4 1 (.slice (some ⟨g, 0, none⟩) n n) n (l.map Value.bool)

/-- True just at the numbers in s. -/
def MarkOf (n : Nat) (s : List Int) (l : List Bool) : Prop := l.length = n ∧ ∀ x, inL l x ↔ x ∈ s
theorem MarkOf.start (n : Nat) : MarkOf n [] (List.replicate n false) := by
 refine ⟨List.length_replicate, fun x => ⟨fun h => ?_, fun h => by simp at h⟩⟩
 have h1 := h.2
 rw [List.getElem?_replicate] at h1
 split at h1 <;> simp at h1
theorem MarkOf.set {n : Nat} {s : List Int} {l : List Bool} (h : MarkOf n s l) {x : Int} (h0 : 0 ≤ x) (h1 : x < n) : MarkOf n (s ++ [x]) (l.set x.toNat true) := by
 refine ⟨by rw [List.length_set]; exact h.1, fun y => ?_⟩
 rw [List.mem_append, List.mem_singleton, ← h.2 y]
 unfold inL
 rw [set_true_get (by have := h.1; omega)]
 constructor
 ·rintro ⟨hy, h2 | h2⟩
  ·exact .inr (by omega)
  ·exact .inl ⟨hy, h2⟩
 ·rintro (h2 | rfl)
  ·exact ⟨h2.1, .inr h2.2⟩
  ·exact ⟨h0, .inl rfl⟩

theorem info_bool16 : (Tryz.prog.info? 4).map (fun i => (i.zero, i.size, i.bytes)) = some (some (.bool false), 1, 1) := by kernel_rfl

set_option maxRecDepth 100000 in
set_option maxHeartbeats 2000000 in
theorem l12Marks_any (p lo lo2 : Nat) (t : Lts) (v : Value) (s : List Int) (w : World) (h1 : 1 ≤ t.states) (h2 : t.states ≤ 40) (hs : ∀ x ∈ s, 0 ≤ x ∧ x < t.states) (hp : LtsPtr lo w p t) (hv : SliceK 1 encI lo2 w v s) :
  Calls Tryz.prog 64 #[.pointer (some ⟨p, 0, none⟩), v] w (MadeBools t.states.toNat (MarkOf t.states.toNat s) w) := by
 obtain ⟨lv, ev, hpl, q0, -⟩ := hp
 obtain ⟨a, cap, rfl, hn, hcap, hrow⟩ := hv
 obtain ⟨N, hN⟩ : ∃ N : Nat, (N : Int) = t.states := ⟨t.states.toNat, by omega⟩
 rw [← hN] at q0 h1 h2 hs ⊢
 rw [Int.toNat_natCast]
 have HS := Lib.hid hs
 obtain ⟨ib, hib, hzb0, hzb1, hzb2⟩ := info_parts info_bool16
 clear hN hs
 go_enter Tryz.func64, Tryz.ntmps64
 go_wp2_with (at_make; refine wpList_make_full _ rfl _ _ 75 rfl w.heap.size 4 ib _ 1 Tryz.underlying75 hib hzb0 hzb1 .i64 .i64 _ _ N rfl rfl rfl rfl ?_ ?_ ?_ ?_)
 ·rw [hzb2]; omega
 ·simp [maxLen]; omega
 ·exact Nat.le_refl _
 intro w1 ho hg
 rw [toList_madeCells_one] at ho
 obtain ⟨G, hG⟩ : ∃ G, G = w.heap.size := ⟨_, rfl⟩
 have HB1 : Hid (Below w.heap.size w w1) := (Below.refl _ w).grown hg (Nat.le_refl _) (fun _ h => by cases h)
 rw [← hG] at ho ⊢
 have HO : Hid (w1.ownsRow G 4 1 (.slice (some ⟨G, 0, none⟩) N N) N ((List.replicate N false).map Value.bool)) := by
  unfold Hid; simpa using ho
 have HG := Lib.hid hG
 clear ho hg hG hib hzb0 hzb1 hzb2
 go_wp2
 go_loopw [6] (fun i wr => ∃ (k : Nat) (l : List Bool), k ≤ s.length ∧ i = .int .i64 k ∧ MarkOf N (s.take k) l ∧ Below w.heap.size w wr ∧ wr.ownsRow G 4 1 (.slice (some ⟨G, 0, none⟩) N N) N (l.map Value.bool)) (fun i _ => s.length - (intOf i).toNat)
 case atStart => exact ⟨0, List.replicate N false, Nat.zero_le _, rfl, MarkOf.start N, HB1.out, HO.out⟩
 case round =>
  clear HO HB1
  obtain ⟨k, l, hk, rfl, hm, hbl, ho⟩ := hrel
  have HM := Lib.hid hm
  have HBL := Lib.hid hbl
  have HO := Lib.hid ho
  have hll := hm.1
  clear hbl ho hm
  by_cases hlt : k < s.length
  ·obtain ⟨b, o, rfl, -, hb, c⟩ := (hrow.below HBL.out).one hlt
   simp only [encI, List.getElem?_cons_zero] at c
   have hin := HS.out _ (List.getElem_mem hlt)
   have HT : Hid (s.take (k + 1) = s.take k ++ [s[k]]) := List.take_succ_eq_append_getElem hlt
   obtain ⟨x, hx⟩ : ∃ x, x = s[k] := ⟨_, rfl⟩
   rw [← hx] at c hin HT
   obtain ⟨m, hm⟩ : ∃ m : Nat, (m : Int) = x := ⟨x.toNat, by omega⟩
   have hmn : m < N := by omega
   rw [← hm] at c HT
   have HO2 := Lib.hid (HO.out.stored m (.bool true)).1
   have c2 := cell_bool HO.out hmn
   have c3 := HO.out.frozenAt m
   clear hrow hx hin hm
   go_wp2
   go_roundw
   case rel =>
    refine ⟨k + 1, l.set m true, by omega, by go_num, ?_, HBL.out.setCell (by rw [HG.out]; exact Nat.le_refl _) _, ?_⟩
    ·rw [HT.out]
     exact HM.out.set (x := (m : Int)) (by omega) (by omega)
    ·rw [List.map_set]; exact HO2.out
   case measure => simp [intOf]; omega
  ·clear hrow
   go_wp2
   go_ret
   obtain rfl : k = s.length := by omega
   refine ⟨_, l, rfl, ?_, HBL.out, ?_⟩
   ·have := HM.out; rw [List.take_length] at this; exact this
   ·rw [← HG.out]; exact HO.out

end Go.Proofs.YtmeibnhhlknbfaaGreatDoor

namespace Go.Proofs.YtmeibnhhlknbfaaGreatDoor
open Go Go.RowKit

/-- What holds of the marks ahead of a sweep. -/
structure CloseRel (t : Lts) (l : List Bool) (N B g : Nat) (w0 wr : World) (gk : Nat) (good : List Bool) (b : Bool) : Prop where
 len : good.length = N
 ok : CoOk (tauPairs t) (markB l) good
 done : b = false → CoDone (tauPairs t) good
 left : 2 * falses good + b.toNat ≤ gk
 below : Below w0.heap.size w0 wr
 own : wr.ownsRow B 4 1 (.slice (some ⟨g, 0, none⟩) N N) N (good.map Value.bool)

theorem tauPairs_len (t : Lts) : (tauPairs t).length = t.edges.length := List.length_map _
theorem tauPairs_get {t : Lts} {k : Nat} (h : k < (tauPairs t).length) (h' : k < t.edges.length) : (tauPairs t)[k] = tauPair t.edges[k] := List.getElem_map _

set_option maxRecDepth 100000 in
set_option maxHeartbeats 4000000 in
theorem l12Close_any (p lo g N : Nat) (t : Lts) (l : List Bool) (w0 w : World) (hv : Valid t) (hl : l.length = N) (hN : (N : Int) = t.states) (hp : LtsPtr lo w0 p t) (hb : Below w0.heap.size w0 w)
  (ho : w.ownsRow w0.heap.size 4 1 (.slice (some ⟨g, 0, none⟩) N N) N (l.map Value.bool)) :
  Calls Tryz.prog 65 #[.pointer (some ⟨p, 0, none⟩), .slice (some ⟨g, 0, none⟩) N N] w fun e w' => e = .returned (.tuple #[]) ∧ Below w0.heap.size w0 w'
   ∧ ∃ good : List Bool, good.length = N ∧ (∀ x, inL good x ↔ clos t (inL l) x) ∧ w'.ownsRow w0.heap.size 4 1 (.slice (some ⟨g, 0, none⟩) N N) N (good.map Value.bool) := by
 have HV := Lib.hid hv
 have HN := Lib.hid hN
 obtain ⟨lv, ev, hpl, -, -, -, q3, -, he⟩ := hp
 obtain ⟨ae, ce, rfl, hen, hec, hrow⟩ := he
 have HQ3 := Lib.hid q3
 have HR := Lib.hid hrow
 have hmost := hv.most
 have hNs : N ≤ 40 := by have := hv.st1; omega
 have HB := Lib.hid hb
 have HO := Lib.hid ho
 have hg0 : w0.heap.size ≤ g := (ho.lt _ rfl).1
 obtain ⟨B, hB⟩ : ∃ B, B = w0.heap.size := ⟨_, rfl⟩
 rw [← hB] at HO hg0 ⊢
 have HBE := Lib.hid hB
 clear hv hN hb ho q3 hrow hB
 go_enter Tryz.func65, Tryz.ntmps65
 go_wp2
 go_loopg [4] (2 * N + 1) (fun gk v4 w4 => ∃ (good : List Bool) (b : Bool), v4 = .bool b ∧ CloseRel t l N B g w0 w4 gk good b)
 case atStart =>
  refine ⟨l, true, rfl, hl, markB_ok t l, (fun h => by cases h), ?_, HB.out, HO.out⟩
  have := falses_le l; simp; omega
 case round =>
  obtain ⟨good, b, rfl, hrel⟩ := hrel
  have HG := Lib.hid hrel
  have hgl := hrel.len
  clear hrel HO HB
  cases b
  ·go_wp2
   go_end0
   exact ⟨rfl, by rw [HBE.out]; exact HG.out.below, good, hgl, fun x => rest_clos HV.out HG.out.ok (HG.out.done rfl) x, HG.out.own⟩
  ·go_wp2
   go_loopw [4, 5] (fun v4 v5 w5 => ∃ (k : Nat) (more : Bool) (good5 : List Bool), v4 = .bool more ∧ v5 = .int .i64 k ∧ k ≤ t.edges.length ∧ Sweep (tauPairs t) (markB l) good good5 k more
    ∧ Below w0.heap.size w0 w5 ∧ w5.ownsRow B 4 1 (.slice (some ⟨g, 0, none⟩) N N) N (good5.map Value.bool)) (fun _ v5 _ => t.edges.length - (intOf v5).toNat)
   case atStart => exact ⟨0, false, good, rfl, rfl, Nat.zero_le _, Sweep.start HG.out.ok, HG.out.below, HG.out.own⟩
   case round =>
    obtain ⟨k, more, good5, rfl, rfl, hk, hsw, hb5, ho5⟩ := hrel
    have HSW := Lib.hid hsw
    have HB5 := Lib.hid hb5
    have HO5 := Lib.hid ho5
    have hs5 := hb5.size
    have hl5 : good5.length = N := by rw [hsw.len, hgl]
    have q3 := keeps hb5 hpl HQ3.out
    clear hsw
    by_cases hlt : k < t.edges.length
    ·obtain ⟨be, oe, rfl, -, hbe, e1, e2, e3⟩ := (HR.out.below HB5.out).edge hlt
     have hkp : k < (tauPairs t).length := by rw [tauPairs_len]; exact hlt
     have hpg := tauPairs_get hkp hlt
     have hok := HV.out.edge k hlt
     have h1 := hok.s0
     have h2 := hok.s1
     have h3 := hok.d0
     have h4 := hok.d1
     have h5 := HN.out
     obtain ⟨e, hee⟩ : ∃ e, e = t.edges[k] := ⟨_, rfl⟩
     rw [← hee] at e1 e2 e3 hpg h1 h2 h3 h4
     obtain ⟨es, hes⟩ : ∃ es : Nat, (es : Int) = e.src := ⟨e.src.toNat, by omega⟩
     obtain ⟨ed, hed⟩ : ∃ ed : Nat, (ed : Int) = e.dst := ⟨e.dst.toNat, by omega⟩
     have hsn : es < N := by omega
     have hdn : ed < N := by omega
     obtain ⟨el, hel⟩ : ∃ el, el = e.lab := ⟨_, rfl⟩
     rw [← hes] at e1
     rw [← hed] at e3
     rw [← hel] at e2
     have HP : Hid ((tauPairs t)[k] = if el = 0 then (ed, es) else (0, 0)) := by
      unfold Hid
      rw [hpg]
      unfold tauPair
      rw [← hel, show e.dst.toNat = ed by omega, show e.src.toNat = es by omega]
     clear hpg hok h1 h2 h3 h4 h5 hee hes hed hel hb5 ho5
     by_cases hl0 : el = 0
     ·subst hl0
      have HP2 : Hid ((tauPairs t)[k] = (ed, es)) := HP.out
      cases hgs : good5.getD es false
      ·have HGS := Lib.hid (getD_some (by rw [hl5]; exact hsn) hgs)
       have cs := cell_bool (HO5.out.alloc (.cells #[.int .i64 es, .int .i64 0, .int .i64 ed] 59)) hsn
       rw [hgs] at cs
       clear hgs
       go_wp2
       go_roundw
       case rel => exact ⟨k + 1, more, good5, rfl, by go_num, by omega, HSW.out.skip hkp (fun h => by rw [HP2.out, HGS.out] at h; cases h), HB5.out.alloc hs5 _, HO5.out.alloc _⟩
       case measure => simp [intOf]; omega
      ·have HGS := Lib.hid (getD_some (by rw [hl5]; exact hsn) hgs)
       have cs := cell_bool (HO5.out.alloc (.cells #[.int .i64 es, .int .i64 0, .int .i64 ed] 59)) hsn
       rw [hgs] at cs
       clear hgs
       cases hgd : good5.getD ed false
       ·have HGD := Lib.hid (getD_some (by rw [hl5]; exact hdn) hgd)
        have cd := cell_bool (HO5.out.alloc (.cells #[.int .i64 es, .int .i64 0, .int .i64 ed] 59)) hdn
        rw [hgd] at cd
        have f1 := (HO5.out.alloc (.cells #[.int .i64 es, .int .i64 0, .int .i64 ed] 59)).frozenAt ed
        clear hgd
        go_wp2
        go_roundw
        case rel =>
         refine ⟨k + 1, true, good5.set ed true, rfl, by go_num, by omega, ?_, (HB5.out.alloc hs5 _).setCell (by rw [← HBE.out]; exact hg0) _, ?_⟩
         ·have := HSW.out.turn hkp (by rw [HP2.out]; exact HGS.out) (by rw [HP2.out]; exact HGD.out)
          rw [HP2.out] at this
          exact this
         ·rw [List.map_set]; exact ((HO5.out.alloc _).stored ed (.bool true)).1
        case measure => simp [intOf]; omega
       ·have HGD := Lib.hid (getD_some (by rw [hl5]; exact hdn) hgd)
        have cd := cell_bool (HO5.out.alloc (.cells #[.int .i64 es, .int .i64 0, .int .i64 ed] 59)) hdn
        rw [hgd] at cd
        clear hgd
        go_wp2
        go_roundw
        case rel => exact ⟨k + 1, more, good5, rfl, by go_num, by omega, HSW.out.skip hkp (fun _ => by rw [HP2.out]; exact HGD.out), HB5.out.alloc hs5 _, HO5.out.alloc _⟩
        case measure => simp [intOf]; omega
     ·have HP2 : Hid ((tauPairs t)[k] = (0, 0)) := by unfold Hid; rw [HP.out, if_neg hl0]
      go_wp2
      go_roundw
      case rel => exact ⟨k + 1, more, good5, rfl, by go_num, by omega, HSW.out.skip hkp (fun h => by rw [HP2.out] at h ⊢; exact h), HB5.out.alloc hs5 _, HO5.out.alloc _⟩
      case measure => simp [intOf]; omega
    ·obtain rfl : k = t.edges.length := by omega
     have HSE : Hid (Sweep (tauPairs t) (markB l) good good5 (tauPairs t).length more) := by unfold Hid; rw [tauPairs_len]; exact HSW.out
     clear hb5 ho5
     go_wp2
     go_roundg (2 * falses good5 + more.toNat)
     case measure =>
      have h1 := HG.out.left
      cases more
      ·have h2 := (HSE.out.no rfl).1
       rw [h2]
       simp only [Bool.toNat_true, Bool.toNat_false] at *
       omega
      ·have h2 := HSE.out.yes rfl
       simp only [Bool.toNat_true] at *
       omega
     case rel =>
      refine ⟨good5, more, rfl, hl5, HSE.out.ok, (fun h => ?_), Nat.le_refl _, HB5.out, HO5.out⟩
      subst h
      exact HSE.out.done

end Go.Proofs.YtmeibnhhlknbfaaGreatDoor

namespace Go.Proofs.YtmeibnhhlknbfaaGreatDoor
open Go Go.RowKit

theorem truesTo_is (l : List Bool) : IsSet (inL l) (truesTo l l.length) where
 mem x := by
  unfold truesTo inL
  rw [List.mem_map]
  constructor
  ·rintro ⟨i, hi, rfl⟩
   rw [List.mem_filter, List.mem_range] at hi
   refine ⟨by omega, ?_⟩
   rw [Int.toNat_natCast]
   exact getD_some hi.1 hi.2
  ·rintro ⟨h0, h1⟩
   have hlt := (List.getElem?_eq_some_iff.1 h1).1
   refine ⟨x.toNat, ?_, by omega⟩
   rw [List.mem_filter, List.mem_range]
   refine ⟨hlt, ?_⟩
   rw [List.getD_eq_getElem?_getD, h1]
   rfl
 asc := by
  unfold truesTo
  rw [List.pairwise_map]
  exact List.Pairwise.imp (fun h => by omega) (List.Pairwise.filter _ List.pairwise_lt_range)
theorem clos.congr {t : Lts} {S Q : Int → Prop} (h : ∀ x, S x ↔ Q x) (x : Int) : clos t S x ↔ clos t Q x := by
 have : S = Q := funext fun x => propext (h x)
 rw [this]
set_option maxRecDepth 100000 in
set_option maxHeartbeats 2000000 in
theorem l12First_any (p lo : Nat) (t : Lts) (w : World) (hv : Valid t) (hp : LtsPtr lo w p t) : Calls Tryz.prog 42 #[.pointer (some ⟨p, 0, none⟩)] w (MadeNums (firstS t) w) := by
 have HV := Lib.hid hv
 have HP := Lib.hid hp
 have hst1 := hv.st0
 have hst2 := hv.st1
 obtain ⟨lv, ev, hpl, q0, q1, -⟩ := hp
 obtain ⟨N, hN⟩ : ∃ N : Nat, (N : Int) = t.states := ⟨t.states.toNat, by omega⟩
 have hNN : t.states.toNat = N := by omega
 have HN := Lib.hid hN
 obtain ⟨w1, hw1⟩ : ∃ w1, w1 = w.alloc (.cells #[.int .i64 t.initial] 2) := ⟨_, rfl⟩
 have HB1 : Hid (Below w.heap.size w w1) := by unfold Hid; rw [hw1]; exact (Below.refl _ _).alloc (Nat.le_refl _) _
 have HS1 : Hid (SliceK 1 encI w.heap.size w1 (.slice (some ⟨w.heap.size, 0, none⟩) 1 1) [t.initial]) := by
  unfold Hid
  rw [hw1]
  exact SliceK.of_owns (enc := encI) (e := 2) (fun _ => rfl) rfl (by rw [flat_encI]; exact World.ownsRow_lit (size := 1) w #[.int .i64 t.initial] 1 (Nat.le_refl _) (by decide) rfl)
 have HC := Lib.hid (l12Marks_any p lo w.heap.size t _ [t.initial] w1 hst1 hst2 (fun x hx => by rw [List.mem_singleton] at hx; subst hx; exact ⟨hv.in0, hv.in1⟩) (HP.out.below HB1.out) HS1.out)
 rw [hNN] at HC
 clear hv hN hNN
 go_enter Tryz.func42, Tryz.ntmps42
 go_wp2_with fail
 rw [← hw1]
 refine Calls.mono HC.out ?_
 rintro e2 w2 ⟨g, l, rfl, hm, hb2, ho2⟩
 have HM := Lib.hid hm
 have HB2 := Lib.hid hb2
 have HCL := Lib.hid (l12Close_any p lo g N t l w1 w2 HV.out hm.1 HN.out (HP.out.below HB1.out) hb2 ho2)
 clear hm hb2 ho2 HC
 go_wp2_with fail
 refine Calls.mono HCL.out ?_
 rintro e3 w3 ⟨rfl, hb3, good, hgl, hgc, ho3⟩
 have HGC := Lib.hid hgc
 have HB3 := Lib.hid (HB1.out.trans (hb3.mono HB1.out.size))
 have HS3 := Lib.hid (SliceK.of_owns (enc := encB) (e := 4) (xs := good) encB_len hgl.symm (by rw [flat_encB]; exact ho3))
 have HC4 := Lib.hid (l14List_any w1.heap.size _ good w3 (by have := HN.out; omega) HS3.out)
 clear hb3 hgc ho3 HCL
 go_wp2_with fail
 refine Calls.mono HC4.out ?_
 rintro e4 w4 ⟨v4, rfl, hb4, ho4⟩
 have hset : truesTo good good.length = firstS t := by
  refine (truesTo_is good).unique ((firstS_is HV.out).congr fun x => ?_)
  rw [HGC.out x]
  refine (clos.congr (fun y => ?_) x).symm
  rw [HM.out.2 y, List.mem_singleton]
 have HO4 := Lib.hid (own_lower ho4 HB3.out.size)
 have HB4 := Lib.hid (HB3.out.trans (hb4.mono HB3.out.size))
 rw [hset] at HO4
 clear hb4 ho4 HC4 hset
 go_wp2
 go_ret
 exact ⟨_, rfl, HB4.out, HO4.out⟩

/-- True just at what the first j edges with the number k lead to from cur. -/
def BehindTo (t : Lts) (cur : List Int) (k : Int) (n j : Nat) (l : List Bool) : Prop := l.length = n ∧ ∀ x, inL l x ↔ ∃ e ∈ t.edges.take j, e.lab = k ∧ e.src ∈ cur ∧ e.dst = x
theorem BehindTo.start (t : Lts) (cur : List Int) (k : Int) (n : Nat) : BehindTo t cur k n 0 (List.replicate n false) :=
 ⟨List.length_replicate, fun x => ⟨fun h => by have := ((MarkOf.start n).2 x).1 h; simp at this, fun ⟨e, he, _⟩ => by simp at he⟩⟩
theorem BehindTo.skip {t : Lts} {cur : List Int} {k : Int} {n j : Nat} {l : List Bool} (h : BehindTo t cur k n j l) (hj : j < t.edges.length) (hno : ¬ (t.edges[j].lab = k ∧ t.edges[j].src ∈ cur)) : BehindTo t cur k n (j + 1) l := by
 refine ⟨h.1, fun x => ?_⟩
 rw [h.2 x, List.take_succ_eq_append_getElem hj]
 constructor
 ·rintro ⟨e, he, r⟩
  exact ⟨e, List.mem_append.2 (.inl he), r⟩
 ·rintro ⟨e, he, h1, h2, h3⟩
  rcases List.mem_append.1 he with he | he
  ·exact ⟨e, he, h1, h2, h3⟩
  ·rw [List.mem_singleton] at he
   subst he
   exact absurd ⟨h1, h2⟩ hno
theorem BehindTo.turn {t : Lts} {cur : List Int} {k : Int} {n j : Nat} {l : List Bool} (h : BehindTo t cur k n j l) (hj : j < t.edges.length) (h1 : t.edges[j].lab = k) (h2 : t.edges[j].src ∈ cur) {d : Nat} (hd : (d : Int) = t.edges[j].dst) (hn : d < n) :
  BehindTo t cur k n (j + 1) (l.set d true) := by
 refine ⟨by rw [List.length_set]; exact h.1, fun x => ?_⟩
 rw [List.take_succ_eq_append_getElem hj]
 unfold inL
 rw [set_true_get (by have := h.1; omega)]
 constructor
 ·rintro ⟨hy, h3 | h3⟩
  ·exact ⟨_, List.mem_append.2 (.inr (List.mem_singleton.2 rfl)), h1, h2, by omega⟩
  ·obtain ⟨e, he, r⟩ := (h.2 x).1 ⟨hy, h3⟩
   exact ⟨e, List.mem_append.2 (.inl he), r⟩
 ·rintro ⟨e, he, h3, h4, h5⟩
  rcases List.mem_append.1 he with he | he
  ·have := (h.2 x).2 ⟨e, he, h3, h4, h5⟩
   exact ⟨this.1, .inr this.2⟩
  ·rw [List.mem_singleton] at he
   subst he
   exact ⟨by omega, .inl (by omega)⟩

set_option maxRecDepth 100000 in
set_option maxHeartbeats 4000000 in
theorem l12Next_any (p lo lo2 : Nat) (t : Lts) (v : Value) (cur : List Int) (q : Int) (w : World) (hv : Valid t) (hp : LtsPtr lo w p t) (hs : SliceK 1 encI lo2 w v cur) :
  Calls Tryz.prog 44 #[.pointer (some ⟨p, 0, none⟩), v, .int .i64 q] w (MadeNums (nextS t cur q) w) := by
 have HV := Lib.hid hv
 have HP := Lib.hid hp
 have HS := Lib.hid hs
 have hst1 := hv.st0
 have hst2 := hv.st1
 have hmost := hv.most
 obtain ⟨lv, ev, hpl, q0, -, -, q3, -, he⟩ := hp
 obtain ⟨ae, ce, rfl, hen, hec, hrow⟩ := he
 obtain ⟨a, cap, rfl, hn, hcap, -⟩ := hs
 obtain ⟨N, hN⟩ : ∃ N : Nat, (N : Int) = t.states := ⟨t.states.toNat, by omega⟩
 rw [← hN] at q0 hst1 hst2
 have HN := Lib.hid hN
 have HQ3 := Lib.hid q3
 have HR := Lib.hid hrow
 obtain ⟨ib, hib, hzb0, hzb1, hzb2⟩ := info_parts info_bool16
 clear hv hN hrow
 go_enter Tryz.func44, Tryz.ntmps44
 go_wp2_with (at_make; refine wpList_make_full _ rfl _ _ 75 rfl w.heap.size 4 ib _ 1 Tryz.underlying75 hib hzb0 hzb1 .i64 .i64 _ _ N rfl rfl rfl rfl ?_ ?_ ?_ ?_)
 ·rw [hzb2]; omega
 ·simp [maxLen]; omega
 ·exact Nat.le_refl _
 intro w1 ho hg
 rw [toList_madeCells_one] at ho
 obtain ⟨G, hG⟩ : ∃ G, G = w.heap.size := ⟨_, rfl⟩
 have HB1 : Hid (Below w.heap.size w w1) := (Below.refl _ w).grown hg (Nat.le_refl _) (fun _ h => by cases h)
 rw [← hG] at ho ⊢
 have HO : Hid (w1.ownsRow G 4 1 (.slice (some ⟨G, 0, none⟩) N N) N ((List.replicate N false).map Value.bool)) := by
  unfold Hid; simpa using ho
 have HG := Lib.hid hG
 clear ho hg hG hib hzb0 hzb1 hzb2 q0 q3
 go_wp2
 go_loopw [8] (fun i wr => ∃ (k : Nat) (l : List Bool), k ≤ t.edges.length ∧ i = .int .i64 k ∧ BehindTo t cur q N k l ∧ Below w.heap.size w wr ∧ wr.ownsRow G 4 1 (.slice (some ⟨G, 0, none⟩) N N) N (l.map Value.bool)) (fun i _ => t.edges.length - (intOf i).toNat)
 case atStart => exact ⟨0, List.replicate N false, Nat.zero_le _, rfl, BehindTo.start t cur q N, HB1.out, HO.out⟩
 case round =>
  clear HO HB1
  obtain ⟨k, l, hk, rfl, hm, hbl, ho⟩ := hrel
  have HM := Lib.hid hm
  have HBL := Lib.hid hbl
  have HO := Lib.hid ho
  have hll := hm.1
  have q3 := keeps hbl hpl HQ3.out
  clear hbl ho hm
  by_cases hlt : k < t.edges.length
  ·obtain ⟨be, oe, rfl, -, hbe, e1, e2, e3⟩ := (HR.out.below HBL.out).edge hlt
   have hok := HV.out.edge k hlt
   have h3 := hok.d0
   have h4 := hok.d1
   have h5 := HN.out
   obtain ⟨e, hee⟩ : ∃ e, e = t.edges[k] := ⟨_, rfl⟩
   rw [← hee] at e1 e2 e3 h3 h4
   have HE := Lib.hid hee
   obtain ⟨ed, hed⟩ : ∃ ed : Nat, (ed : Int) = e.dst := ⟨e.dst.toNat, by omega⟩
   have hdn : ed < N := by omega
   rw [← hed] at e3
   have HED := Lib.hid hed
   obtain ⟨es, hes⟩ : ∃ es, es = e.src := ⟨_, rfl⟩
   obtain ⟨el, hel⟩ : ∃ el, el = e.lab := ⟨_, rfl⟩
   rw [← hes] at e1
   rw [← hel] at e2
   have HES := Lib.hid hes
   have HEL := Lib.hid hel
   clear hok h3 h4 h5 hee hed hes hel
   by_cases hq : el = q
   ·subst hq
    have HH := Lib.hid (l00Has_any lo2 _ cur es wr (HS.out.below HBL.out))
    obtain ⟨c, hc⟩ : ∃ c, c = cur.contains es := ⟨_, rfl⟩
    rw [← hc] at HH
    have HC := Lib.hid hc
    clear hc
    go_wp2_with fail
    refine Calls.mono HH.out ?_
    rintro e0 w2 ⟨rfl, hb2⟩
    have HB2 := Lib.hid (HBL.out.trans (hb2.mono HBL.out.size))
    have HO1 := Lib.hid (owns_below HO.out hb2)
    replace q3 := keeps hb2 (by have := HBL.out.size; omega) q3
    have hbe2 : be < w2.heap.size := Nat.lt_of_lt_of_le hbe hb2.size
    replace e3 := keeps hb2 hbe e3
    clear HH hb2 e1 e2 HBL HO
    cases c
    ·go_wp2
     go_roundw
     case rel =>
      refine ⟨k + 1, l, by omega, by go_num, HM.out.skip hlt (fun h => ?_), HB2.out, HO1.out⟩
      rw [← HE.out, ← HES.out] at h
      have h2 := HC.out
      rw [List.contains_iff_mem.2 h.2] at h2
      cases h2
     case measure => simp [intOf]; omega
    ·have HO2 := Lib.hid (HO1.out.stored ed (.bool true)).1
     have c2 := cell_bool HO1.out hdn
     have c3 := HO1.out.frozenAt ed
     go_wp2
     go_roundw
     case rel =>
      refine ⟨k + 1, l.set ed true, by omega, by go_num, ?_, HB2.out.setCell (by rw [HG.out]; exact Nat.le_refl _) _, ?_⟩
      ·refine HM.out.turn hlt ?_ ?_ ?_ hdn
       ·rw [← HE.out]; exact HEL.out.symm
       ·rw [← HE.out, ← HES.out]; exact List.contains_iff_mem.1 HC.out.symm
       ·rw [← HE.out]; exact HED.out
      ·rw [List.map_set]; exact HO2.out
     case measure => simp [intOf]; omega
   ·go_wp2
    go_roundw
    case rel =>
     refine ⟨k + 1, l, by omega, by go_num, HM.out.skip hlt (fun h => hq ?_), HBL.out, HO.out⟩
     rw [← HE.out, ← HEL.out] at h
     exact h.1
    case measure => simp [intOf]; omega
  ·obtain rfl : k = t.edges.length := by omega
   have HCL := Lib.hid (l12Close_any p lo G N t l w wr HV.out hll HN.out HP.out HBL.out (by rw [← HG.out]; exact HO.out))
   go_wp2_with fail
   refine Calls.mono HCL.out ?_
   rintro e3 w3 ⟨rfl, hb3, good, hgl, hgc, ho3⟩
   have HGC := Lib.hid hgc
   have HB3 := Lib.hid hb3
   have HS3 := Lib.hid (SliceK.of_owns (enc := encB) (e := 4) (xs := good) encB_len hgl.symm (by rw [flat_encB]; exact ho3))
   have HC4 := Lib.hid (l14List_any w.heap.size _ good w3 (by omega) HS3.out)
   clear hb3 hgc ho3 HCL
   go_wp2_with fail
   refine Calls.mono HC4.out ?_
   rintro e4 w4 ⟨v4, rfl, hb4, ho4⟩
   have hset : truesTo good good.length = nextS t cur q := by
    refine (truesTo_is good).unique ((nextS_is HV.out cur q).congr fun x => ?_)
    rw [HGC.out x]
    refine (clos.congr (fun y => ?_) x).symm
    rw [HM.out.2 y, List.take_length]
    rfl
   have HO4 := Lib.hid (own_lower ho4 HB3.out.size)
   have HB4 := Lib.hid (HB3.out.trans (hb4.mono HB3.out.size))
   rw [hset] at HO4
   clear hb4 ho4 HC4 hset
   go_wp2
   go_ret
   exact ⟨_, rfl, HB4.out, HO4.out⟩

end Go.Proofs.YtmeibnhhlknbfaaGreatDoor

namespace Go.Proofs.YtmeibnhhlknbfaaGreatDoor
open Go Go.RowKit

/-- The two lists of the net. -/
def DMem (B : Nat) (st : DNet) (vr ve : Value) (w : World) : Prop :=
 (∃ vs, OwnIntss 28 2 B w vr vs st.rows) ∧ w.ownsRow B 59 3 ve st.edges.length (st.edges.flatMap encE)
theorem DMem.below {B : Nat} {st : DNet} {vr ve : Value} {w w' : World} (h : DMem B st vr ve w) (hb : Below w.heap.size w w') : DMem B st vr ve w' := by
 obtain ⟨⟨vs, h1⟩, h2⟩ := h
 exact ⟨⟨vs, h1.below hb⟩, owns_below h2 hb⟩

theorem DMem.start {W : World} {B B2 : Nat} {rv : Value} {xs : List Int} (hB : B ≤ B2) (hB2 : B ≤ W.heap.size) (hr : W.ownsRow B2 2 1 rv xs.length (xs.map (Value.int .i64))) :
  DMem B ⟨[xs], []⟩ (.slice (some ⟨W.heap.size, 0, none⟩) 1 1) (.slice (some ⟨W.heap.size + 1, 0, none⟩) 0 0) ((W.alloc (.cells #[rv] 28)).alloc (.cells #[] 59)) := by
 have hlt := hr.lt
 obtain ⟨W2, hW2⟩ : ∃ W2, W2 = W.alloc (.cells #[rv] 28) := ⟨_, rfl⟩
 have hs2 : W2.heap.size = W.heap.size + 1 := by rw [hW2]; simp
 have r2 : W2.ownsRow B 28 1 (.slice (some ⟨W.heap.size, 0, none⟩) 1 1) 1 [rv] := by
  rw [hW2]; exact World.ownsRow_lit (size := 1) W #[rv] 1 hB2 (by decide) rfl
 have r1 : W2.ownsRow B 2 1 rv xs.length (xs.map (Value.int .i64)) := by
  rw [hW2]; exact own_lower (hr.alloc _) hB
 rw [← hW2, ← hs2]
 clear hW2
 refine ⟨⟨[rv], rfl, r2.alloc _, ?_, ?_, ?_⟩, World.ownsRow_lit (size := 3) W2 #[] 0 (by omega) (by decide) rfl⟩
 ·intro i hi hi'
  obtain rfl : i = 0 := by simp at hi; omega
  simpa using r1.alloc _
 ·intro i j hi hj hij
  simp at hi hj
  omega
 ·intro i hi
  obtain rfl : i = 0 := by simp at hi; omega
  show rv.ownBlock = none ∨ rv.ownBlock ≠ some W.heap.size
  cases hb : rv.ownBlock with
  | none => exact .inl rfl
  | some b =>
   refine .inr fun e => ?_
   have := (hlt b hb).2
   have := Option.some.inj e
   omega

theorem DMem.push_row {B B2 : Nat} {st : DNet} {xs : List Int} {vr ve v' rv : Value} {wC wF w1 : World} {vs : List Value} (hr : OwnIntss 28 2 B wC vr vs st.rows) (he : wC.ownsRow B 59 3 ve st.edges.length (st.edges.flatMap encE))
  (hb : Below wC.heap.size wC wF) (hrow : wF.ownsRow B2 2 1 rv xs.length (xs.map (Value.int .i64))) (hB2 : wC.heap.size ≤ B2) (hB : B ≤ wC.heap.size) (hg : wF.grownBy w1 vr.ownBlock) (hv : w1.ownsRow B 28 1 v' (vs.length + 1) (vs ++ [rv])) :
  DMem B ⟨st.rows ++ [xs], st.edges⟩ v' ve w1 := by
 refine ⟨⟨vs ++ [rv], ?_⟩, ?_⟩
 ·exact OwnIntss.push (B := B2) (xs := xs) (by decide) hr hB2 hb hrow (Nat.le_trans hB hB2) hg hv
 ·exact (owns_below he hb).kept hg (own_types (owns_below he hb) (owns_below hr.2.1 hb) (by decide))

theorem DMem.push_edge {B : Nat} {st : DNet} {e : Edge} {vr ve v' : Value} {wE wF w1 : World} (h : DMem B st vr ve wE) (hb : Below wE.heap.size wE wF) (hg : wF.grownBy w1 ve.ownBlock)
  (hv : w1.ownsRow B 59 3 v' (st.edges.length + 1) (st.edges.flatMap encE ++ encE e)) : DMem B ⟨st.rows, st.edges ++ [e]⟩ vr v' w1 := by
 obtain ⟨⟨vs, h1⟩, h2⟩ := h.below hb
 refine ⟨⟨vs, h1.kept hg (own_types h1.2.1 h2 (by decide)) (fun i hi => ?_)⟩, ?_⟩
 ·exact own_types (h1.2.2.1 i hi (by rw [← h1.1]; exact hi)) h2 (by decide)
 ·simpa using hv

/-- One row as a slice. -/
theorem OwnIntss.rowAt {eo ei lo : Nat} {w : World} {v : Value} {vs : List Value} {rows : List (List Int)} (h : OwnIntss eo ei lo w v vs rows) {n : Nat} (hn : n < rows.length) :
  ∃ b c u, v = .slice (some ⟨b, 0, none⟩) rows.length c ∧ b < w.heap.size ∧ w.cell? ⟨b, n, none⟩ = some u ∧ w.ownsRow lo ei 1 u rows[n].length (rows[n].map (Value.int .i64)) ∧ SliceK 1 encI lo w u rows[n] := by
 obtain ⟨h1, h2, h3, -, -⟩ := h
 have hnv : n < vs.length := by omega
 have h4 := h3 n hnv hn
 rcases h2.2 with ⟨-, h⟩ | ⟨b, c, cur, rfl, -, hg, -⟩
 ·omega
 ·have hl := (Array.getElem?_eq_some_iff.1 hg).1
  have c1 := h2.cellAt n (by omega)
  rw [List.getElem?_eq_getElem hnv] at c1
  exact ⟨b, c, vs[n], by rw [h1], hl, c1, h4, SliceK.of_owns (enc := encI) encI_len rfl (by rw [flat_encI]; exact h4)⟩

end Go.Proofs.YtmeibnhhlknbfaaGreatDoor

namespace Go.Proofs.YtmeibnhhlknbfaaGreatDoor
open Go Go.RowKit

theorem info_ints19 : (Tryz.prog.info? 28).map (fun i => (i.zero, i.size, i.bytes)) = some (some (.slice none 0 0), 1, 24) := by kernel_rfl
theorem info_edge19 : (Tryz.prog.info? 59).map (fun i => (i.zero, i.size, i.bytes)) = some (some (.agg #[.int .i64 0, .int .i64 0, .int .i64 0]), 3, 24) := by kernel_rfl
theorem info_str19 : (Tryz.prog.info? 9).map (fun i => (i.zero, i.size, i.bytes)) = some (some (.string ⟨#[]⟩), 1, 16) := by kernel_rfl

/-- The cells of a row of texts. -/
theorem row_news {w : World} {b o : Nat} {xs : List ByteArray} (h : ∀ i (h : i < xs.length) j, j < 1 → w.cell? ⟨b, o + i * 1 + j, none⟩ = (encS xs[i])[j]?) :
  ∀ j u, (xs.map Value.string)[j]? = some u → w.cell? ((⟨b, o, none⟩ : Addr).add j) = some u := by
 intro j u hu
 rw [List.getElem?_map, Option.map_eq_some_iff] at hu
 obtain ⟨x, hx, rfl⟩ := hu
 obtain ⟨hj, rfl⟩ := List.getElem?_eq_some_iff.1 hx
 have := h j hj 0 (by omega)
 by_cases h0 : j = 0
 ·subst h0
  simpa [encS, Addr.add] using this
 ·simpa [encS, Addr.add, h0] using this
theorem add_block (b o j : Nat) : ((⟨b, o, none⟩ : Addr).add j).block = b := by unfold Addr.add; split <;> rfl

end Go.Proofs.YtmeibnhhlknbfaaGreatDoor
