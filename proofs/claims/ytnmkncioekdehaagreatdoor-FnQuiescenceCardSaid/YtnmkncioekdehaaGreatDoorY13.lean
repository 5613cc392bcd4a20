/-
  The reference's drawer of a pair of systems: what stands while it draws.
-/
import Derived.Test.YtnmkncioekdehaaGreatDoorY12
import Derived.Test.YtnmkncioekdehaaGreatDoorY6
import Derived.Deep.RegionLaw
import Derived.Deep.RegionHeld3
namespace Go.Proofs.YtnmkncioekdehaaGreatDoor
open Go Go.RowKit


theorem riseE_validD {t : Lts} (hv : Valid t) : RiseE t.edges := by
 unfold RiseE
 rw [List.pairwise_iff_getElem]
 intro i j hi hj hij
 induction j with
 | zero => omega
 | succ j ih =>
  have h1 := hv.rise j hj
  rcases Nat.lt_or_ge i j with hlt | hge
  ·have h2 := ih (by omega) hlt
   rw [edgeLess_iff] at *
   omega
  ·obtain rfl : i = j := by omega
   exact h1
theorem own_takeD {w : World} {base e sz n g c : Nat} {xs : List Value} (h : w.ownsRow base e sz (.slice (some ⟨g, 0, none⟩) n c) n xs) {k : Nat} (hk : k ≤ n) : w.ownsRow base e sz (.slice (some ⟨g, 0, none⟩) k c) k (xs.take (k * sz)) := by
 rcases h.2 with ⟨h0, -⟩ | ⟨g', cap, cur, hv, hb, hg, hn, hm, hs, ht⟩
 ·cases h0
 ·simp only [Value.slice.injEq, Option.some.injEq, Addr.mk.injEq, and_true, true_and] at hv
  obtain ⟨rfl, rfl⟩ := hv
  have hle : k * sz ≤ n * sz := Nat.mul_le_mul_right _ hk
  refine ⟨by rw [List.length_take, h.1]; exact Nat.min_eq_left hle, .inr ⟨g, c, cur, rfl, hb, hg, by omega, hm, hs, ?_⟩⟩
  rw [← ht, List.take_take, Nat.min_eq_left hle]
theorem own_capD {w : World} {base e sz n g c : Nat} {xs : List Value} (h : w.ownsRow base e sz (.slice (some ⟨g, 0, none⟩) n c) n xs) : n ≤ c := by
 rcases h.2 with ⟨h0, -⟩ | ⟨g', cap, cur, hv, hb, hg, hn, hm, hs, ht⟩
 ·cases h0
 ·simp only [Value.slice.injEq, Option.some.injEq, Addr.mk.injEq, and_true, true_and] at hv
  obtain ⟨rfl, rfl⟩ := hv
  exact hn
theorem flat_take3 : ∀ (E : List Edge) (k : Nat), (E.flatMap encE).take (k * 3) = (E.take k).flatMap encE
 | [], k => by simp
 | _ :: _, 0 => by simp
 | x :: E, k + 1 => by
  have ih := flat_take3 E k
  rw [show (k + 1) * 3 = k * 3 + 3 by omega]
  simp only [List.flatMap_cons, encE, List.cons_append, List.nil_append, List.take_succ_cons]
  exact congrArg _ (congrArg _ (congrArg _ ih))
theorem flat_drop3 : ∀ (E : List Edge) (k : Nat), (E.flatMap encE).drop (k * 3) = (E.drop k).flatMap encE
 | [], k => by simp
 | _ :: _, 0 => by simp
 | x :: E, k + 1 => by
  have ih := flat_drop3 E k
  rw [show (k + 1) * 3 = k * 3 + 3 by omega]
  simp only [List.flatMap_cons, encE, List.cons_append, List.nil_append, List.drop_succ_cons]
  exact ih
theorem encE_oneD (E : List Edge) : ∀ u ∈ E.flatMap encE, u.oneCell' = true := by
 intro u hu
 obtain ⟨x, -, hx⟩ := List.mem_flatMap.1 hu
 simp only [encE, List.mem_cons, List.not_mem_nil, or_false] at hx
 rcases hx with rfl | rfl | rfl <;> rfl
/-- At a step of a drawn region: an append that fits: the row grows in its place. -/
theorem step_fitsD (w : World) {ops : Array Oper} {o : Oper} {a : Act} {K : Act → World → Prop} {Q : Exit → Act → World → Prop} {F : Prop} (hgd : o.guard = none) (s x : Operand) (t : TypeId)
  (hop : o.op = Op.call { callee := Callee.builtin Builtin.append, args := #[s, x], argTypes := #[t, t] })
  (base : Nat) (e : TypeId) (i : TypeInfo) (size : Nat) (h1 : Tryz.prog.underlying t = some (.slice e)) (h2 : Tryz.prog.info? e = some i) (h4 : i.size = size)
  (g k cap : Nat) (xs : List Value) (hs : a.eval s = .slice (some ⟨g, 0, none⟩) k cap) (hown : w.ownsRow base e size (.slice (some ⟨g, 0, none⟩) k cap) k xs) (ad : Addr) (m c : Nat) (news : List Value) (hx : a.eval x = .slice (some ad) m c) (hn : news.length = m * size)
  (hc : ∀ j u, news[j]? = some u → w.cell? (ad.add j) = some u) (h1c : ∀ u ∈ news, u.oneCell' = true) (b1 : k + m ≤ cap)
  (hK : ∀ w', w'.ownsRow base e size (.slice (some ⟨g, 0, none⟩) (k + m) cap) (k + m) (xs ++ news) → w.grownBy w' (some g) → K (a.put o.dst (.slice (some ⟨g, 0, none⟩) (k + m) cap)) w') :
  if Region.wanted o (yielded ops a.tmps) = true then Oper.wp Tryz.prog o a w K Q else F := by
 have hw : Region.wanted o (yielded ops a.tmps) = true := by simp [Region.wanted, hgd]
 rw [if_pos hw]
 obtain ⟨w', hrun, r1, r2⟩ := run_append_fits (P := Tryz.prog) w base t o.type e i size h1 h2 h4 g k cap xs hown ad m c news hn hc h1c b1
 unfold Oper.wp execOp
 simp only [hop, resolve, invoke, builtin, Sem.run_bind, Sem.run_pure, Result.andThen_ok, List.map_toArray, List.map_cons, List.map_nil, hs, hx, hrun]
 exact hK w' r1 r2
theorem slice_fromD (T e : TypeId) (s : Nat) (hT : Tryz.prog.underlying T = some (.slice e)) (hs : ∀ w, (sizeOf e).run Tryz.prog w = .ok s w) (g n c k : Nat) (hk : k + 1 ≤ n) (w : World) :
  (Instr.slice T (.slice (some ⟨g, 0, none⟩) n c) (some (.int .i64 ((k : Int) + 1))) none none).run Tryz.prog w = .ok (.slice (some ⟨g, if c = k + 1 then 0 else (k + 1) * s, none⟩) (n - (k + 1)) (c - (k + 1))) w := by
 have hel : Tryz.prog.elem T = e := by simp [Program.elem, hT]
 rw [run_slice_l w T (some ⟨g, 0, none⟩) n c (by rw [hel]; exact hT) .i64 ((k : Int) + 1) (by omega) (by omega), hel, hs]
 have ht : ((k : Int) + 1).toNat = k + 1 := by omega
 simp only [Result.andThen, sliced, ht]
 by_cases h : c = k + 1
 ·simp [h]
 ·simp [h, Addr.add_lit]
/-- The cells behind a place of a row. -/
theorem cells_fromD {w : World} {base e sz g n c k : Nat} {xs : List Value} (h : w.ownsRow base e sz (.slice (some ⟨g, 0, none⟩) n c) n xs) (hk : k + 1 ≤ n) (hnc : n ≤ c) {o : Nat} (ho : o = (if c = k + 1 then 0 else (k + 1) * sz)) :
  ∀ j u, (xs.drop ((k + 1) * sz))[j]? = some u → w.cell? ((⟨g, o, none⟩ : Addr).add j) = some u := by
 intro j u hu
 have hlen := h.1
 have hj : (k + 1) * sz + j < n * sz := by
  have h1 := (List.getElem?_eq_some_iff.1 hu).1
  rw [List.length_drop, hlen] at h1
  omega
 have hne : c ≠ k + 1 := by
  intro e1
  have : n = k + 1 := by omega
  subst this
  omega
 rw [if_neg hne] at ho
 rw [Addr.add_lit, ho, h.cellAt _ hj]
 rw [List.getElem?_drop] at hu
 exact hu
theorem rise_eraseD {E : List Edge} (h : RiseE E) (k : Nat) : RiseE (E.eraseIdx k) := List.Pairwise.sublist (List.eraseIdx_sublist _ _) h

/-- What stands while a pair is drawn: the first system. -/
structure PEnv (sb m ra rc ab : Nat) (a : Lts) (la ea : Value) (w0 w : World) : Prop where
 drew : Drew sb m w0 w
 sbl : sb < w0.heap.size
 own : OwnLts w0.heap.size w la ea a
 abox : Blk w ab [.int .i64 a.states, .int .i64 a.initial, la, ea] 27
 rbox : Blk w ra [.int .i64 0, .int .i64 0, .slice none 0 0, .slice none 0 0] 27
 cbox : Blk w rc [.int .i64 0, .int .i64 0, .slice none 0 0, .slice none 0 0] 27
 abl : w0.heap.size ≤ ab
 ral : w0.heap.size ≤ ra
 rcl : w0.heap.size ≤ rc
 nar : ab ≠ ra
 nac : ab ≠ rc
 nrc : ra ≠ rc
section
variable {sb m ra rc ab : Nat} {a : Lts} {la ea : Value} {w0 w w' : World}
theorem PEnv.then {m' : Nat} (h : PEnv sb m ra rc ab a la ea w0 w) (hd : Drew sb m' w w') : PEnv sb m' ra rc ab a la ea w0 w' :=
 ⟨h.drew.trans hd, h.sbl, ⟨hd.own h.own.1 h.sbl, hd.own h.own.2 h.sbl⟩, hd.blk h.abox (by have := h.abl; have := h.sbl; omega), hd.blk h.rbox (by have := h.ral; have := h.sbl; omega), hd.blk h.cbox (by have := h.rcl; have := h.sbl; omega), h.abl, h.ral, h.rcl, h.nar, h.nac, h.nrc⟩
theorem PEnv.below (h : PEnv sb m ra rc ab a la ea w0 w) (hb : Below w.heap.size w w') : PEnv sb m ra rc ab a la ea w0 w' :=
 ⟨h.drew.below hb, h.sbl, h.own.below hb, h.abox.below hb, h.rbox.below hb, h.cbox.below hb, h.abl, h.ral, h.rcl, h.nar, h.nac, h.nrc⟩
theorem PEnv.mono {m' : Nat} (h : PEnv sb m ra rc ab a la ea w0 w) (hm : m ≤ m') : PEnv sb m' ra rc ab a la ea w0 w := ⟨h.drew.mono hm, h.sbl, h.own, h.abox, h.rbox, h.cbox, h.abl, h.ral, h.rcl, h.nar, h.nac, h.nrc⟩
end
/-- What comes back. -/
def RetPair (sb m : Nat) (w : World) (e : Ending) (w' : World) : Prop :=
 ∃ (a b : Lts) (la ea lb eb : Value), e = .returned (.tuple #[.agg #[.int .i64 a.states, .int .i64 a.initial, la, ea], .agg #[.int .i64 b.states, .int .i64 b.initial, lb, eb]]) ∧ Drew sb m w w' ∧ OwnLts w.heap.size w' la ea a ∧ OwnLts w.heap.size w' lb eb b ∧ (∀ l ∈ a.labels, l.size ≤ 6) ∧ ∀ l ∈ b.labels, l.size ≤ 6
theorem RetPair.drew {sb m : Nat} {w w' : World} {e : Ending} (h : RetPair sb m w e w') : RetPair sb m w e w'.drew := by
 obtain ⟨a, b, la, ea, lb, eb, he, hd, ha, hb, h6⟩ := h
 have hB : Below w'.heap.size w' w'.drew := (Below.refl _ _).drew
 exact ⟨a, b, la, ea, lb, eb, he, hd.below hB, ha.below hB, hb.below hB, h6⟩
theorem blk_drewD {w : World} {b : Nat} {cs : List Value} {t : TypeId} (h : Blk w b cs t) : Blk w.drew b cs t := h
theorem PEnv.fin {sb m ra rc ab : Nat} {a : Lts} {la ea : Value} {w0 w : World} (h : PEnv sb m ra rc ab a la ea w0 w) {b : Lts} {lb eb : Value} (hb : OwnLts w0.heap.size w lb eb b) (ha6 : ∀ l ∈ a.labels, l.size ≤ 6) (hb6 : ∀ l ∈ b.labels, l.size ≤ 6) {v0 v1 v2 v3 u0 u1 u2 u3 : Value} :
  RetPair sb m w0 (.returned (.tuple #[.agg #[.int .i64 a.states, .int .i64 a.initial, la, ea], .agg #[.int .i64 b.states, .int .i64 b.initial, lb, eb]])) ((((((((w.setCell ⟨ra, 0, none⟩ v0).setCell ⟨ra, 1, none⟩ v1).setCell ⟨ra, 2, none⟩ v2).setCell ⟨ra, 3, none⟩ v3).setCell ⟨rc, 0, none⟩ u0).setCell ⟨rc, 1, none⟩ u1).setCell ⟨rc, 2, none⟩ u2).setCell ⟨rc, 3, none⟩ u3) := by
 have hc1 : Blk ((((w.setCell ⟨ra, 0, none⟩ v0).setCell ⟨ra, 1, none⟩ v1).setCell ⟨ra, 2, none⟩ v2).setCell ⟨ra, 3, none⟩ v3) rc [.int .i64 0, .int .i64 0, .slice none 0 0, .slice none 0 0] 27 := blk_put4D h.cbox (fun e => h.nrc e.symm)
 refine ⟨a, b, la, ea, lb, eb, rfl, ?_, ⟨own_put4D hc1 (own_put4D h.rbox h.own.1 (by decide)) (by decide), own_put4D hc1 (own_put4D h.rbox h.own.2 (by decide)) (by decide)⟩, ⟨own_put4D hc1 (own_put4D h.rbox hb.1 (by decide)) (by decide), own_put4D hc1 (own_put4D h.rbox hb.2 (by decide)) (by decide)⟩, ha6, hb6⟩
 exact drew_put4 (drew_put4 h.drew h.ral h.sbl) h.rcl h.sbl
theorem blk_blk_neQ {w : World} {b c : Nat} {cs ds : List Value} {t u : TypeId} (h : Blk w b cs t) (k : Blk w c ds u) (he : t ≠ u) : b ≠ c := by
 rintro rfl
 unfold Blk at h k
 rw [h] at k
 simp only [Option.some.injEq, Obj.cells.injEq] at k
 exact he k.2.1
/-- What stands while the second system of a pair is drawn. -/
structure QEnv (sb m ra rc ab bb Be : Nat) (a : Lts) (la ea : Value) (E : List Edge) (lb eb : Value) (w0 w : World) : Prop where
 p : PEnv sb m ra rc ab a la ea w0 w
 bel : w0.heap.size ≤ Be
 lal : ∀ k, la.ownBlock = some k → k < Be
 eal : ∀ k, ea.ownBlock = some k → k < Be
 abe : ab < Be
 rae : ra < Be
 rce : rc < Be
 own : OwnLts Be w lb eb ⟨a.states, a.initial, a.labels, E⟩
 bbox : Blk w bb [.int .i64 a.states, .int .i64 a.initial, lb, eb] 27
 bbl : Be ≤ bb
section
variable {sb m ra rc ab bb Be : Nat} {a : Lts} {la ea : Value} {E : List Edge} {lb eb : Value} {w0 w w' : World}
theorem QEnv.then {m' : Nat} (h : QEnv sb m ra rc ab bb Be a la ea E lb eb w0 w) (hd : Drew sb m' w w') : QEnv sb m' ra rc ab bb Be a la ea E lb eb w0 w' :=
 have hsb : sb < Be := Nat.lt_of_lt_of_le h.p.sbl h.bel
 ⟨h.p.then hd, h.bel, h.lal, h.eal, h.abe, h.rae, h.rce, ⟨hd.own h.own.1 hsb, hd.own h.own.2 hsb⟩, hd.blk h.bbox (by have := h.bbl; omega), h.bbl⟩
theorem QEnv.below (h : QEnv sb m ra rc ab bb Be a la ea E lb eb w0 w) (hb : Below w.heap.size w w') : QEnv sb m ra rc ab bb Be a la ea E lb eb w0 w' :=
 ⟨h.p.below hb, h.bel, h.lal, h.eal, h.abe, h.rae, h.rce, h.own.below hb, h.bbox.below hb, h.bbl⟩
theorem QEnv.mono {m' : Nat} (h : QEnv sb m ra rc ab bb Be a la ea E lb eb w0 w) (hm : m ≤ m') : QEnv sb m' ra rc ab bb Be a la ea E lb eb w0 w := ⟨h.p.mono hm, h.bel, h.lal, h.eal, h.abe, h.rae, h.rce, h.own, h.bbox, h.bbl⟩
theorem PEnv.at {row : Option Nat} (h : PEnv sb m ra rc ab a la ea w0 w) (hbe : w0.heap.size ≤ Be) (hl : ∀ k, la.ownBlock = some k → k < Be) (he : ∀ k, ea.ownBlock = some k → k < Be) (n1 : ab < Be) (n2 : ra < Be) (n3 : rc < Be) (hg : w.grownBy w' row) (hr : ∀ k, row = some k → Be ≤ k) : PEnv sb m ra rc ab a la ea w0 w' :=
 ⟨h.drew.grown hg (fun j e => Nat.le_trans hbe (hr j e)) h.sbl, h.sbl, ⟨h.own.1.kept hg (by
   cases hv : la.ownBlock with
   | none => exact .inl rfl
   | some k => exact .inr (fun e => by have := hl k hv; have := hr k e.symm; omega)), h.own.2.kept hg (by
   cases hv : ea.ownBlock with
   | none => exact .inl rfl
   | some k => exact .inr (fun e => by have := he k hv; have := hr k e.symm; omega))⟩,
  h.abox.far hg (fun e => by have := hr _ e; omega), h.rbox.far hg (fun e => by have := hr _ e; omega), h.cbox.far hg (fun e => by have := hr _ e; omega), h.abl, h.ral, h.rcl, h.nar, h.nac, h.nrc⟩
/-- The second system's edges are turned in their own row. -/
theorem QEnv.turn (h : QEnv sb m ra rc ab bb Be a la ea E lb eb w0 w) (hg : w.grownBy w' eb.ownBlock) :
  PEnv sb m ra rc ab a la ea w0 w' ∧ w'.ownsRow Be 9 1 lb a.labels.length (a.labels.map .string) ∧ Blk w' bb [.int .i64 a.states, .int .i64 a.initial, lb, eb] 27 :=
 ⟨h.p.at h.bel h.lal h.eal h.abe h.rae h.rce hg (fun k e => (h.own.2.lt k e).1), h.own.1.kept hg (own_types h.own.1 h.own.2 (by decide)), blk_kept h.bbox h.own.2 hg (by decide)⟩
theorem QEnv.turned {E' : List Edge} {eb' : Value} (h : QEnv sb m ra rc ab bb Be a la ea E lb eb w0 w) (hg : w.grownBy w' eb.ownBlock) (ho : w'.ownsRow Be 47 3 eb' E'.length (E'.flatMap encE)) :
  QEnv sb m ra rc ab bb Be a la ea E' lb eb' w0 (w'.setCell ⟨bb, 3, none⟩ eb') := by
 obtain ⟨p1, p2, p3⟩ := h.turn hg
 exact ⟨p1.at h.bel h.lal h.eal h.abe h.rae h.rce (grown_setCell w' ⟨bb, 3, none⟩ eb') (fun k e => by cases e; exact h.bbl), h.bel, h.lal, h.eal, h.abe, h.rae, h.rce, ⟨own_putD p2 p3 (by decide) 3 eb', own_putD ho p3 (by decide) 3 eb'⟩, p3.set 3 eb', h.bbl⟩
/-- The block behind the heap's end is none of it. -/
theorem QEnv.fresh (h : QEnv sb m ra rc ab bb Be a la ea E lb eb w0 w) : eb.ownBlock ≠ some w.heap.size ∧ Be ≤ w.heap.size :=
 ⟨fun e => by have := (h.own.2.lt _ e).2; omega, by have := h.bbox.lt; have := h.bbl; omega⟩
theorem alB (w : World) (o : Obj) : Below w.heap.size w (w.alloc o) := (Below.refl _ _).alloc (Nat.le_refl _) _
theorem alD (w : World) (o : Obj) : Below w.heap.size w (w.alloc o).drew := ((Below.refl _ _).alloc (Nat.le_refl _) _).drew
theorem Drew.newz {sb m k : Nat} {w w' : World} (h : Drew sb m (w.alloc (.cells #[.int .i64 0, .int .i64 0, .int .i64 0] 47)) w') (hs : Src sb k w) : Blk w' w.heap.size [.int .i64 0, .int .i64 0, .int .i64 0] 47 :=
 h.blk (Blk.new w [.int .i64 0, .int .i64 0, .int .i64 0] 47) (by have := hs.lt; omega)
theorem Drew.newd {sb m k : Nat} {w w' : World} (h : Drew sb m (w.alloc (.cells #[.int .i64 0, .int .i64 0, .int .i64 0] 47)).drew w') (hs : Src sb k w) : Blk w' w.heap.size [.int .i64 0, .int .i64 0, .int .i64 0] 47 :=
 h.blk (blk_drewD (Blk.new w [.int .i64 0, .int .i64 0, .int .i64 0] 47)) (by have := hs.lt; omega)
theorem Drew.blkE {m k b : Nat} {w w' : World} {cs : List Value} (h : Drew sb m w w') (hz : Blk w b cs 47) (hs : Src sb k w) : Blk w' b cs 47 := h.blk hz (by
 obtain ⟨v, bs, a, sd, -, hb, -⟩ := hs
 exact blk_blk_neQ hz hb (by decide))
theorem QEnv.src (h : QEnv sb m ra rc ab bb Be a la ea E lb eb w0 w) : Src sb m w := h.p.drew.2
theorem QEnv.two (h : QEnv sb m ra rc ab bb Be a la ea E lb eb w0 w) : w.cell? ⟨bb, 0, none⟩ = some (.int .i64 a.states) ∧ w.cell? ⟨bb, 2, none⟩ = some lb := ⟨h.bbox.cell 0 rfl, h.bbox.cell 2 rfl⟩
theorem QEnv.two3 (h : QEnv sb m ra rc ab bb Be a la ea E lb eb w0 w) {pz : Nat} (hne : bb ≠ pz) (v0 v1 v2 : Value) : (((w.setCell ⟨pz, 0, none⟩ v0).setCell ⟨pz, 1, none⟩ v1).setCell ⟨pz, 2, none⟩ v2).cell? ⟨bb, 0, none⟩ = some (.int .i64 a.states) ∧ (((w.setCell ⟨pz, 0, none⟩ v0).setCell ⟨pz, 1, none⟩ v1).setCell ⟨pz, 2, none⟩ v2).cell? ⟨bb, 2, none⟩ = some lb :=
 have hb := blk_putD (blk_putD (blk_putD h.bbox 0 v0 hne) 1 v1 hne) 2 v2 hne
 ⟨hb.cell 0 rfl, hb.cell 2 rfl⟩
/-- A new block that turns: nothing else does. -/
theorem QEnv.put {pz : Nat} (h : QEnv sb m ra rc ab bb Be a la ea E lb eb w0 w) {cs : List Value} (hz : Blk w pz cs 47) (hpz : Be ≤ pz) (hE : eb.ownBlock ≠ some pz) (i : Nat) (u : Value) : QEnv sb m ra rc ab bb Be a la ea E lb eb w0 (w.setCell ⟨pz, i, none⟩ u) :=
 have hg := grown_setCell w ⟨pz, i, none⟩ u
 ⟨h.p.at h.bel h.lal h.eal h.abe h.rae h.rce hg (fun k e => by cases e; exact hpz), h.bel, h.lal, h.eal, h.abe, h.rae, h.rce, ⟨own_putD h.own.1 hz (by decide) i u, h.own.2.kept hg (.inr hE)⟩, blk_putD h.bbox i u (blk_blk_neQ h.bbox hz (by decide)), h.bbl⟩
theorem QEnv.put3 {pz : Nat} (h : QEnv sb m ra rc ab bb Be a la ea E lb eb w0 w) {x0 x1 x2 : Value} (hz : Blk w pz [x0, x1, x2] 47) (hf : eb.ownBlock ≠ some pz ∧ Be ≤ pz) (v0 v1 v2 : Value) :
  QEnv sb m ra rc ab bb Be a la ea E lb eb w0 (((w.setCell ⟨pz, 0, none⟩ v0).setCell ⟨pz, 1, none⟩ v1).setCell ⟨pz, 2, none⟩ v2) ∧ Blk (((w.setCell ⟨pz, 0, none⟩ v0).setCell ⟨pz, 1, none⟩ v1).setCell ⟨pz, 2, none⟩ v2) pz [v0, v1, v2] 47 :=
 ⟨((h.put hz hf.2 hf.1 0 v0).put (hz.set 0 v0) hf.2 hf.1 1 v1).put ((hz.set 0 v0).set 1 v1) hf.2 hf.1 2 v2, ((hz.set 0 v0).set 1 v1).set 2 v2⟩
end
theorem pair_results {w : World} {b c : Nat} {v0 v1 v2 v3 u0 u1 u2 u3 : Value} {tmps : Array Value} (hc : tmps.getD 2 undef = .pointer (some ⟨b, 0, none⟩)) (hc3 : tmps.getD 3 undef = .pointer (some ⟨c, 0, none⟩)) (hb : Blk w b [v0, v1, v2, v3] 27) (hb3 : Blk w c [u0, u1, u2, u3] 27) :
  (results Tryz.f14 tmps).run Tryz.prog w = .ok (.tuple #[.agg #[v0, v1, v2, v3], .agg #[u0, u1, u2, u3]]) w := by
 have h0 := hb.cell 0 rfl
 have h1 := hb.cell 1 rfl
 have h2 := hb.cell 2 rfl
 have h3 := hb.cell 3 rfl
 have k0 := hb3.cell 0 rfl
 have k1 := hb3.cell 1 rfl
 have k2 := hb3.cell 2 rfl
 have k3 := hb3.cell 3 rfl
 simp only [Array.getD_eq_getD_getElem?] at hc hc3
 simp [results, Tryz.results14, go_sem, hc, hc3, h0, h1, h2, h3, k0, k1, k2, k3, Result.andThen]

end Go.Proofs.YtnmkncioekdehaaGreatDoor
