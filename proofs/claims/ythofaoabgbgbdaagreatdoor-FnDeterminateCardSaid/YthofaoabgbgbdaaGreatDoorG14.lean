/-
  The source of a drawer; the length of what is drawn from; two lists of texts.
  The reference's system of the argument's bytes: it is valid.
  What states offer, stable states. Plain.
  The traces of a deterministic system in the order found. Plain definitions; no program in sight.
  The deterministic system of a valid one is valid and deterministic. Plain.
  The first word that leads where something holds, and two ways to search it: states looked at when they are taken from a queue, or when they are met. Plain; no program in sight.
  Two deterministic systems that take the same labels: the first trace on which they differ. Plain definitions; no program in sight.
  The rows and the edges of the deterministic system found: each edge leads from a row to the set behind it. Plain.
  The search for a word on which two systems differ: plain notions, and the memory of the reference's search.
  A queue whose elements take k cells each: the rest of a row of the call's own, behind what was taken off its front.
  The net of sets in memory: its rows and its edges, of the call's own.
-/
import Derived.Test.YthofaoabgbgbdaaGreatDoorG1
import Derived.Test.YthofaoabgbgbdaaGreatDoorG3
import Derived.Test.YthofaoabgbgbdaaGreatDoorG13
import Derived.Test.YthofaoabgbgbdaaGreatDoorG10
import Derived.Test.YthofaoabgbgbdaaGreatDoorG6
import Derived.Maps.AppendAt
import Derived.Test.YthofaoabgbgbdaaGreatDoorG8
import Derived.ArgAppend
import Derived.Deep.AppendLies
namespace Go.Proofs.YthofaoabgbgbdaaGreatDoor
open Go Go.RowKit


theorem bytes_up {w W : World} {v : Value} {bs : List UInt8} (h : BytesIn w.heap.size w v bs) (hb : Below w.heap.size w W) : BytesIn W.heap.size W v bs := by
 obtain ⟨a, c, e, hl, h0⟩ := h.grown (grown_below hb none) (fun k e => by cases e)
 refine ⟨a, c, e, hl, ?_⟩
 rcases h0 with h0 | ⟨b, o, e1, h1, h2, h3⟩
 ·exact .inl h0
 ·exact .inr ⟨b, o, e1, h2, h2, h3⟩

theorem from_any (cv : Value) (bs : List UInt8) (w : World) (hc : BytesIn w.heap.size w cv bs) :
  Calls Tryz.prog 13 #[cv] w fun e w' => e = .returned (.pointer (some ⟨w.heap.size, 0, none⟩)) ∧ Below w.heap.size w w' ∧ Src w.heap.size 0 w' := by
 obtain ⟨W, hW⟩ : ∃ W, W = w.alloc (.cells #[cv, .int .i64 0, .int .u64 0] 66) := ⟨_, rfl⟩
 have hb : Below w.heap.size w W := by rw [hW]; exact (Below.refl _ _).alloc (Nat.le_refl _) _
 have HS : Hid (Src w.heap.size 0 W) := ⟨cv, bs, 0, 0, hc.grown (grown_below hb none) (fun k e => by cases e), by rw [hW]; exact Blk.new w _ _, Nat.le_refl _, by decide, by decide⟩
 have HB := Lib.hid hb
 have HW := Lib.hid hW
 obtain ⟨a, c, rfl, -, -⟩ := hc
 clear hW hb
 go_enter Tryz.func13, Tryz.ntmps13
 go_wp2
 go_ret
 rw [← HW.out]
 exact ⟨rfl, HB.out, HS.out⟩

theorem b10Long_any (a : Option Addr) (N c : Nat) (w : World) : Calls Tryz.prog 4 #[.slice a N c] w fun e w' => e = .returned (.bool (decide (1048576 < N))) ∧ w = w' := by
 by_cases h : 1048576 < N
 ·have hi : (1048576 : Int) < (N : Int) := by omega
  have HF : Hid (decide (1048576 < N) = true) := decide_eq_true h
  go_enter Tryz.func4, Tryz.ntmps4
  go_wp2
  go_ret
  exact ⟨by rw [HF.out]; rfl, rfl⟩
 ·have hi : ¬ (1048576 : Int) < (N : Int) := by omega
  have HF : Hid (decide (1048576 < N) = false) := decide_eq_false h
  go_enter Tryz.func4, Tryz.ntmps4
  go_wp2
  go_ret
  exact ⟨rfl, rfl⟩

end Go.Proofs.YthofaoabgbgbdaaGreatDoor

namespace Go.Proofs.YthofaoabgbgbdaaGreatDoor
open Go Go.RowKit


theorem nm_okL : ∀ l ∈ nmAll, l ≠ tauT → labelOk l.data.toList = true := by
 intro l hl ht
 simp only [nmAll, nmL, List.mem_cons, List.not_mem_nil, or_false] at hl
 rcases hl with rfl | rfl | rfl | rfl | rfl | rfl
 ·exact absurd rfl ht
 ·decide
 ·decide
 ·decide
 ·decide
 ·decide
theorem drawn_valid {M : Nat} {t : Lts} (h : DrawnOk M t) (hM : M ≤ 300) : Valid t where
 st0 := h.st.1
 st1 := by have := h.st.2; omega
 in0 := h.init.1
 in1 := h.init.2
 labels := labelsOk_of h.asc h.tau (by have := h.few; omega) fun l hl ht => nm_okL l (h.names l hl) ht
 most := Nat.le_trans h.most hM
 edge := fun i hi => by
  obtain ⟨h1, h2, h3⟩ := h.edge _ (List.getElem_mem hi)
  exact ⟨h1.1, h1.2, h3.1, h3.2, h2.1, h2.2⟩
 rise := fun i hi => List.pairwise_iff_getElem.1 h.rise i (i + 1) (by omega) hi (by omega)
theorem drawn_short {M : Nat} {t : Lts} (h : DrawnOk M t) : Short20 t.labels := fun i hi => by
 have := nm_short _ (h.names _ (List.getElem_mem hi))
 omega

def RetL10 (w : World) (e : Ending) (w' : World) : Prop :=
 Below w.heap.size w w' ∧ ∃ (t : Lts) (lv ev : Value), e = .returned (.agg #[.int .i64 t.states, .int .i64 t.initial, lv, ev]) ∧ OwnLts w.heap.size w' lv ev t ∧ Valid t ∧ Short20 t.labels
theorem drew_belowL {B sb m : Nat} {w w1 w' : World} (h : Below B w w1) (hd : Drew sb m w1 w') (hB : B ≤ w1.heap.size) (hsb : B ≤ sb) : Below B w w' := h.grown hd.1 hB (fun b e => by cases e; exact hsb)
theorem l10_results {w : World} {b : Nat} {v0 v1 v2 v3 : Value} {tmps : Array Value} (hc : tmps.getD 2 undef = .pointer (some ⟨b, 0, none⟩)) (hb : Blk w b [v0, v1, v2, v3] 27) :
  (results Tryz.f5 tmps).run Tryz.prog w = .ok (.agg #[v0, v1, v2, v3]) w := by
 have h0 := hb.cell 0 rfl
 have h1 := hb.cell 1 rfl
 have h2 := hb.cell 2 rfl
 have h3 := hb.cell 3 rfl
 simp only [Array.getD_eq_getD_getElem?] at hc
 simp [results, Tryz.results5, go_sem, hc, h0, h1, h2, h3, Result.andThen]

set_option maxRecDepth 100000 in
set_option maxHeartbeats 2000000 in
theorem b10Lts_any (cv : Value) (bs : List UInt8) (w : World) (hc : BytesIn w.heap.size w cv bs) : Calls Tryz.prog 5 #[cv] w (RetL10 w) := by
 obtain ⟨rb, hrb⟩ : ∃ rb, rb = w.heap.size := ⟨_, rfl⟩
 obtain ⟨W, hW⟩ : ∃ W, W = w.alloc (.cells #[.int .i64 0, .int .i64 0, .slice none 0 0, .slice none 0 0] 27) := ⟨_, rfl⟩
 have hb : Below w.heap.size w W := by rw [hW]; exact (Below.refl _ _).alloc (Nat.le_refl _) _
 have hR : Blk W rb [.int .i64 0, .int .i64 0, .slice none 0 0, .slice none 0 0] 27 := by rw [hW, hrb]; exact Blk.new _ _ _
 obtain ⟨sb, hsb⟩ : ∃ sb, sb = W.heap.size := ⟨_, rfl⟩
 have HFR := Lib.hid (from_any cv bs W (bytes_up hc hb))
 rw [← hsb] at HFR
 have HB := Lib.hid hb
 have HR := Lib.hid hR
 have hsW : w.heap.size ≤ W.heap.size := hb.size
 have hrl : w.heap.size ≤ rb := by omega
 have hrW : rb < W.heap.size := hR.lt
 have hrs : rb ≠ sb := by omega
 have HW := Lib.hid hW
 have HRB := Lib.hid hrb
 have HSB := Lib.hid hsb
 obtain ⟨ca, cc, rfl, -⟩ := id hc
 clear hc hR hb hW hrb hsb
 go_enter Tryz.func5, Tryz.ntmps5
 go_wp2_with fail
 rw [← HW.out]
 try rw [← HRB.out]
 refine Calls.mono HFR.out ?_
 rintro e w1 ⟨rfl, hb1, hs1⟩
 have hb1' : Below W.heap.size W w1 := by rw [← HSB.out]; exact hb1
 have HDM := Lib.hid (draw15_any sb 0 w1 hs1 (by decide))
 have HB1 := Lib.hid (HB.out.trans (hb1'.mono hsW))
 have HR1 := Lib.hid (HR.out.below hb1')
 have hsz1 : w.heap.size ≤ w1.heap.size := HB1.out.size
 have hwsb : w.heap.size ≤ sb := by rw [HSB.out]; exact hsW
 clear hb1 hb1' hs1 HFR HB HR
 go_wp2_with fail
 refine Calls.mono HDM.out ?_
 rintro e w2 ⟨t, lv, ev, rfl, hd2, hom, hdr⟩
 have HB2 := Lib.hid (drew_belowL HB1.out hd2 hsz1 hwsb)
 have HR2 := Lib.hid (hd2.blk HR1.out hrs)
 have HOM := Lib.hid (hom.lower hsz1)
 obtain ⟨mv, mc, rfl, -, -⟩ := owns_slice hom.1
 obtain ⟨me, mf, rfl, -, -⟩ := owns_slice hom.2
 have HV := Lib.hid (drawn_valid hdr (by decide))
 have HSH := Lib.hid (drawn_short hdr)
 clear hd2 hom hdr HDM HB1 HR1
 have r0 := HR2.out.cell 0 rfl
 have r1 := HR2.out.cell 1 rfl
 have r2 := HR2.out.cell 2 rfl
 have r3 := HR2.out.cell 3 rfl
 have s0 := HR2.out.frozen 0
 have s1 := HR2.out.frozen 1
 have s2 := HR2.out.frozen 2
 have s3 := HR2.out.frozen 3
 go_wp2
 refine bodyPost_ret (l10_results rfl (put4D HR2.out)) rfl ?_
 exact ⟨(((HB2.out.setCell hrl _).setCell hrl _).setCell hrl _).setCell hrl _, t, _, _, rfl, ⟨own_put4D HR2.out HOM.out.1 (by decide), own_put4D HR2.out HOM.out.2 (by decide)⟩, HV.out, HSH.out⟩

end Go.Proofs.YthofaoabgbgbdaaGreatDoor

namespace Go.Proofs.YthofaoabgbgbdaaGreatDoor
open Go Go.RowKit

/-- A text among texts. -/
def inT (ss : List ByteArray) (s : ByteArray) : Bool := ss.any fun t => t.toList == s.toList
theorem inT_mem {ss : List ByteArray} {s : ByteArray} : inT ss s = true ↔ s ∈ ss := by
 unfold inT
 rw [List.any_eq_true]
 exact ⟨fun ⟨x, hx, h⟩ => toList_inj (eq_of_beq h) ▸ hx, fun h => ⟨s, h, by simp⟩⟩
/-- The labels of the edges from a state. -/
def rdy (t : Lts) (k : Int) : List ByteArray := labSet ((outOf t k).map (labAt t))
/-- No internal edge leads from a state. -/
def stableB (t : Lts) (k : Int) : Bool := t.edges.all fun e => !((e.src == k) && (e.lab == 0))
theorem stable_out {t : Lts} {k : Int} : stableB t k = true ↔ ∀ e ∈ outOf t k, e.lab ≠ 0 := by
 unfold stableB outOf
 rw [List.all_eq_true]
 constructor
 ·intro h e he hl
  obtain ⟨h1, h2⟩ := List.mem_filter.1 he
  have := h e h1
  rw [h2, hl] at this
  simp at this
 ·intro h e he
  by_cases hs : (e.src == k) = true
  ·have := h e (List.mem_filter.2 ⟨he, hs⟩)
   simp [this]
  ·simp [Bool.eq_false_iff.2 hs]
theorem lab_tau {t : Lts} (hv : Valid t) {e : Edge} (he : e ∈ t.edges) : labAt t e = tauT ↔ e.lab = 0 := by
 obtain ⟨i, hi, rfl⟩ := List.mem_iff_getElem.1 he
 have hok := hv.edge i hi
 obtain ⟨hlt, hl⟩ := labAt_idx hok
 obtain ⟨h0, ht⟩ := tau_first hv
 rw [hl]
 constructor
 ·intro h
  have := labels_inj hv.labels _ 0 hlt h0 (by rw [h, ht])
  have := hok.l0
  omega
 ·intro h
  have e0 : t.edges[i].lab.toNat = 0 := by omega
  rw [← ht]
  congr 1
theorem tau_rdy {t : Lts} (hv : Valid t) (k : Int) : inT (rdy t k) tauT = !stableB t k := by
 have h1 : inT (rdy t k) tauT = true ↔ ¬ stableB t k = true := by
  rw [inT_mem, stable_out]
  unfold rdy
  rw [(labSet_is _).2, List.mem_map]
  constructor
  ·rintro ⟨e, he, hl⟩ h
   exact h e he ((lab_tau hv (List.mem_filter.1 he).1).1 hl)
  ·intro h
   refine Decidable.byContradiction fun hn => h fun e he hl => hn ⟨e, he, (lab_tau hv (List.mem_filter.1 he).1).2 hl⟩
 cases h2 : stableB t k
 ·rw [Bool.not_false]
  exact h1.2 (by rw [h2]; simp)
 ·rw [Bool.not_true, Bool.eq_false_iff]
  intro h
  exact h1.1 h h2
/-- The stable ones among states. -/
def stabs (t : Lts) (l : List Int) : List Int := l.filter (stableB t)
/-- What one list has and another one has not. -/
def lackL (set other : List ByteArray) : List ByteArray := set.filter fun s => !inT other s
def withinL (a b : List ByteArray) : Bool := a.all (inT b)
theorem lack_nil {a b : List ByteArray} : (lackL a b).length = 0 ↔ withinL a b = true := by
 unfold lackL withinL
 rw [List.length_eq_zero_iff, List.filter_eq_nil_iff, List.all_eq_true]
 constructor
 ·intro h s hs
  have := h s hs
  cases h2 : inT b s
  ·rw [h2] at this; simp at this
  ·rfl
 ·intro h s hs
  rw [h s hs]
  simp

end Go.Proofs.YthofaoabgbgbdaaGreatDoor

namespace Go.Proofs.YthofaoabgbgbdaaGreatDoor
open Go Go.RowKit

/-- The deterministic system of the net found. -/
def dSys (t : Lts) (st : DNet) : Lts := ⟨st.rows.length, 0, t.labels, st.edges⟩

end Go.Proofs.YthofaoabgbgbdaaGreatDoor

namespace Go.Proofs.YthofaoabgbgbdaaGreatDoor
open Go Go.RowKit

theorem dok_good {t : Lts} {st : DNet} (hv : Valid t) (h : DOk t st) : DGood t st := by
 obtain ⟨⟨n, -, rfl, -⟩, -⟩ := h
 exact DGood.at hv n
theorem dok_up {t : Lts} {st : DNet} (h : DOk t st) : Up st.edges := by
 obtain ⟨⟨n, -, rfl, -⟩, -⟩ := h
 exact up_at t n
theorem dSys_edge {t : Lts} {st : DNet} (hG : DGood t st) : ∀ i (h : i < (dSys t st).edges.length), EdgeOk (dSys t st) (dSys t st).edges[i] := by
 intro i hi
 have := hG.edges _ (List.getElem_mem hi)
 exact ⟨this.1.1, this.1.2, this.2.2.1, this.2.2.2, Int.le_trans (by decide) this.2.1.1, this.2.1.2⟩
theorem dSys_valid {t : Lts} {st : DNet} (hv : Valid t) (h : DOk t st) : Valid (dSys t st) := by
 have hG := dok_good hv h
 have hu := dok_up h
 have h0 := hG.some
 have hs := h.2
 refine ⟨by show (1 : Int) ≤ (st.rows.length : Int); omega, by show (st.rows.length : Int) ≤ 40; have := hs.1; omega, Int.le_refl 0, by show (0 : Int) < (st.rows.length : Int); omega, hv.labels, hs.2, dSys_edge hG, fun i hi => ?_⟩
 have h1 := List.pairwise_iff_getElem.1 (rise_up hu) i (i + 1) (Nat.lt_of_succ_lt hi) hi (Nat.lt_succ_self i)
 exact h1
theorem dSys_single {t : Lts} {st : DNet} (hv : Valid t) (h : DOk t st) : Single (dSys t st) := by
 have hG := dok_good hv h
 have hu := dok_up h
 have h1 : ∀ i (hi : i < st.edges.length), st.edges[i].lab ≠ 0 := fun i hi => by
  have := (hG.edges _ (List.getElem_mem hi)).2.1.1
  omega
 have h2 : ∀ i (hi : i + 1 < st.edges.length), ¬ (st.edges[i + 1].src = st.edges[i].src ∧ st.edges[i + 1].lab = st.edges[i].lab) := fun i hi => by
  have := List.pairwise_iff_getElem.1 hu i (i + 1) (Nat.lt_of_succ_lt hi) hi (Nat.lt_succ_self i)
  omega
 exact ⟨h1, h2⟩

end Go.Proofs.YthofaoabgbgbdaaGreatDoor

namespace Go.Proofs.YthofaoabgbgbdaaGreatDoor
open Go Go.RowKit

/-- Words, the last letter first, in the order of a search: by length, then letter by letter. -/
def slt : List Nat → List Nat → Prop
 | [], [] => False
 | [], _ :: _ => True
 | _ :: _, [] => False
 | a :: u, b :: v => slt u v ∨ (u = v ∧ a < b)
theorem slt_irrefl : ∀ u, ¬ slt u u
 | [], h => h
 | a :: u, h => by
  rcases h with h | ⟨-, h⟩
  ·exact slt_irrefl u h
  ·exact Nat.lt_irrefl _ h
theorem slt_trans : ∀ {u v x : List Nat}, slt u v → slt v x → slt u x
 | [], [], _, h, _ => h.elim
 | _ :: _, [], _, h, _ => h.elim
 | _, _ :: _, [], _, h => h.elim
 | [], _ :: _, _ :: _, _, _ => trivial
 | a :: u, b :: v, c :: x, h, k => by
  rcases h with h | ⟨rfl, h⟩ <;> rcases k with k | ⟨rfl, k⟩
  ·exact .inl (slt_trans h k)
  ·exact .inl h
  ·exact .inl k
  ·exact .inr ⟨rfl, Nat.lt_trans h k⟩
theorem slt_trich : ∀ u v : List Nat, slt u v ∨ u = v ∨ slt v u
 | [], [] => .inr (.inl rfl)
 | [], _ :: _ => .inl trivial
 | _ :: _, [] => .inr (.inr trivial)
 | a :: u, b :: v => by
  rcases slt_trich u v with h | rfl | h
  ·exact .inl (.inl h)
  ·rcases Nat.lt_trichotomy a b with h | rfl | h
   ·exact .inl (.inr ⟨rfl, h⟩)
   ·exact .inr (.inl rfl)
   ·exact .inr (.inr (.inr ⟨rfl, h⟩))
  ·exact .inr (.inr (.inl h))
theorem slt_cons (a : Nat) : ∀ u : List Nat, slt u (a :: u)
 | [] => trivial
 | b :: u => .inl (slt_cons b u)
def sle (u v : List Nat) : Prop := u = v ∨ slt u v
theorem sle_lt {u v x : List Nat} (h : sle u v) (k : slt v x) : slt u x := by
 rcases h with rfl | h
 ·exact k
 ·exact slt_trans h k
theorem sle_trans {u v x : List Nat} (h : sle u v) (k : sle v x) : sle u x := by
 rcases k with rfl | k
 ·exact h
 ·exact .inr (sle_lt h k)
theorem sle_up {u v : List Nat} (a : Nat) (h : sle u v) : sle (a :: u) (a :: v) := by
 rcases h with rfl | h
 ·exact .inl rfl
 ·exact .inr (.inl h)
section
variable {S : Type} (s0 : S) (step : S → Nat → S) (m : Nat)
/-- Where a word leads. -/
def wAt : List Nat → S
 | [] => s0
 | a :: u => step (wAt u) a
def WOk (u : List Nat) : Prop := ∀ a ∈ u, a < m
/-- The first word that leads where F holds. -/
def Least (F : S → Prop) (u : List Nat) : Prop := WOk m u ∧ F (wAt s0 step u) ∧ ∀ v, WOk m v → slt v u → ¬ F (wAt s0 step v)
def NoWord (F : S → Prop) : Prop := ∀ v, WOk m v → ¬ F (wAt s0 step v)
variable {s0 step m}
theorem Least.unique {F : S → Prop} {u v : List Nat} (hu : Least s0 step m F u) (hv : Least s0 step m F v) : u = v := by
 rcases slt_trich u v with h | h | h
 ·exact absurd hu.2.1 (hv.2.2 u hu.1 h)
 ·exact h
 ·exact absurd hv.2.1 (hu.2.2 v hv.1 h)
theorem Least.some {F : S → Prop} {u : List Nat} (hu : Least s0 step m F u) (h : NoWord s0 step m F) : False := h u hu.1 hu.2.1
theorem Least.congr {F G : S → Prop} {u : List Nat} (hu : Least s0 step m F u) (h : ∀ v, WOk m v → (F (wAt s0 step v) ↔ G (wAt s0 step v))) : Least s0 step m G u :=
 ⟨hu.1, (h u hu.1).1 hu.2.1, fun v hv hs k => hu.2.2 v hv hs ((h v hv).2 k)⟩
theorem NoWord.congr {F G : S → Prop} (hu : NoWord s0 step m F) (h : ∀ v, WOk m v → (F (wAt s0 step v) ↔ G (wAt s0 step v))) : NoWord s0 step m G :=
 fun v hv k => hu v hv ((h v hv).2 k)

variable (s0 step m)
/-- A search with a queue, that looks at a state when it is taken. -/
structure QSt (dead F : S → Prop) (seen Q : List (List Nat)) : Prop where
 ok : ∀ u ∈ seen ++ Q, WOk m u
 sorted : (seen ++ Q).Pairwise slt
 root : [] ∈ seen ∨ [] ∈ Q ∨ dead s0
 par : ∀ u ∈ Q, u = [] ∨ ∃ a v, u = a :: v ∧ v ∈ seen
 nodup : (seen.map (wAt s0 step)).Nodup
 alive : ∀ u ∈ seen, ¬ dead (wAt s0 step u)
 noF : ∀ u ∈ seen, ¬ F (wAt s0 step u)
 done : ∀ u ∈ seen, ∀ a, a < m → (a :: u) ∈ Q ∨ dead (wAt s0 step (a :: u)) ∨ ∃ v ∈ seen, wAt s0 step v = wAt s0 step (a :: u) ∧ sle v (a :: u)
variable {s0 step m}
theorem QSt.start (dead F : S → Prop) : QSt s0 step m dead F [] [[]] :=
 ⟨fun u hu => by rw [List.nil_append, List.mem_singleton] at hu; subst hu; exact (fun a ha => by cases ha), by simp, .inr (.inl (by simp)), fun u hu => .inl (by simpa using hu), by simp, by simp, by simp, by simp⟩
/-- All words ahead of the queue's first are known. -/
theorem QSt.known {dead F : S → Prop} {seen Q : List (List Nat)} (hd : ∀ s a, dead s → dead (step s a)) (h : QSt s0 step m dead F seen Q) (fr : List Nat → Prop) (hf : ∀ u v, fr u → slt v u → fr v) (hq : ∀ u ∈ Q, ¬ fr u) :
  ∀ v, WOk m v → fr v → dead (wAt s0 step v) ∨ ∃ u ∈ seen, wAt s0 step u = wAt s0 step v ∧ sle u v
 | [], _, hv => by
  rcases h.root with h1 | h1 | h1
  ·exact .inr ⟨[], h1, rfl, .inl rfl⟩
  ·exact absurd hv (hq _ h1)
  ·exact .inl h1
 | a :: v, ho, hv => by
  have hv2 := hf _ v hv (slt_cons a v)
  rcases QSt.known hd h fr hf hq v (fun b hb => ho b (List.mem_cons_of_mem _ hb)) hv2 with h1 | ⟨u, hu, he, hs⟩
  ·exact .inl (hd _ _ h1)
  ·have hes : wAt s0 step (a :: u) = wAt s0 step (a :: v) := by simp only [wAt]; rw [he]
   rcases h.done u hu a (ho a (by simp)) with h2 | h2 | ⟨x, hx, hxe, hxs⟩
   ·rcases sle_up a hs with e | hs2
    ·rw [e] at h2; exact absurd hv (hq _ h2)
    ·exact absurd (hf _ _ hv hs2) (hq _ h2)
   ·rw [hes] at h2; exact .inl h2
   ·exact .inr ⟨x, hx, hxe.trans hes, sle_trans hxs (sle_up a hs)⟩
theorem QSt.least {dead F : S → Prop} {seen Q : List (List Nat)} {u : List Nat} (hd : ∀ s a, dead s → dead (step s a)) (hdF : ∀ s, dead s → ¬ F s) (h : QSt s0 step m dead F seen (u :: Q)) (hF : F (wAt s0 step u)) : Least s0 step m F u := by
 refine ⟨h.ok u (by simp), hF, fun v hv hs hFv => ?_⟩
 have hp := (List.pairwise_append.1 h.sorted).2.1
 rw [List.pairwise_cons] at hp
 rcases QSt.known hd h (fun x => slt x u) (fun a b h1 h2 => slt_trans h2 h1) (fun x hx => by
  rcases List.mem_cons.1 hx with rfl | hx
  ·exact slt_irrefl _
  ·exact fun k => slt_irrefl _ (slt_trans k (hp.1 x hx))) v hv hs with h1 | ⟨x, hx, he, -⟩
 ·exact hdF _ h1 hFv
 ·exact h.noF x hx (he ▸ hFv)
theorem QSt.none {dead F : S → Prop} {seen : List (List Nat)} (hd : ∀ s a, dead s → dead (step s a)) (hdF : ∀ s, dead s → ¬ F s) (h : QSt s0 step m dead F seen []) : NoWord s0 step m F := by
 intro v hv hFv
 rcases QSt.known hd h (fun _ => True) (fun _ _ _ _ => trivial) (fun u hu => by cases hu) v hv trivial with h1 | ⟨x, hx, he, -⟩
 ·exact hdF _ h1 hFv
 ·exact h.noF x hx (he ▸ hFv)
theorem QSt.skip {dead F : S → Prop} {seen Q : List (List Nat)} {u : List Nat} (h : QSt s0 step m dead F seen (u :: Q)) (hu : dead (wAt s0 step u) ∨ ∃ v ∈ seen, wAt s0 step v = wAt s0 step u) : QSt s0 step m dead F seen Q := by
 have hsort := List.pairwise_append.1 h.sorted
 have hcase : dead (wAt s0 step u) ∨ ∃ v ∈ seen, wAt s0 step v = wAt s0 step u ∧ sle v u := by
  rcases hu with hu | ⟨v, hv, he⟩
  ·exact .inl hu
  ·exact .inr ⟨v, hv, he, .inr (hsort.2.2 v hv u (by simp))⟩
 refine ⟨fun x hx => h.ok x (by simp at hx ⊢; rcases hx with h | h <;> simp [h]), ?_, ?_, fun x hx => h.par x (List.mem_cons_of_mem _ hx), h.nodup, h.alive, h.noF, fun x hx a ha => ?_⟩
 ·rw [List.pairwise_append]
  exact ⟨hsort.1, (List.pairwise_cons.1 hsort.2.1).2, fun x hx y hy => hsort.2.2 x hx y (List.mem_cons_of_mem _ hy)⟩
 ·rcases h.root with h1 | h1 | h1
  ·exact .inl h1
  ·rcases List.mem_cons.1 h1 with h2 | h2
   ·subst h2
    rcases hcase with h3 | ⟨v, hv, -, h4⟩
    ·exact .inr (.inr h3)
    ·rcases h4 with rfl | h4
     ·exact .inl hv
     ·cases v <;> exact h4.elim
   ·exact .inr (.inl h2)
  ·exact .inr (.inr h1)
 ·rcases h.done x hx a ha with h1 | h1 | h1
  ·rcases List.mem_cons.1 h1 with h2 | h2
   ·subst h2
    exact .inr hcase
   ·exact .inl h2
  ·exact .inr (.inl h1)
  ·exact .inr (.inr h1)
theorem QSt.take {dead F : S → Prop} {seen Q : List (List Nat)} {u : List Nat} (h : QSt s0 step m dead F seen (u :: Q)) (ha : ¬ dead (wAt s0 step u)) (hn : ∀ v ∈ seen, wAt s0 step v ≠ wAt s0 step u) (hF : ¬ F (wAt s0 step u)) :
  QSt s0 step m dead F (seen ++ [u]) (Q ++ (List.range m).map (· :: u)) := by
 have hsort := List.pairwise_append.1 h.sorted
 have hQ := List.pairwise_cons.1 hsort.2.1
 have hse : ∀ v ∈ seen, slt v u := fun v hv => hsort.2.2 v hv u (by simp)
 have hou := h.ok u (by simp)
 have hnew : ∀ x ∈ (List.range m).map (· :: u), ∃ a, a < m ∧ x = a :: u := fun x hx => by
  obtain ⟨a, ha, rfl⟩ := List.mem_map.1 hx
  exact ⟨a, List.mem_range.1 ha, rfl⟩
 have hqn : ∀ q ∈ Q, ∀ a, slt q (a :: u) := by
  intro q hq a
  rcases h.par q (List.mem_cons_of_mem _ hq) with rfl | ⟨b, v, rfl, hv⟩
  ·trivial
  ·exact .inl (hse v hv)
 refine ⟨?_, ?_, ?_, ?_, ?_, ?_, ?_, ?_⟩
 ·intro x hx
  simp only [List.mem_append, List.mem_singleton] at hx
  rcases hx with (hx | rfl) | hx | hx
  ·exact h.ok x (by simp [hx])
  ·exact hou
  ·exact h.ok x (by simp [hx])
  ·obtain ⟨a, ha, rfl⟩ := hnew x hx
   exact fun b hb => by
    rcases List.mem_cons.1 hb with rfl | hb
    ·exact ha
    ·exact hou b hb
 ·rw [List.append_assoc, List.singleton_append, List.pairwise_append]
  refine ⟨hsort.1, ?_, ?_⟩
  ·rw [List.pairwise_cons]
   refine ⟨fun x hx => ?_, ?_⟩
   ·rcases List.mem_append.1 hx with hx | hx
    ·exact hQ.1 x hx
    ·obtain ⟨a, -, rfl⟩ := hnew x hx
     exact slt_cons a u
   ·rw [List.pairwise_append]
    refine ⟨hQ.2, ?_, fun x hx y hy => ?_⟩
    ·rw [List.pairwise_map]
     exact List.pairwise_lt_range.imp fun hab => .inr ⟨rfl, hab⟩
    ·obtain ⟨a, -, rfl⟩ := hnew y hy
     exact hqn x hx a
  ·intro x hx y hy
   rcases List.mem_cons.1 hy with rfl | hy
   ·exact hse x hx
   ·rcases List.mem_append.1 hy with hy | hy
    ·exact hsort.2.2 x hx y (List.mem_cons_of_mem _ hy)
    ·obtain ⟨a, -, rfl⟩ := hnew y hy
     exact slt_trans (hse x hx) (slt_cons a u)
 ·rcases h.root with h1 | h1 | h1
  ·exact .inl (by simp [h1])
  ·rcases List.mem_cons.1 h1 with h2 | h2
   ·exact .inl (by simp [h2])
   ·exact .inr (.inl (by simp [h2]))
  ·exact .inr (.inr h1)
 ·intro x hx
  rcases List.mem_append.1 hx with hx | hx
  ·rcases h.par x (List.mem_cons_of_mem _ hx) with e | ⟨a, v, e, hv⟩
   ·exact .inl e
   ·exact .inr ⟨a, v, e, by simp [hv]⟩
  ·obtain ⟨a, -, rfl⟩ := hnew x hx
   exact .inr ⟨a, u, rfl, by simp⟩
 ·rw [List.map_append, List.nodup_append]
  refine ⟨h.nodup, by simp, fun x hx y hy e => ?_⟩
  obtain ⟨v, hv, rfl⟩ := List.mem_map.1 hx
  simp only [List.map_cons, List.map_nil, List.mem_singleton] at hy
  subst hy
  exact hn v hv e
 ·intro x hx
  rcases List.mem_append.1 hx with hx | hx
  ·exact h.alive x hx
  ·rw [List.mem_singleton] at hx; subst hx; exact ha
 ·intro x hx
  rcases List.mem_append.1 hx with hx | hx
  ·exact h.noF x hx
  ·rw [List.mem_singleton] at hx; subst hx; exact hF
 ·intro x hx a ham
  rcases List.mem_append.1 hx with hx | hx
  ·rcases h.done x hx a ham with h1 | h1 | ⟨v, hv, he, hs⟩
   ·rcases List.mem_cons.1 h1 with h2 | h2
    ·exact .inr (.inr ⟨u, by simp, by rw [h2], .inl h2.symm⟩)
    ·exact .inl (by simp [h2])
   ·exact .inr (.inl h1)
   ·exact .inr (.inr ⟨v, by simp [hv], he, hs⟩)
  ·rw [List.mem_singleton] at hx
   subst hx
   exact .inl (List.mem_append.2 (.inr (List.mem_map.2 ⟨a, List.mem_range.2 ham, rfl⟩)))

variable (s0 step m)
variable {s0 step m}
end

end Go.Proofs.YthofaoabgbgbdaaGreatDoor

namespace Go.Proofs.YthofaoabgbgbdaaGreatDoor
open Go Go.RowKit

/-- The visible labels of both. -/
def bothL (a b : Lts) : List ByteArray := labSet (tauT :: (a.labels ++ b.labels))
def labK (L : List ByteArray) (k : Nat) : ByteArray := L.getD (k + 1) ByteArray.empty
/-- Both systems take a label. -/
def goBoth (x y : Lts) (L : List ByteArray) (p : Int × Int) (k : Nat) : Int × Int := (goTo x p.1 (labK L k), goTo y p.2 (labK L k))
/-- The trace of a word. -/
def txtsOf (L : List ByteArray) (u : List Nat) : List ByteArray := u.reverse.map (labK L)
theorem txtsOf_cons (L : List ByteArray) (k : Nat) (u : List Nat) : txtsOf L (k :: u) = txtsOf L u ++ [labK L k] := by simp [txtsOf]
theorem goTo_neg {x : Lts} {q : Int} (h : q < 0) (l : ByteArray) : goTo x q l = -1 := by unfold goTo; rw [if_pos h]

/-- What both searches look for: a trace of b that is none of a; with 'both', one of a that is none of b too. -/
def apart (both : Bool) (p : Int × Int) : Prop := (p.1 < 0 ∧ 0 ≤ p.2) ∨ (both = true ∧ 0 ≤ p.1 ∧ p.2 < 0)
end Go.Proofs.YthofaoabgbgbdaaGreatDoor

namespace Go.Proofs.YthofaoabgbgbdaaGreatDoor
open Go Go.RowKit

/-- Each edge leads to the set behind it. -/
def EOk (t : Lts) (st : DNet) : Prop := ∀ e ∈ st.edges, ∃ cur, st.rows[e.src.toNat]? = some cur ∧ nextS t cur e.lab ≠ [] ∧ st.rows[e.dst.toNat]? = some (nextS t cur e.lab)
theorem dadd_get (rows : List (List Int)) (r : List Int) : (dadd rows r)[dplace rows r]? = some r := by
 unfold dadd
 have h2 := dplace_le rows r
 split
 ·next h => rw [List.getElem?_eq_getElem h, dplace_get h]
 ·next h =>
  have h3 : dplace rows r = rows.length := by omega
  rw [h3, List.getElem?_concat_length]
theorem dadd_old {rows : List (List Int)} (r : List Int) {i : Nat} {cur : List Int} (h : rows[i]? = some cur) : (dadd rows r)[i]? = some cur := by
 unfold dadd
 split
 ·exact h
 ·rw [List.getElem?_append_left (List.getElem?_eq_some_iff.1 h).1]; exact h
theorem EOk.step {t : Lts} {st : DNet} {i : Nat} {cur : List Int} (h : EOk t st) (hc : st.rows[i]? = some cur) (k : Nat) : EOk t (dstep t i cur st k) ∧ (dstep t i cur st k).rows[i]? = some cur := by
 unfold dstep
 split
 ·exact ⟨h, hc⟩
 ·next hne =>
  refine ⟨fun e he => ?_, dadd_old _ hc⟩
  rcases List.mem_append.1 he with he | he
  ·obtain ⟨c, h1, h2, h3⟩ := h e he
   exact ⟨c, dadd_old _ h1, h2, dadd_old _ h3⟩
  ·rw [List.mem_singleton] at he
   subst he
   refine ⟨cur, dadd_old _ (by rw [Int.toNat_natCast]; exact hc), hne, ?_⟩
   rw [Int.toNat_natCast]
   exact dadd_get _ _
theorem EOk.mid {t : Lts} {st : DNet} {i : Nat} {cur : List Int} (h : EOk t st) (hc : st.rows[i]? = some cur) : ∀ j, EOk t (dmid t i cur st j) ∧ (dmid t i cur st j).rows[i]? = some cur
 | 0 => ⟨h, hc⟩
 | j + 1 => by rw [dmid_succ]; exact (EOk.mid h hc j).1.step (EOk.mid h hc j).2 j
theorem EOk.at (t : Lts) : ∀ n, EOk t (dAt t n)
 | 0 => fun e he => by simp [dAt] at he
 | n + 1 => by
  rw [dAt]
  unfold drow
  split
  ·exact EOk.at t n
  ·next cur hc => exact ((EOk.at t n).mid hc _).1
theorem dok_eok {t : Lts} {st : DNet} (h : DOk t st) : EOk t st := by
 obtain ⟨⟨n, -, rfl, -⟩, -⟩ := h
 exact EOk.at t n
/-- A row, when its turn came. -/
theorem DOk.row {t : Lts} {st : DNet} (h : DOk t st) {i : Nat} (hi : i < st.rows.length) : ∃ cur, (dAt t i).rows[i]? = some cur ∧ st.rows[i]? = some cur ∧ (∀ j, j ≤ t.labels.length - 1 → DLe (dmid t i cur (dAt t i) j) st) ∧ dmid t i cur (dAt t i) (t.labels.length - 1) = dAt t (i + 1) := by
 obtain ⟨⟨m, hm, em, lm⟩, -⟩ := h
 have h1 := hm i (by omega)
 have hcur : (dAt t i).rows[i]? = some (dAt t i).rows[i] := List.getElem?_eq_getElem h1
 have h2 := dAt_le t i (m - i)
 rw [show i + (m - i) = m from by omega, em] at h2
 refine ⟨_, hcur, ?_, fun j hj => ?_, (dAt_succ hcur).symm⟩
 ·obtain ⟨r, hr⟩ := h2.rows
  rw [hr, List.getElem?_append_left h1]
  exact hcur
 ·have h3 := dmid_le t i (dAt t i).rows[i] (dAt t i) j (t.labels.length - 1 - j)
  rw [show j + (t.labels.length - 1 - j) = t.labels.length - 1 from by omega, ← dAt_succ hcur] at h3
  have h4 := dAt_le t (i + 1) (m - (i + 1))
  rw [show i + 1 + (m - (i + 1)) = m from by omega, em] at h4
  exact h3.trans h4
/-- An edge is found by its state and label. -/
theorem go_edge {t : Lts} {st : DNet} (hv : Valid t) (h : DOk t st) {e : Edge} (he : e ∈ st.edges) {k : Nat} (hk : k + 1 < t.labels.length) (hl : e.lab = (k : Int) + 1) : goTo (dSys t st) e.src (labK t.labels k) = e.dst := by
 have hG := dok_good hv h
 have hs0 := (hG.edges e he).1.1
 have hlk : labK t.labels k = t.labels[k + 1] := by unfold labK; rw [List.getD_eq_getElem?_getD, List.getElem?_eq_getElem hk]; rfl
 unfold goTo
 rw [if_neg (by omega)]
 have hfind : st.edges.find? (hitB (dSys t st) e.src (labK t.labels k)) = some e := by
  obtain ⟨j, hj, rfl⟩ := List.mem_iff_getElem.1 he
  refine find_at hj (fun i hi hij => ?_) ?_
  ·unfold hitB
   rw [Bool.and_eq_false_iff]
   by_cases hs : st.edges[i].src = st.edges[j].src
   ·right
    rw [beq_eq_false_iff_ne]
    intro hb
    obtain ⟨h1, h2, h3⟩ := lab_get hG (List.getElem_mem hi)
    have h4 : (labAt (dSys t st) st.edges[i]) = t.labels[st.edges[i].lab.toNat] := h2
    rw [h4, hlk] at hb
    have := labels_inj hv.labels _ _ h1 hk hb
    have hup := List.pairwise_iff_getElem.1 (dok_up h) i j hi hj hij
    omega
   ·left
    rw [beq_eq_false_iff_ne]
    exact hs
  ·unfold hitB
   obtain ⟨h1, h2, h3⟩ := lab_get hG he
   have h4 : (labAt (dSys t st) st.edges[j]) = t.labels[st.edges[j].lab.toNat] := h2
   have h5 : st.edges[j].lab.toNat = k + 1 := by omega
   rw [h4, hlk]
   simp [h5]
 show ((st.edges.find? _).map Edge.dst).getD (-1) = e.dst
 rw [hfind]
 rfl
theorem go_none {t : Lts} {st : DNet} (hv : Valid t) (h : DOk t st) {q : Int} {k : Nat} (hk : k + 1 < t.labels.length) (hn : ∀ e ∈ st.edges, e.src = q → e.lab ≠ (k : Int) + 1) : goTo (dSys t st) q (labK t.labels k) = -1 := by
 have hG := dok_good hv h
 have hlk : labK t.labels k = t.labels[k + 1] := by unfold labK; rw [List.getD_eq_getElem?_getD, List.getElem?_eq_getElem hk]; rfl
 unfold goTo
 split
 ·rfl
 ·have hfind : st.edges.find? (hitB (dSys t st) q (labK t.labels k)) = none := by
   refine find_none fun j hj => ?_
   unfold hitB
   rw [Bool.and_eq_false_iff]
   by_cases hs : st.edges[j].src = q
   ·right
    rw [beq_eq_false_iff_ne]
    intro hb
    obtain ⟨h1, h2, h3⟩ := lab_get hG (List.getElem_mem hj)
    have h4 : (labAt (dSys t st) st.edges[j]) = t.labels[st.edges[j].lab.toNat] := h2
    rw [h4, hlk] at hb
    have := labels_inj hv.labels _ _ h1 hk hb
    exact hn _ (List.getElem_mem hj) hs (by omega)
   ·left
    rw [beq_eq_false_iff_ne]
    exact hs
  show ((st.edges.find? _).map Edge.dst).getD (-1) = -1
  rw [hfind]
  rfl
/-- Where a row's label leads: nowhere, or to the set behind it. -/
theorem go_row {t : Lts} {st : DNet} (hv : Valid t) (h : DOk t st) {i : Nat} {cur : List Int} (hc : st.rows[i]? = some cur) {k : Nat} (hk : k + 1 < t.labels.length) :
  (nextS t cur ((k : Int) + 1) = [] ∧ goTo (dSys t st) i (labK t.labels k) = -1) ∨ (nextS t cur ((k : Int) + 1) ≠ [] ∧ ∃ j : Nat, goTo (dSys t st) i (labK t.labels k) = j ∧ st.rows[j]? = some (nextS t cur ((k : Int) + 1))) := by
 have hG := dok_good hv h
 have hE := dok_eok h
 by_cases hne : nextS t cur ((k : Int) + 1) = []
 ·refine .inl ⟨hne, go_none hv h hk fun e he hs hl => ?_⟩
  obtain ⟨c, h1, h2, -⟩ := hE e he
  rw [hs, Int.toNat_natCast, hc] at h1
  cases h1
  rw [hl] at h2
  exact h2 hne
 ·refine .inr ⟨hne, ?_⟩
  have hi := (List.getElem?_eq_some_iff.1 hc).1
  obtain ⟨c, h1, h2, h3, h4⟩ := h.row hi
  rw [hc] at h2
  cases h2
  obtain ⟨r, hr⟩ := (h3 (k + 1) (by omega)).edges
  have hmem : (⟨(i : Int), (k : Int) + 1, (dplace (dmid t i cur (dAt t i) k).rows (nextS t cur (k + 1)) : Int)⟩ : Edge) ∈ st.edges := by
   rw [hr, dmid_succ]
   unfold dstep
   rw [if_neg hne]
   simp
  have hg := go_edge hv h hmem hk rfl
  obtain ⟨c2, k1, -, k3⟩ := hE _ hmem
  simp only [Int.toNat_natCast] at k1 k3
  rw [hc] at k1
  cases k1
  exact ⟨_, hg, k3⟩
/-- A state's set; none for no state. -/
def setOf (st : DNet) (q : Int) : List Int := if q < 0 then [] else st.rows.getD q.toNat []
theorem nextS_nil {t : Lts} (hv : Valid t) (k : Int) : nextS t [] k = [] := by
 have hs := nextS_is hv [] k
 refine List.eq_nil_iff_forall_not_mem.2 fun x hx => ?_
 obtain ⟨a, ⟨e, -, -, he, -⟩, -⟩ := (hs.mem x).1 hx
 cases he
theorem setOf_at {st : DNet} {i : Nat} {cur : List Int} (h : st.rows[i]? = some cur) : setOf st (i : Int) = cur := by
 unfold setOf
 rw [if_neg (by omega), Int.toNat_natCast, List.getD_eq_getElem?_getD, h]
 rfl
theorem setOf_neg {st : DNet} {q : Int} (h : q < 0) : setOf st q = [] := by unfold setOf; rw [if_pos h]
/-- A label leads to the set behind the set. -/
theorem set_go {t : Lts} {st : DNet} (hv : Valid t) (h : DOk t st) {q : Int} (hq : q < (dSys t st).states) {k : Nat} (hk : k + 1 < t.labels.length) : setOf st (goTo (dSys t st) q (labK t.labels k)) = nextS t (setOf st q) ((k : Int) + 1) := by
 by_cases h0 : q < 0
 ·rw [goTo_neg h0, setOf_neg (by decide), setOf_neg h0, nextS_nil hv]
 ·have hq2 : q.toNat < st.rows.length := by have : q < (st.rows.length : Int) := hq; omega
  have hc : st.rows[q.toNat]? = some st.rows[q.toNat] := List.getElem?_eq_getElem hq2
  have e0 : q = ((q.toNat : Nat) : Int) := by omega
  rw [e0, setOf_at hc]
  rcases go_row hv h hc hk with ⟨h1, h2⟩ | ⟨h1, j, h2, h3⟩
  ·rw [h2, setOf_neg (by decide), h1]
  ·rw [h2, setOf_at h3]
theorem set_first {t : Lts} {st : DNet} (h : DOk t st) : setOf st 0 = firstS t := by
 obtain ⟨⟨m, hm, em, lm⟩, -⟩ := h
 obtain ⟨r, hr⟩ := (dAt_le t 0 m).rows
 rw [Nat.zero_add, em] at hr
 refine setOf_at (i := 0) ?_
 rw [hr, List.getElem?_append_left (by simp [dAt])]
 rfl
theorem set_some {t : Lts} {st : DNet} (hv : Valid t) (h : DOk t st) {q : Int} (h0 : 0 ≤ q) (hq : q < (dSys t st).states) : setOf st q ≠ [] := by
 have hG := dok_good hv h
 have hq2 : q.toNat < st.rows.length := by have : q < (st.rows.length : Int) := hq; omega
 have e0 : q = ((q.toNat : Nat) : Int) := by omega
 rw [e0, setOf_at (List.getElem?_eq_getElem hq2)]
 exact (hG.rows _ (List.getElem_mem hq2)).2.2

end Go.Proofs.YthofaoabgbgbdaaGreatDoor

namespace Go.Proofs.YthofaoabgbgbdaaGreatDoor
open Go Go.RowKit

def difS (x y : Lts) (L : List ByteArray) (u : List Nat) : Int × Int := wAt ((0 : Int), (0 : Int)) (goBoth x y L) u
theorem difS_cons (x y : Lts) (L : List ByteArray) (k : Nat) (u : List Nat) : difS x y L (k :: u) = (goTo x (difS x y L u).1 (labK L k), goTo y (difS x y L u).2 (labK L k)) := rfl
theorem difS_range {x y : Lts} (hx : Valid x) (hy : Valid y) (L : List ByteArray) : ∀ u, ((difS x y L u).1 < x.states ∧ -1 ≤ (difS x y L u).1) ∧ (difS x y L u).2 < y.states ∧ -1 ≤ (difS x y L u).2
 | [] => by have := hx.st0; have := hy.st0; exact ⟨⟨by show (0 : Int) < _; omega, by show (-1 : Int) ≤ 0; decide⟩, by show (0 : Int) < _; omega, by show (-1 : Int) ≤ 0; decide⟩
 | k :: u => by
  rw [difS_cons]
  have h1 := goTo_range hx (difS x y L u).1 (labK L k)
  have h2 := goTo_range hy (difS x y L u).2 (labK L k)
  exact ⟨⟨h1.2, h1.1⟩, h2.2, h2.1⟩
end Go.Proofs.YthofaoabgbgbdaaGreatDoor

namespace Go.Proofs.YthofaoabgbgbdaaGreatDoor
open Go Go.RowKit

def TailK (w : World) (base : Nat) (e : TypeId) (k : Nat) (v : Value) (n : Nat) (xs : List Value) : Prop :=
 xs.length = n * k ∧ ((v = .slice none 0 0 ∧ n = 0) ∨
 ∃ g o cap cur, v = .slice (some ⟨g, o, none⟩) n cap ∧ base ≤ g ∧ w.heap[g]? = some (.cells cur e (0, 0)) ∧ n ≤ cap ∧ cap ≤ maxLen ∧ o + cap * k ≤ cur.size ∧ ∀ j (h : j < xs.length), cur[o + j]? = some xs[j])
theorem TailK.of_owns {w : World} {base : Nat} {e : TypeId} {k n : Nat} {v : Value} {xs : List Value} (h : w.ownsRow base e k v n xs) : TailK w base e k v n xs := by
 refine ⟨h.1, ?_⟩
 rcases h.2 with h1 | ⟨g, cap, cur, h1, h2, h3, h4, h5, h6, h7⟩
 ·exact .inl h1
 ·refine .inr ⟨g, 0, cap, cur, h1, h2, h3, h4, h5, by omega, fun j hj => ?_⟩
  have h8 : (cur.toList.take (n * k))[j]? = xs[j]? := by rw [h7]
  rw [List.getElem?_take, if_pos (by rw [← h.1]; exact hj), List.getElem?_eq_getElem hj] at h8
  rw [Nat.zero_add]
  simpa using h8
theorem TailK.kept {w w' : World} {base : Nat} {e : TypeId} {k n : Nat} {v : Value} {xs : List Value} {row : Option Nat} (h : TailK w base e k v n xs) (hg : w.grownBy w' row) (hne : v.ownBlock = none ∨ v.ownBlock ≠ row) : TailK w' base e k v n xs := by
 refine ⟨h.1, ?_⟩
 rcases h.2 with h | ⟨g, o, cap, cur, rfl, h2, h3, rest⟩
 ·exact .inl h
 ·refine .inr ⟨g, o, cap, cur, rfl, h2, ?_, rest⟩
  rw [hg.block g (Array.getElem?_eq_some_iff.1 h3).1 (by simpa [Value.ownBlock] using hne)]
  exact h3
theorem TailK.below {w w' : World} {base : Nat} {e : TypeId} {k n : Nat} {v : Value} {xs : List Value} (h : TailK w base e k v n xs) (hb : Below w.heap.size w w') : TailK w' base e k v n xs := by
 refine ⟨h.1, ?_⟩
 rcases h.2 with h | ⟨g, o, cap, cur, rfl, h2, h3, rest⟩
 ·exact .inl h
 ·exact .inr ⟨g, o, cap, cur, rfl, h2, (hb.block g (Array.getElem?_eq_some_iff.1 h3).1).trans h3, rest⟩
theorem TailK.lt {w : World} {base : Nat} {e : TypeId} {k n : Nat} {v : Value} {xs : List Value} (h : TailK w base e k v n xs) : ∀ b, v.ownBlock = some b → base ≤ b ∧ b < w.heap.size := by
 intro b hb
 rcases h.2 with ⟨rfl, _⟩ | ⟨g, o, cap, cur, rfl, h2, h3, _⟩
 ·simp [Value.ownBlock] at hb
 ·simp [Value.ownBlock] at hb
  subst hb
  exact ⟨h2, (Array.getElem?_eq_some_iff.1 h3).1⟩
/-- The first element's cells, and the slice's form. -/
theorem TailK.head {w : World} {base : Nat} {e : TypeId} {k n : Nat} {v : Value} {xs : List Value} (h : TailK w base e k v (n + 1) xs) :
  ∃ g o cap, v = .slice (some ⟨g, o, none⟩) (n + 1) cap ∧ base ≤ g ∧ g < w.heap.size ∧ n + 1 ≤ cap ∧ cap ≤ maxLen ∧ ∀ j, j < xs.length → w.cell? ⟨g, o + j, none⟩ = xs[j]? := by
 rcases h.2 with ⟨_, h⟩ | ⟨g, o, cap, cur, rfl, h2, h3, h4, h5, h6, h7⟩
 ·omega
 ·refine ⟨g, o, cap, rfl, h2, (Array.getElem?_eq_some_iff.1 h3).1, h4, h5, fun j hj => ?_⟩
  rw [cell_of_row w g (o + j) cur e (0, 0) h3, h7 j hj, List.getElem?_eq_getElem hj]
/-- Popped. -/
theorem TailK.pop {w : World} {base : Nat} {e : TypeId} {g o k n cap : Nat} {xs : List Value} (h : TailK w base e k (.slice (some ⟨g, o, none⟩) (n + 1) cap) (n + 1) xs) :
  TailK w base e k (.slice (some ⟨g, o + k, none⟩) n (cap - 1)) n (xs.drop k) := by
 have hl := h.1
 refine ⟨by rw [List.length_drop, hl, Nat.add_mul, Nat.one_mul, Nat.add_sub_cancel], ?_⟩
 rcases h.2 with ⟨_, h⟩ | ⟨g', o', cap', cur, h1, h2, h3, h4, h5, h6, h7⟩
 ·omega
 ·simp only [Value.slice.injEq, Option.some.injEq, Addr.mk.injEq, and_true, true_and] at h1
  obtain ⟨⟨rfl, rfl⟩, rfl⟩ := h1
  have h8 : k + (cap - 1) * k = cap * k := by
   obtain ⟨c, rfl⟩ : ∃ c, cap = c + 1 := ⟨cap - 1, by omega⟩
   rw [Nat.add_sub_cancel, Nat.add_mul, Nat.one_mul, Nat.add_comm]
  refine .inr ⟨g, o + k, cap - 1, cur, rfl, h2, h3, by omega, by omega, by omega, fun j hj => ?_⟩
  rw [List.length_drop] at hj
  have := h7 (k + j) (by omega)
  rw [List.getElem_drop, show o + k + j = o + (k + j) from by omega]
  exact this
/-- Popped empty: the slice's address may have stayed. -/
theorem TailK.empty {w : World} {base : Nat} {e : TypeId} {g o k cap : Nat} {xs : List Value} (h : TailK w base e k (.slice (some ⟨g, o, none⟩) 0 cap) 0 xs) (o' : Nat) (ho : o' ≤ o) : TailK w base e k (.slice (some ⟨g, o', none⟩) 0 0) 0 [] := by
 refine ⟨by simp, ?_⟩
 rcases h.2 with ⟨h, _⟩ | ⟨g', o2, cap', cur, h1, h2, h3, h4, h5, h6, h7⟩
 ·simp at h
 ·simp only [Value.slice.injEq, Option.some.injEq, Addr.mk.injEq, and_true, true_and] at h1
  obtain ⟨⟨rfl, rfl⟩, rfl⟩ := h1
  exact .inr ⟨g, o', 0, cur, rfl, h2, h3, by omega, by simp [maxLen], by omega, fun j hj => by simp at hj⟩

theorem setCells_row {e : TypeId} (b : Nat) : ∀ (vs : List Value) (o : Nat) (w : World) (cur : Array Value), w.heap[b]? = some (.cells cur e (0, 0)) → o + vs.length ≤ cur.size →
  ∃ cur', (w.setCells b o vs).heap[b]? = some (.cells cur' e (0, 0)) ∧ cur'.size = cur.size ∧ (∀ j, j < o → cur'[j]? = cur[j]?) ∧ (∀ j (h : j < vs.length), cur'[o + j]? = some vs[j]) ∧ w.grownBy (w.setCells b o vs) (some b)
 | [], o, w, cur, h, hs => ⟨cur, h, rfl, fun _ _ => rfl, fun j hj => by simp at hj, grown_refl w _⟩
 | v :: vs, o, w, cur, h, hs => by
  have h1 := heap_setCell_same w b o cur e v h
  obtain ⟨cur', k1, k2, k3, k4, k5⟩ := setCells_row b vs (o + 1) (w.setCell ⟨b, o, none⟩ v) (cur.setIfInBounds o v) h1 (by rw [List.length_cons] at hs; rw [Array.size_setIfInBounds]; omega)
  rw [List.length_cons] at hs
  refine ⟨cur', k1, by rw [k2, Array.size_setIfInBounds], fun j hj => ?_, fun j hj => ?_, grown_trans (grown_setCell w ⟨b, o, none⟩ v) k5⟩
  ·rw [k3 j (by omega), Array.getElem?_setIfInBounds_ne (by omega)]
  ·cases j with
   | zero =>
    rw [Nat.add_zero, k3 o (by omega), Array.getElem?_setIfInBounds_self_of_lt (by omega)]
    rfl
   | succ j =>
    have := k4 j (by simpa using hj)
    rw [show o + (j + 1) = o + 1 + j from by omega]
    simpa using this

theorem run_append_tail {P : Program} (w : World) (t ty : TypeId) (base : Nat) (e : TypeId) (i : TypeInfo) (z : Value) (size bytes : Nat) (h1 : P.underlying t = some (.slice e)) (h2 : P.info? e = some i) (h3 : i.zero = some z)
  (h4 : i.size = size) (h5 : i.bytes = bytes) (h6 : z.cells.size = size) (h7 : 0 < size)
  (v : Value) (n : Nat) (xs : List Value) (hown : TailK w base e size v n xs)
  (ad : Addr) (news : List Value) (hl : news.length = size) (hnews : ∀ j u, news[j]? = some u → w.cell? (ad.add j) = some u) (hc1 : ∀ u ∈ news, u.oneCell' = true)
  (b1 : n + 1 ≤ maxLen) (b2 : (n + 1) * bytes ≤ 140737488355328) (hbase : base ≤ w.heap.size) :
  ∃ g o cap w', (Builtin.append_ #[t, t] ty #[v, .slice (some ad) 1 1]).run P w = .ok (.slice (some ⟨g, o, none⟩) (n + 1) cap) w' ∧ TailK w' base e size (.slice (some ⟨g, o, none⟩) (n + 1) cap) (n + 1) (xs ++ news) ∧ w.grownBy w' v.ownBlock ∧ (v.ownBlock = some g ∨ w.heap.size ≤ g) ∧ g < w'.heap.size := by
 have hl' : news.length = 1 * size := by rw [hl, Nat.one_mul]
 rcases hown.2 with ⟨rfl, rfl⟩ | ⟨g, off, cap, cur, rfl, k2, k3, k4, k5, k6, k7⟩
 ·have hx : xs = [] := List.eq_nil_of_length_eq_zero (by rw [hown.1]; simp)
  subst hx
  obtain ⟨g, cap, w', r1, r2, r3, r4, r5⟩ := run_append_lies (P := P) w t ty base e i z size bytes h1 h2 h3 h4 h5 h6 h7 (.slice none 0 0) 0 [] (World.ownsRow_nil w base e size) ad 1 1 news hl' hnews hc1 (by omega) b1 b2 hbase w.heap.size rfl
  refine ⟨g, 0, cap, w', r1, TailK.of_owns r2, r3, ?_, r5⟩
  rcases r4 with r4 | r4
  ·simp [Value.ownBlock] at r4
  ·exact .inr (Nat.le_of_eq r4.symm)
 ·have hxl := hown.1
  have hcell : ∀ j u, xs[j]? = some u → w.cell? ⟨g, off + j, none⟩ = some u := by
   intro j u hj
   obtain ⟨hlt, rfl⟩ := List.getElem?_eq_some_iff.1 hj
   rw [cell_of_row w g (off + j) cur e (0, 0) k3]
   exact k7 j hlt
  have hg := (Array.getElem?_eq_some_iff.1 k3).1
  by_cases hr : n + 1 ≤ cap
  ·subst h4
   have hfit : off + n * i.size + news.length ≤ cur.size := by
    have h8 : n * i.size + i.size ≤ cap * i.size := by
     have := Nat.mul_le_mul_right i.size hr
     rwa [Nat.add_mul, Nat.one_mul] at this
    omega
   have hrun := run_append_room_cells (P := P) w t ty e i h1 h2 g off n cap ad 1 1 news hl' hnews hc1 hr
    (fun j hj => by rw [cell_of_row w g _ cur e (0, 0) k3, Array.getElem?_eq_getElem (by omega)]; rfl) (fun j hj => by simp [World.frozen?, k3])
   obtain ⟨cur', c1, c2, c3, c4, c5⟩ := setCells_row g news (off + n * i.size) w cur k3 hfit
   refine ⟨g, off, cap, _, hrun, ⟨by rw [List.length_append, hxl, hl, Nat.add_mul, Nat.one_mul], .inr ⟨g, off, cap, cur', rfl, k2, c1, hr, k5, by rw [c2]; exact k6, fun j hj => ?_⟩⟩, by simpa [Value.ownBlock] using c5, .inl rfl, Nat.lt_of_lt_of_le hg c5.size⟩
   rw [List.length_append] at hj
   by_cases e1 : j < xs.length
   ·rw [List.getElem_append_left e1, c3 _ (by omega)]
    exact k7 j e1
   ·rw [List.getElem_append_right (by omega)]
    have := c4 (j - xs.length) (by omega)
    rw [show off + n * i.size + (j - xs.length) = off + j from by omega] at this
    exact this
  ·obtain ⟨v', w', r1, r2, r3⟩ := run_append_arg_grows (P := P) w t ty e i z size bytes h1 h2 h3 h4 h5 h6 h7 ⟨g, off, none⟩ n cap xs hxl (fun j u hj => by rw [Addr.add_lit]; exact hcell j u hj) ad 1 1 news hl' hnews (by omega) b1 b2
   obtain ⟨g', cap', rfl, q1, q2⟩ := r2.form (by omega)
   exact ⟨g', 0, cap', w', r1, TailK.of_owns (own_lower r2 hbase), ⟨r3.os, r3.tape, r3.output, r3.size, fun k hk _ => r3.block k hk (by simp)⟩, .inr q1, q2⟩

/-- At a step of a region that draws. -/
theorem step_append_tail {P : Program} (w : World) {ops : Array Oper} {o : Oper} {a : Act} {K : Act → World → Prop} {Q : Exit → Act → World → Prop} {E : Prop} (hgd : o.guard = none) (s x : Operand) (t : TypeId)
  (ho : o.op = .call { callee := .builtin .append, args := #[s, x], argTypes := #[t, t] })
  (base : Nat) (e : TypeId) (i : TypeInfo) (z : Value) (size bytes : Nat) (ht : P.underlying t = some (.slice e)) (hi : P.info? e = some i) (hz : i.zero = some z)
  (hsize : i.size = size) (hby : i.bytes = bytes) (hzs : z.cells.size = size) (hsz : 0 < size)
  (v : Value) (n : Nat) (xs : List Value) (hs : a.eval s = v) (hown : TailK w base e size v n xs)
  (ad : Addr) (news : List Value) (hx : a.eval x = .slice (some ad) 1 1) (hl : news.length = size) (hnews : ∀ j u, news[j]? = some u → w.cell? (ad.add j) = some u) (h1 : ∀ u ∈ news, u.oneCell' = true)
  (h63 : n + 1 ≤ maxLen) (hbytes : (n + 1) * bytes ≤ 140737488355328) (hbase : base ≤ w.heap.size)
  (h : ∀ g off cap w', TailK w' base e size (.slice (some ⟨g, off, none⟩) (n + 1) cap) (n + 1) (xs ++ news) → w.grownBy w' v.ownBlock → (v.ownBlock = some g ∨ w.heap.size ≤ g) → g < w'.heap.size → K (a.put o.dst (.slice (some ⟨g, off, none⟩) (n + 1) cap)) w') :
  if Region.wanted o (yielded ops a.tmps) = true then Oper.wp P o a w K Q else E := by
 have hw : Region.wanted o (yielded ops a.tmps) = true := by simp [Region.wanted, hgd]
 rw [if_pos hw]
 obtain ⟨g, off, cap, w', hr, h2, h3, h4, h5⟩ := run_append_tail (P := P) w t o.type base e i z size bytes ht hi hz hsize hby hzs hsz v n xs hown ad news hl hnews h1 h63 hbytes hbase
 unfold Oper.wp execOp
 simp only [ho, resolve, invoke, builtin, Sem.run_bind, Sem.run_pure, Result.andThen_ok, List.map_toArray, List.map_cons, List.map_nil, hs, hx, hr]
 exact h g off cap w' h2 h3 h4 h5

end Go.Proofs.YthofaoabgbgbdaaGreatDoor

namespace Go.Proofs.YthofaoabgbgbdaaGreatDoor
open Go Go.RowKit

/-- The two lists of the net. -/
def DMem (B : Nat) (st : DNet) (vr ve : Value) (w : World) : Prop :=
 (∃ vs, OwnIntss 34 2 B w vr vs st.rows) ∧ w.ownsRow B 68 3 ve st.edges.length (st.edges.flatMap encE)
theorem DMem.below {B : Nat} {st : DNet} {vr ve : Value} {w w' : World} (h : DMem B st vr ve w) (hb : Below w.heap.size w w') : DMem B st vr ve w' := by
 obtain ⟨⟨vs, h1⟩, h2⟩ := h
 exact ⟨⟨vs, h1.below hb⟩, owns_below h2 hb⟩

theorem DMem.start {W : World} {B B2 : Nat} {rv : Value} {xs : List Int} (hB : B ≤ B2) (hB2 : B ≤ W.heap.size) (hr : W.ownsRow B2 2 1 rv xs.length (xs.map (Value.int .i64))) :
  DMem B ⟨[xs], []⟩ (.slice (some ⟨W.heap.size, 0, none⟩) 1 1) (.slice (some ⟨W.heap.size + 1, 0, none⟩) 0 0) ((W.alloc (.cells #[rv] 34)).alloc (.cells #[] 68)) := by
 have hlt := hr.lt
 obtain ⟨W2, hW2⟩ : ∃ W2, W2 = W.alloc (.cells #[rv] 34) := ⟨_, rfl⟩
 have hs2 : W2.heap.size = W.heap.size + 1 := by rw [hW2]; simp
 have r2 : W2.ownsRow B 34 1 (.slice (some ⟨W.heap.size, 0, none⟩) 1 1) 1 [rv] := by
  rw [hW2]; exact World.ownsRow_lit (size := 1) W #[rv] 1 hB2 (by decide) rfl
 have r1 : W2.ownsRow B 2 1 rv xs.length (xs.map (Value.int .i64)) := by
  rw [hW2]; exact own_lower (hr.alloc _) hB
 rw [← hW2, ← hs2]
 clear hW2
 refine ⟨⟨[rv], rfl, r2.alloc _, ?_, ?_, ?_⟩, World.ownsRow_lit (size := 3) W2 #[] 0 (by omega) (by decide) rfl⟩
 ·intro i hi hi'
  obtain rfl : i = 0 := by simp at hi; omega
  simpa using r1.alloc _
 ·intro i j hi hj hij
  simp at hi hj
  omega
 ·intro i hi
  obtain rfl : i = 0 := by simp at hi; omega
  show rv.ownBlock = none ∨ rv.ownBlock ≠ some W.heap.size
  cases hb : rv.ownBlock with
  | none => exact .inl rfl
  | some b =>
   refine .inr fun e => ?_
   have := (hlt b hb).2
   have := Option.some.inj e
   omega

theorem DMem.push_row {B B2 : Nat} {st : DNet} {xs : List Int} {vr ve v' rv : Value} {wC wF w1 : World} {vs : List Value} (hr : OwnIntss 34 2 B wC vr vs st.rows) (he : wC.ownsRow B 68 3 ve st.edges.length (st.edges.flatMap encE))
  (hb : Below wC.heap.size wC wF) (hrow : wF.ownsRow B2 2 1 rv xs.length (xs.map (Value.int .i64))) (hB2 : wC.heap.size ≤ B2) (hB : B ≤ wC.heap.size) (hg : wF.grownBy w1 vr.ownBlock) (hv : w1.ownsRow B 34 1 v' (vs.length + 1) (vs ++ [rv])) :
  DMem B ⟨st.rows ++ [xs], st.edges⟩ v' ve w1 := by
 refine ⟨⟨vs ++ [rv], ?_⟩, ?_⟩
 ·exact OwnIntss.push (B := B2) (xs := xs) (by decide) hr hB2 hb hrow (Nat.le_trans hB hB2) hg hv
 ·exact (owns_below he hb).kept hg (own_types (owns_below he hb) (owns_below hr.2.1 hb) (by decide))

theorem DMem.push_edge {B : Nat} {st : DNet} {e : Edge} {vr ve v' : Value} {wE wF w1 : World} (h : DMem B st vr ve wE) (hb : Below wE.heap.size wE wF) (hg : wF.grownBy w1 ve.ownBlock)
  (hv : w1.ownsRow B 68 3 v' (st.edges.length + 1) (st.edges.flatMap encE ++ encE e)) : DMem B ⟨st.rows, st.edges ++ [e]⟩ vr v' w1 := by
 obtain ⟨⟨vs, h1⟩, h2⟩ := h.below hb
 refine ⟨⟨vs, h1.kept hg (own_types h1.2.1 h2 (by decide)) (fun i hi => ?_)⟩, ?_⟩
 ·exact own_types (h1.2.2.1 i hi (by rw [← h1.1]; exact hi)) h2 (by decide)
 ·simpa using hv

/-- One row as a slice. -/
theorem OwnIntss.rowAt {eo ei lo : Nat} {w : World} {v : Value} {vs : List Value} {rows : List (List Int)} (h : OwnIntss eo ei lo w v vs rows) {n : Nat} (hn : n < rows.length) :
  ∃ b c u, v = .slice (some ⟨b, 0, none⟩) rows.length c ∧ b < w.heap.size ∧ w.cell? ⟨b, n, none⟩ = some u ∧ w.ownsRow lo ei 1 u rows[n].length (rows[n].map (Value.int .i64)) ∧ SliceK 1 encI lo w u rows[n] := by
 obtain ⟨h1, h2, h3, -, -⟩ := h
 have hnv : n < vs.length := by omega
 have h4 := h3 n hnv hn
 rcases h2.2 with ⟨-, h⟩ | ⟨b, c, cur, rfl, -, hg, -⟩
 ·omega
 ·have hl := (Array.getElem?_eq_some_iff.1 hg).1
  have c1 := h2.cellAt n (by omega)
  rw [List.getElem?_eq_getElem hnv] at c1
  exact ⟨b, c, vs[n], by rw [h1], hl, c1, h4, SliceK.of_owns (enc := encI) encI_len rfl (by rw [flat_encI]; exact h4)⟩

end Go.Proofs.YthofaoabgbgbdaaGreatDoor
