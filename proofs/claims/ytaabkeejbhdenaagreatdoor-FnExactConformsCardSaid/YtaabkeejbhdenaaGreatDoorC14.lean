/-
  The program's search for the first trace: plain bounds, and how its queue lies in memory.
  What states offer, stable states, and where one system does not refine another one. Plain.
  The reference's place of a number among numbers.
  The system with the observations that there is no output. Plain.
  The reference's l28Output and l28Quiet.
  The states behind a trace, and their place among the sets of the deterministic system; the first label that can and cannot follow. Plain.
  What a state offers, as the reference lists it; lists of texts that grow.
  What both texts of IsDeterminate return.
  The outputs behind states of a suspended system, plainly: by follow, by edges, and in its deterministic system.
  The library's Index and Contains at a slice of texts.
  The library's slices.IndexFunc and slices.ContainsFunc at a slice of numbers, with a function that may lay blocks of its own.
-/
import Derived.Test.YtaabkeejbhdenaaGreatDoorC12
import Derived.Test.YtaabkeejbhdenaaGreatDoorC10
import Derived.Test.YtaabkeejbhdenaaGreatDoorC7
import Derived.Test.YtaabkeejbhdenaaGreatDoorC13
import Derived.Test.YtaabkeejbhdenaaGreatDoorC11
import Derived.Test.YtaabkeejbhdenaaGreatDoorC3
import Derived.Test.YtaabkeejbhdenaaGreatDoorC8
import Derived.Test.YtaabkeejbhdenaaGreatDoorProg
import Derived.Test.YtaabkeejbhdenaaGreatDoorC1
namespace Go.Proofs.YtaabkeejbhdenaaGreatDoor
open Go Go.RowKit

/-- What the program passes over. -/
def deadB (p : Int × Int) : Prop := p.1 < 0 ∧ p.2 < 0
theorem deadB_step (x y : Lts) (L : List ByteArray) (s : Int × Int) (a : Nat) (h : deadB s) : deadB (goBoth x y L s a) := by
 refine ⟨?_, ?_⟩
 ·show goTo x s.1 _ < 0
  rw [goTo_neg h.1]; decide
 ·show goTo y s.2 _ < 0
  rw [goTo_neg h.2]; decide
/-- What is looked for, at a state that is not passed over. -/
def liveF (F : Int × Int → Prop) (p : Int × Int) : Prop := ¬ deadB p ∧ F p
theorem liveF_not {F : Int × Int → Prop} (s : Int × Int) (h : deadB s) : ¬ liveF F s := fun k => k.1 h

/-- A pair's place among the pairs. -/
def pairNo (p : Int × Int) : Nat := ((p.1 + 1) * 41 + (p.2 + 1)).toNat
theorem QSt.few {x y : Lts} {L : List ByteArray} {m : Nat} {F : Int × Int → Prop} {N Q : List (List Nat)} (hx : Valid x) (hy : Valid y) (h : QSt ((0 : Int), (0 : Int)) (goBoth x y L) m deadB F N Q) : N.length ≤ 1681 := by
 have hp : ∀ u, (-1 ≤ (difS x y L u).1 ∧ (difS x y L u).1 < 40) ∧ -1 ≤ (difS x y L u).2 ∧ (difS x y L u).2 < 40 := fun u => by
  have h2 := difS_range hx hy L u
  have h3 := hx.st1
  have h4 := hy.st1
  exact ⟨⟨h2.1.2, by omega⟩, h2.2.2, by omega⟩
 have h1 : (N.map fun u => pairNo (difS x y L u)).Nodup := by
  have hn := h.nodup
  rw [List.nodup_iff_pairwise_ne, List.pairwise_map] at hn ⊢
  refine hn.imp ?_
  intro a b hne e
  have h1 := hp a
  have h2 := hp b
  refine hne ?_
  show difS x y L a = difS x y L b
  unfold pairNo at e
  have e1 : (difS x y L a).1 = (difS x y L b).1 := by omega
  have e2 : (difS x y L a).2 = (difS x y L b).2 := by omega
  exact Prod.ext e1 e2
 have := nodup_lt 1681 _ h1 (fun z hz => by
  obtain ⟨u, hu, rfl⟩ := List.mem_map.1 hz
  have := hp u
  unfold pairNo
  omega)
 rwa [List.length_map] at this

/-- The queue, plainly: words of what is seen, words to come; none longer than there are seen. -/
structure FSt (x y : Lts) (L : List ByteArray) (m : Nat) (F : Int × Int → Prop) (seen Q : List (List Nat)) : Prop where
 st : QSt ((0 : Int), (0 : Int)) (goBoth x y L) m deadB (liveF F) seen Q
 long : ∀ u ∈ Q, u.length ≤ seen.length
 few : Q.length ≤ 1 + m * seen.length
theorem FSt.start (x y : Lts) (L : List ByteArray) (m : Nat) (F : Int × Int → Prop) : FSt x y L m F [] [[]] :=
 ⟨QSt.start _ _, fun u hu => by rw [List.mem_singleton] at hu; subst hu; simp, by simp⟩
theorem FSt.skip {x y : Lts} {L : List ByteArray} {m : Nat} {F : Int × Int → Prop} {seen Q : List (List Nat)} {u : List Nat} (h : FSt x y L m F seen (u :: Q)) (hu : deadB (difS x y L u) ∨ ∃ v ∈ seen, difS x y L v = difS x y L u) : FSt x y L m F seen Q :=
 ⟨h.st.skip hu, fun v hv => h.long v (List.mem_cons_of_mem _ hv), by have := h.few; simp only [List.length_cons] at this; omega⟩
theorem FSt.take {x y : Lts} {L : List ByteArray} {m : Nat} {F : Int × Int → Prop} {seen Q : List (List Nat)} {u : List Nat} (h : FSt x y L m F seen (u :: Q)) (ha : ¬ deadB (difS x y L u)) (hn : ∀ v ∈ seen, difS x y L v ≠ difS x y L u) (hF : ¬ F (difS x y L u)) :
  FSt x y L m F (seen ++ [u]) (Q ++ (List.range m).map (· :: u)) := by
 refine ⟨h.st.take ha hn (fun k => hF k.2), fun v hv => ?_, ?_⟩
 ·rw [List.length_append, List.length_singleton]
  rcases List.mem_append.1 hv with hv | hv
  ·have := h.long v (List.mem_cons_of_mem _ hv); omega
  ·obtain ⟨a, -, rfl⟩ := List.mem_map.1 hv
   have := h.long u (by simp)
   rw [List.length_cons]; omega
 ·have := h.few
  rw [List.length_append, List.length_append, List.length_map, List.length_range, List.length_singleton, Nat.mul_add, Nat.mul_one]
  simp only [List.length_cons] at this
  omega

/-- What is returned: the first word's trace, and whether there is one. -/
def FirstIs (x y : Lts) (L : List ByteArray) (F : Int × Int → Prop) (r : Bool) (xs : List ByteArray) : Prop :=
 xs.length ≤ 2000 ∧ ((NoWord ((0 : Int), (0 : Int)) (goBoth x y L) (L.length - 1) (liveF F) ∧ r = false ∧ xs = []) ∨ ∃ u, Least ((0 : Int), (0 : Int)) (goBoth x y L) (L.length - 1) (liveF F) u ∧ r = true ∧ xs = txtsOf L u)
theorem FSt.least {x y : Lts} {L : List ByteArray} {F : Int × Int → Prop} {seen Q : List (List Nat)} {u : List Nat} (hx : Valid x) (hy : Valid y) (h : FSt x y L (L.length - 1) F seen (u :: Q)) (ha : ¬ deadB (difS x y L u)) (hF : F (difS x y L u)) : FirstIs x y L F true (txtsOf L u) := by
 refine ⟨?_, .inr ⟨u, h.st.least (deadB_step x y L) liveF_not ⟨ha, hF⟩, rfl, rfl⟩⟩
 have h1 := h.st.few hx hy
 have h2 := h.long u (by simp)
 simp only [txtsOf, List.length_map, List.length_reverse]
 omega
theorem FSt.none {x y : Lts} {L : List ByteArray} {F : Int × Int → Prop} {seen : List (List Nat)} (h : FSt x y L (L.length - 1) F seen []) : FirstIs x y L F false [] :=
 ⟨by simp, .inl ⟨h.st.none (deadB_step x y L) liveF_not, rfl, rfl⟩⟩

/-- A word of the queue: its two states, its trace. -/
def encQ (x y : Lts) (L : List ByteArray) (p : List Nat × Value) : List Value := [.int .i64 (difS x y L p.1).1, .int .i64 (difS x y L p.1).2, p.2]
theorem encQ_len (x y : Lts) (L : List ByteArray) (p : List Nat × Value) : (encQ x y L p).length = 3 := rfl
theorem flat_len3 (x y : Lts) (L : List ByteArray) (ns : List (List Nat × Value)) : (ns.flatMap (encQ x y L)).length = ns.length * 3 := by
 induction ns with
 | nil => rfl
 | cons a r ih => rw [List.flatMap_cons, List.length_append, ih, encQ_len, List.length_cons]; omega
structure OwnQ (B : Nat) (w : World) (x y : Lts) (L : List ByteArray) (v : Value) (ns : List (List Nat × Value)) : Prop where
 all : TailK w B 115 3 v ns.length (ns.flatMap (encQ x y L))
 rows : ∀ p ∈ ns, w.ownsRow B 9 1 p.2 p.1.length (txts (txtsOf L p.1))
theorem OwnQ.below {B : Nat} {w w' : World} {x y : Lts} {L : List ByteArray} {v : Value} {ns : List (List Nat × Value)} (h : OwnQ B w x y L v ns) (hb : Below w.heap.size w w') : OwnQ B w' x y L v ns :=
 ⟨h.all.below hb, fun p hp => owns_below (h.rows p hp) hb⟩
theorem TailK.type_far {w : World} {base base2 size size2 e e2 n n2 : Nat} {v v2 : Value} {xs xs2 : List Value} (h : TailK w base e size v n xs) (ho : w.ownsRow base2 e2 size2 v2 n2 xs2) (he : e2 ≠ e) : v2.ownBlock = none ∨ v2.ownBlock ≠ v.ownBlock := by
 rcases h.2 with ⟨rfl, -⟩ | ⟨g, o, cap, cur, rfl, -, hg, -⟩
 ·cases hb : v2.ownBlock with
  | none => exact .inl rfl
  | some b => exact .inr (by simp [Value.ownBlock])
 ·exact own_type_far ho hg he
theorem TailK.blk_far {w : World} {base size e n b t : Nat} {v : Value} {xs cs : List Value} (h : TailK w base e size v n xs) (hb : Blk w b cs t) (he : t ≠ e) : some b ≠ v.ownBlock := by
 rcases h.2 with ⟨rfl, -⟩ | ⟨g, o, cap, cur, rfl, -, hg, -⟩
 ·simp [Value.ownBlock]
 ·intro e1
  simp only [Value.ownBlock, Option.some.injEq] at e1
  subst e1
  have := hb
  unfold Blk at this
  rw [this] at hg
  simp only [Option.some.injEq, Obj.cells.injEq] at hg
  exact he hg.2.1
theorem TailK.map_far {w : World} {base size e n b c : Nat} {v : Value} {xs : List Value} {es : Array MapEntry} (h : TailK w base e size v n xs) (hb : w.heap[b]? = some (.map es c)) : some b ≠ v.ownBlock := by
 rcases h.2 with ⟨rfl, -⟩ | ⟨g, o, cap, cur, rfl, -, hg, -⟩
 ·simp [Value.ownBlock]
 ·intro e1
  simp only [Value.ownBlock, Option.some.injEq] at e1
  subst e1
  rw [hb] at hg
  cases hg
/-- The queue's first word, in the cells. -/
theorem OwnQ.head {B : Nat} {w : World} {x y : Lts} {L : List ByteArray} {v : Value} {p : List Nat × Value} {ns : List (List Nat × Value)} (h : OwnQ B w x y L v (p :: ns)) :
  ∃ g o cap, v = .slice (some ⟨g, o, none⟩) (ns.length + 1) cap ∧ B ≤ g ∧ g < w.heap.size ∧ ns.length + 1 ≤ cap ∧ cap ≤ maxLen ∧ w.cell? ⟨g, o, none⟩ = some (.int .i64 (difS x y L p.1).1) ∧ w.cell? ⟨g, o + 1, none⟩ = some (.int .i64 (difS x y L p.1).2) ∧ w.cell? ⟨g, o + 2, none⟩ = some p.2
   ∧ OwnQ B w x y L (.slice (some ⟨g, o + 3, none⟩) ns.length (cap - 1)) ns ∧ (cap = 1 → OwnQ B w x y L (.slice (some ⟨g, o, none⟩) ns.length 0) ns) := by
 have ha := h.all
 rw [List.length_cons] at ha
 obtain ⟨g, o, cap, rfl, h1, h2, h3, h4, h5⟩ := ha.head
 have hl : 3 ≤ ((p :: ns).flatMap (encQ x y L)).length := by rw [flat_len3, List.length_cons]; omega
 have c0 := h5 0 (by omega)
 have c1 := h5 1 (by omega)
 have c2 := h5 2 (by omega)
 have hp := ha.pop
 rw [List.flatMap_cons, List.drop_left' (encQ_len x y L p)] at hp
 refine ⟨g, o, cap, rfl, h1, h2, h3, h4, by first | (have h := c0; rw [List.flatMap_cons] at h; exact h) | exact c0, by first | (have h := c1; rw [List.flatMap_cons] at h; exact h) | exact c1, by first | (have h := c2; rw [List.flatMap_cons] at h; exact h) | exact c2, ⟨hp, fun q hq => h.rows q (List.mem_cons_of_mem _ hq)⟩, fun hc => ?_⟩
 have hn : ns = [] := List.eq_nil_of_length_eq_zero (by omega)
 subst hn
 exact ⟨hp.empty o (by omega), fun q hq => by cases hq⟩
theorem OwnQ.form {B : Nat} {w : World} {x y : Lts} {L : List ByteArray} {v : Value} {ns : List (List Nat × Value)} (h : OwnQ B w x y L v ns) : ∃ a c, v = .slice a ns.length c := by
 rcases h.all.2 with ⟨rfl, e⟩ | ⟨g, o, cap, cur, rfl, -⟩
 ·exact ⟨none, 0, by rw [e]⟩
 ·exact ⟨_, _, rfl⟩
/-- Another row was written. -/
theorem OwnQ.kept {B : Nat} {w w' : World} {x y : Lts} {L : List ByteArray} {v : Value} {ns : List (List Nat × Value)} {row : Option Nat} (h : OwnQ B w x y L v ns) (hg : w.grownBy w' row) (h1 : v.ownBlock = none ∨ v.ownBlock ≠ row) (h2 : ∀ p ∈ ns, p.2.ownBlock = none ∨ p.2.ownBlock ≠ row) : OwnQ B w' x y L v ns :=
 ⟨h.all.kept hg h1, fun p hp => (h.rows p hp).kept hg (h2 p hp)⟩
/-- The map was written. -/
theorem OwnQ.map {B : Nat} {w w' : World} {x y : Lts} {L : List ByteArray} {v : Value} {ns : List (List Nat × Value)} {b c : Nat} {es : Array MapEntry} (h : OwnQ B w x y L v ns) (hb : w.heap[b]? = some (.map es c)) (hg : w.grownBy w' (some b)) : OwnQ B w' x y L v ns := by
 refine h.kept hg ?_ fun p hp => own_map_ne (h.rows p hp) hb
 cases hv : v.ownBlock with
 | none => exact .inl rfl
 | some g => exact .inr fun e => h.all.map_far hb (by rw [hv, e])
/-- One word more. -/
theorem OwnQ.push {B : Nat} {w wA w6 : World} {x y : Lts} {L : List ByteArray} {v v' tv : Value} {ns : List (List Nat × Value)} {u : List Nat} {k : Nat} (h : OwnQ B w x y L v ns) (hb : Below w.heap.size w wA)
  (hr : wA.ownsRow B 9 1 tv (k :: u).length (txts (txtsOf L (k :: u)))) (hg : wA.grownBy w6 v.ownBlock)
  (ho : TailK w6 B 115 3 v' (ns.length + 1) (ns.flatMap (encQ x y L) ++ [.int .i64 (goTo x (difS x y L u).1 (labK L k)), .int .i64 (goTo y (difS x y L u).2 (labK L k)), tv])) : OwnQ B w6 x y L v' (ns ++ [(k :: u, tv)]) := by
 have hA := h.below hb
 refine ⟨?_, fun p hp => ?_⟩
 ·rw [List.length_append, List.flatMap_append]
  simpa [encQ, difS_cons] using ho
 ·rcases List.mem_append.1 hp with hp | hp
  ·exact (hA.rows p hp).kept hg (hA.all.type_far (hA.rows p hp) (by decide))
  ·rw [List.mem_singleton] at hp
   subst hp
   exact hr.kept hg (hA.all.type_far hr (by decide))

end Go.Proofs.YtaabkeejbhdenaaGreatDoor

namespace Go.Proofs.YtaabkeejbhdenaaGreatDoor
open Go Go.RowKit

/-- A text among texts. -/
def inT (ss : List ByteArray) (s : ByteArray) : Bool := ss.any fun t => t.toList == s.toList
theorem inT_mem {ss : List ByteArray} {s : ByteArray} : inT ss s = true ↔ s ∈ ss := by
 unfold inT
 rw [List.any_eq_true]
 exact ⟨fun ⟨x, hx, h⟩ => toList_inj (eq_of_beq h) ▸ hx, fun h => ⟨s, h, by simp⟩⟩
/-- The labels of the edges from a state. -/
def rdy (t : Lts) (k : Int) : List ByteArray := labSet ((outOf t k).map (labAt t))
theorem lab_tau {t : Lts} (hv : Valid t) {e : Edge} (he : e ∈ t.edges) : labAt t e = tauT ↔ e.lab = 0 := by
 obtain ⟨i, hi, rfl⟩ := List.mem_iff_getElem.1 he
 have hok := hv.edge i hi
 obtain ⟨hlt, hl⟩ := labAt_idx hok
 obtain ⟨h0, ht⟩ := tau_first hv
 rw [hl]
 constructor
 ·intro h
  have := labels_inj hv.labels _ 0 hlt h0 (by rw [h, ht])
  have := hok.l0
  omega
 ·intro h
  have e0 : t.edges[i].lab.toNat = 0 := by omega
  rw [← ht]
  congr 1
/-- What one list has and another one has not. -/
def lackL (set other : List ByteArray) : List ByteArray := set.filter fun s => !inT other s
end Go.Proofs.YtaabkeejbhdenaaGreatDoor

namespace Go.Proofs.YtaabkeejbhdenaaGreatDoor
open Go Go.RowKit

/-- The numbers below n. -/
def upI (n : Nat) : List Int := (List.range n).map fun (j : Nat) => (j : Int)
theorem upI_len (n : Nat) : (upI n).length = n := by simp [upI]
theorem upI_succ (n : Nat) : upI (n + 1) = upI n ++ [(n : Int)] := by simp [upI, List.range_succ]
end Go.Proofs.YtaabkeejbhdenaaGreatDoor

namespace Go.Proofs.YtaabkeejbhdenaaGreatDoor
open Go Go.RowKit

def deltaB : List UInt8 := [100, 101, 108, 116, 97]
def deltaT : ByteArray := ⟨#[100, 101, 108, 116, 97]⟩
theorem deltaT_list : deltaT.toList = deltaB := by rw [Lib.toList_data]; rfl
theorem deltaT_name : labName deltaT = deltaB := by unfold labName; decide
/-- A system and names of inputs. -/
structure IfOk (t : Lts) (ins : List ByteArray) : Prop where
 valid : Valid t
 acts : ∀ i (h : i < ins.length), isAction ins[i].data.toList = true
 rise : ∀ i (h : i + 1 < ins.length), strLess ins[i] ins[i + 1] = true
 nodelta : ∀ s ∈ ins, s.toList ≠ deltaB
 names : ∀ l ∈ t.labels, labName l ≠ deltaB
theorem IfOk.free {t : Lts} {ins : List ByteArray} (h : IfOk t ins) : deltaT ∉ t.labels := fun hm => h.names _ hm deltaT_name
/-- A label is no input: it is an output, or tau. -/
def outB (ins : List ByteArray) (l : ByteArray) : Bool := !(ins.any fun s => s.toList == labName l)
/-- No edge from a state bears tau or an output. -/
def quietB (t : Lts) (ins : List ByteArray) (k : Int) : Bool := t.edges.all fun e => !((e.src == k) && (e.lab == 0 || outB ins (labAt t e)))
def quiets (t : Lts) (ins : List ByteArray) : List Int := (upI t.states.toNat).filter (quietB t ins)
theorem quiets_len (t : Lts) (ins : List ByteArray) : (quiets t ins).length ≤ t.states.toNat := by
 unfold quiets
 refine Nat.le_trans (List.length_filter_le _ _) ?_
 rw [upI_len]
 exact Nat.le_refl _
def susArcs (t : Lts) (ins : List ByteArray) : List Arc := t.edges.map (arcOf t) ++ (quiets t ins).map fun k => ⟨k, deltaT, k⟩
def susL (t : Lts) : List ByteArray := labSet (tauT :: (t.labels ++ [deltaT]))
def susT (t : Lts) (ins : List ByteArray) : Lts := ⟨t.states, t.initial, susL t, sortEs ((susArcs t ins).map (edgeIn (susL t)))⟩
theorem susL_mem {t : Lts} (l : ByteArray) : l ∈ susL t ↔ l = tauT ∨ l ∈ t.labels ∨ l = deltaT := by
 unfold susL
 rw [(labSet_is _).2]
 simp
theorem idxL_inj {L : List ByteArray} {a b : ByteArray} (ha : a ∈ L) (hb : b ∈ L) (h : idxL L a = idxL L b) : a = b := by
 obtain ⟨h1, e1, -⟩ := idxL_get ha
 obtain ⟨h2, e2, -⟩ := idxL_get hb
 rw [← e1, ← e2]
 congr 1
theorem upI_nodup (n : Nat) : (upI n).Nodup := by
 unfold upI
 rw [List.nodup_iff_pairwise_ne, List.pairwise_map]
 refine (List.nodup_iff_pairwise_ne.1 (List.nodup_range (n := n))).imp ?_
 intro a b h e
 exact h (by omega)
theorem lab_mem {t : Lts} (hv : Valid t) {e : Edge} (he : e ∈ t.edges) : labAt t e ∈ t.labels := by
 obtain ⟨i, hi, rfl⟩ := List.mem_iff_getElem.1 he
 obtain ⟨hk, hl⟩ := labAt_idx (hv.edge i hi)
 rw [hl]
 exact List.getElem_mem _
theorem arcs_in {t : Lts} (hv : Valid t) (ins : List ByteArray) : ∀ a ∈ susArcs t ins, a.lab ∈ susL t := by
 intro a ha
 rw [susL_mem]
 unfold susArcs at ha
 rcases List.mem_append.1 ha with ha | ha
 ·obtain ⟨e, he, rfl⟩ := List.mem_map.1 ha
  exact .inr (.inl (lab_mem hv he))
 ·obtain ⟨k, -, rfl⟩ := List.mem_map.1 ha
  exact .inr (.inr rfl)
theorem sus_less {t : Lts} (hv : Valid t) {i : Nat} : ∀ {j : Nat}, i < j → ∀ (hi : i < t.edges.length) (hj : j < t.edges.length), edgeLess t.edges[i] t.edges[j] = true := by
 intro j hij
 induction j with
 | zero => omega
 | succ j ih =>
  intro hi hj
  by_cases e : i = j
  ·subst e; exact hv.rise i hj
  ·exact edgeLess_trans _ _ _ (ih (by omega) hi (by omega)) (hv.rise j hj)
theorem sus_text {L : List ByteArray} {l : ByteArray} (h : l ∈ L) : textAt L l = (idxL L l : Nat) := by
 obtain ⟨hk, -, -⟩ := idxL_get h
 unfold textAt
 unfold idxL at hk ⊢
 rw [if_pos hk]
theorem sus_nodup {t : Lts} {ins : List ByteArray} (h : IfOk t ins) : ((susArcs t ins).map (edgeIn (susL t))).Nodup := by
 have hv := h.valid
 have hmem := arcs_in hv ins
 have hinj : ∀ a ∈ susArcs t ins, ∀ b ∈ susArcs t ins, edgeIn (susL t) a = edgeIn (susL t) b → a = b := by
  intro a ha b hb e
  unfold edgeIn at e
  simp only [Edge.mk.injEq] at e
  obtain ⟨e1, e2, e3⟩ := e
  have e4 := idxL_inj (hmem a ha) (hmem b hb) (by omega)
  cases a; cases b
  simp only at e1 e3 e4
  subst e1 e3 e4
  rfl
 have harcs : (susArcs t ins).Nodup := by
  unfold susArcs
  rw [List.nodup_append]
  refine ⟨?_, ?_, ?_⟩
  ·rw [List.nodup_iff_pairwise_ne, List.pairwise_map]
   rw [List.pairwise_iff_getElem]
   intro i j hi hj hij e
   have h1 := hv.edge i hi
   have h2 := hv.edge j hj
   unfold arcOf at e
   simp only [Arc.mk.injEq] at e
   obtain ⟨e1, e2, e3⟩ := e
   obtain ⟨k1, l1⟩ := labAt_idx h1
   obtain ⟨k2, l2⟩ := labAt_idx h2
   rw [l1, l2] at e2
   have e4 := labels_inj hv.labels _ _ k1 k2 (by rw [e2])
   have hl1 := h1.l0
   have hl2 := h2.l0
   have hlt := sus_less hv hij hi hj
   rw [edgeLess_iff] at hlt
   omega
  ·rw [List.nodup_iff_pairwise_ne, List.pairwise_map]
   have hq : (quiets t ins).Nodup := (upI_nodup _).filter _
   refine (List.nodup_iff_pairwise_ne.1 hq).imp ?_
   intro a b hne e
   simp only [Arc.mk.injEq] at e
   exact hne e.1
  ·intro a ha b hb e
   obtain ⟨x, hx, rfl⟩ := List.mem_map.1 ha
   obtain ⟨k, -, rfl⟩ := List.mem_map.1 hb
   unfold arcOf at e
   simp only [Arc.mk.injEq] at e
   exact h.free (e.2.1 ▸ lab_mem hv hx)
 rw [List.nodup_iff_pairwise_ne, List.pairwise_map]
 refine List.Pairwise.imp_of_mem ?_ (List.nodup_iff_pairwise_ne.1 harcs)
 intro a b ha hb hne e
 exact hne (hinj a ha b hb e)
theorem sortEs_rise {es : List Edge} (h : es.Nodup) : RiseE (sortEs es) := by
 have hs : (sortEs es).Pairwise fun a b => (!edgeLess b a) = true := by
  unfold sortEs
  refine List.pairwise_mergeSort ?_ ?_ _
  ·intro a b c h1 h2
   have k1 : edgeLess b a = false := by simpa using h1
   have k2 : edgeLess c b = false := by simpa using h2
   have : edgeLess c a = false := by
    rw [Bool.eq_false_iff] at k1 k2 ⊢
    intro k
    rw [edgeLess_iff] at k
    rw [ne_eq, edgeLess_iff] at k1 k2
    omega
   simp [this]
  ·intro a b
   cases h1 : edgeLess b a with
   | false => simp
   | true =>
    have : edgeLess a b = false := by
     rw [Bool.eq_false_iff]
     intro k
     have := edgeLess_trans a b a k h1
     rw [edgeLess_irrefl] at this
     cases this
    simp [this]
 have hn : (sortEs es).Nodup := by unfold sortEs; exact (List.mergeSort_perm _ _).nodup_iff.2 h
 unfold RiseE
 refine List.Pairwise.imp₂ ?_ hs (List.nodup_iff_pairwise_ne.1 hn)
 intro a b h1 h2
 have k1 : edgeLess b a = false := by simpa using h1
 cases k2 : edgeLess a b with
 | true => rfl
 | false => exact absurd (edgeLess_tri a b k2 k1) h2
theorem rise_same {a b : List Edge} (ha : RiseE a) (hb : RiseE b) (h : ∀ x, x ∈ a ↔ x ∈ b) : a = b :=
 rise_unique (fun x y => edgeLess x y = true) (fun a h => by rw [edgeLess_irrefl] at h; cases h) (fun a b h k => by have := edgeLess_trans a b a h k; rw [edgeLess_irrefl] at this; cases this) a b ha hb h
/-- The reference's edges, whose labels are places of the texts. -/
def susEs (t : Lts) (ins : List ByteArray) : List Edge := t.edges ++ (quiets t ins).map fun k => ⟨k, (t.labels.length : Int), k⟩
theorem susEs_mem {t : Lts} {ins : List ByteArray} (hv : Valid t) (x : Edge) : x ∈ (susEs t ins).map (makeE (susL t) (t.labels ++ [deltaT])) ↔ x ∈ (susArcs t ins).map (edgeIn (susL t)) := by
 have h1 : ∀ e ∈ t.edges, makeE (susL t) (t.labels ++ [deltaT]) e = edgeIn (susL t) (arcOf t e) := by
  intro e he
  obtain ⟨i, hi, rfl⟩ := List.mem_iff_getElem.1 he
  obtain ⟨hk, hl⟩ := labAt_idx (hv.edge i hi)
  unfold makeE edgeIn arcOf
  simp only
  rw [List.getD_eq_getElem?_getD, List.getElem?_append_left hk, List.getElem?_eq_getElem hk, Option.getD_some, ← hl, sus_text (by rw [susL_mem]; exact .inr (.inl (lab_mem hv he)))]
 have h2 : ∀ k : Int, makeE (susL t) (t.labels ++ [deltaT]) ⟨k, (t.labels.length : Int), k⟩ = edgeIn (susL t) ⟨k, deltaT, k⟩ := by
  intro k
  unfold makeE edgeIn
  simp only [Int.toNat_natCast]
  rw [List.getD_eq_getElem?_getD, List.getElem?_concat_length, Option.getD_some, sus_text (by rw [susL_mem]; exact .inr (.inr rfl))]
 unfold susEs susArcs
 rw [List.map_append, List.map_append, List.map_map, List.map_map, List.mem_append, List.mem_append]
 have e1 : t.edges.map (makeE (susL t) (t.labels ++ [deltaT])) = t.edges.map (edgeIn (susL t) ∘ arcOf t) := List.map_congr_left h1
 have e2 : (quiets t ins).map (makeE (susL t) (t.labels ++ [deltaT]) ∘ fun k => ⟨k, (t.labels.length : Int), k⟩) = (quiets t ins).map (edgeIn (susL t) ∘ fun k => ⟨k, deltaT, k⟩) := List.map_congr_left fun k _ => h2 k
 rw [e1, e2, List.map_map]
/-- What the reference makes is the system. -/
theorem sus_edges {t : Lts} {ins : List ByteArray} (h : IfOk t ins) {R : List Edge} (hm : MkEdges (susL t) (t.labels ++ [deltaT]) (susEs t ins) R) : R = (susT t ins).edges :=
 rise_same hm.1 (sortEs_rise (sus_nodup h)) fun x => by rw [hm.2.2, susEs_mem h.valid]; exact (sortEs_mem x).symm

end Go.Proofs.YtaabkeejbhdenaaGreatDoor

namespace Go.Proofs.YtaabkeejbhdenaaGreatDoor
open Go Go.RowKit

/-- A label is an output, and not tau. -/
def outS (ins : List ByteArray) (l : ByteArray) : Bool := !(l.toList == [116, 97, 117]) && outB ins l
theorem out_find {ins : List ByteArray} {l : ByteArray} : decide (textAt ins (l.extract 0 (openAt l.data.toList)) < 0) = outB ins l := by
 have h : (ins.any fun t => t.toList == (l.extract 0 (openAt l.data.toList)).toList) = ins.any fun s => s.toList == labName l := by
  congr 1
  funext t
  rw [show (l.extract 0 (openAt l.data.toList)).toList = labName l from by unfold labName; rw [Lib.toList_data, extract_data']; simp]
 rw [Bool.eq_iff_iff, decide_eq_true_eq, textAt_neg, h]
 unfold outB
 rw [Bool.not_eq_true']

set_option maxRecDepth 100000 in
theorem l28Output_any (lo : Nat) (v : Value) (ins : List ByteArray) (l : ByteArray) (w : World) (hs : l.size ≤ 1073741824) (hv : SliceK 1 encS lo w v ins) :
  Calls Tryz.prog 160 #[.string l, v] w fun e w' => e = .returned (.bool (outS ins l)) ∧ Below w.heap.size w w' := by
 cases h0 : (l.toList == [116, 97, 117])
 ·have H0 := Lib.hid h0
  have HN := Lib.hid (l01LabelName_any l w hs)
  have HF := Lib.hid (l11Find_any lo v ins (l.extract 0 (openAt l.data.toList)) w hv)
  have HO := Lib.hid (out_find (ins := ins) (l := l))
  obtain ⟨nm, hnm⟩ : ∃ nm, nm = l.extract 0 (openAt l.data.toList) := ⟨_, rfl⟩
  rw [← hnm] at HN HF HO
  obtain ⟨tn, htn⟩ : ∃ tn, tn = textAt ins nm := ⟨_, rfl⟩
  rw [← htn] at HF HO
  clear hv hs hnm htn
  go_enter Tryz.func160, Tryz.ntmps160
  go_wp2_with fail
  refine Calls.mono HN.out ?_
  rintro e w1 ⟨rfl, rfl⟩
  go_wp2_with fail
  refine Calls.mono HF.out ?_
  rintro e w2 ⟨rfl, hb2⟩
  have HB2 := Lib.hid hb2
  clear hb2
  go_wp2
  go_ret
  exact ⟨ret_bool (by unfold outS; rw [H0.out, ← HO.out]; simp), HB2.out⟩
 ·have H0 := Lib.hid h0
  clear hv hs
  go_enter Tryz.func160, Tryz.ntmps160
  go_wp2
  go_ret
  exact ⟨ret_bool (by unfold outS; rw [H0.out]; simp), Below.refl _ _⟩

/-- An edge from a state that bears tau or an output. -/
def badE (t : Lts) (ins : List ByteArray) (s : Int) (e : Edge) : Bool := (e.src == s) && (e.lab == 0 || outB ins (labAt t e))
theorem quiet_bad {t : Lts} {ins : List ByteArray} {s : Int} : quietB t ins s = true ↔ ∀ j (h : j < t.edges.length), badE t ins s t.edges[j] = false := by
 unfold quietB
 rw [List.all_eq_true]
 constructor
 ·intro h j hj
  have := h _ (List.getElem_mem hj)
  unfold badE
  rwa [Bool.not_eq_true'] at this
 ·intro h e he
  obtain ⟨j, hj, rfl⟩ := List.mem_iff_getElem.1 he
  have := h j hj
  unfold badE at this
  rw [this]; rfl
theorem quiet_no {t : Lts} {ins : List ByteArray} {s : Int} {j : Nat} (h : j < t.edges.length) (hb : badE t ins s t.edges[j] = true) : quietB t ins s = false := by
 rw [Bool.eq_false_iff]
 intro hq
 rw [quiet_bad.1 hq j h] at hb
 cases hb

set_option maxRecDepth 100000 in
set_option maxHeartbeats 4000000 in
theorem l28Quiet_any (p lo : Nat) (t : Lts) (v : Value) (ins : List ByteArray) (s : Int) (w : World) (hv : Valid t) (hsh : Short t.labels) (hp : LtsPtr lo w p t) (hi : SliceK 1 encS lo w v ins) :
  Calls Tryz.prog 120 #[.pointer (some ⟨p, 0, none⟩), v, .int .i64 s] w fun e w' => e = .returned (.bool (quietB t ins s)) ∧ Below w.heap.size w w' := by
 have HV := Lib.hid hv
 have hmost := hv.most
 have HI := Lib.hid hi
 have HSH := Lib.hid hsh
 obtain ⟨lv, ev, hpl, -, -, q2, q3, hl, he⟩ := hp
 obtain ⟨ae, ce, rfl, hen, hec, hrow⟩ := he
 obtain ⟨al, cl, rfl, hlc, -, hlrow⟩ := hl
 obtain ⟨E, hE⟩ : ∃ E, E = t.edges.length := ⟨_, rfl⟩
 obtain ⟨LN, hLN⟩ : ∃ LN, LN = t.labels.length := ⟨_, rfl⟩
 have hL1 := hv.labels.pos
 obtain ⟨bl, ol, rfl, hblw, hcl⟩ : ∃ bl ol, al = some ⟨bl, ol, none⟩ ∧ bl < w.heap.size ∧ ∀ i (h : i < t.labels.length), w.cell? ⟨bl, ol + i, none⟩ = some (.string t.labels[i]) := by
  rcases hlrow with h | ⟨bl, ol, h1, -, h3, h4⟩
  ·omega
  ·exact ⟨bl, ol, h1, h3, fun i hi => by have := h4 i hi 0 (by omega); simpa [encS] using this⟩
 rw [← hE] at q3 hen hmost
 rw [← hLN] at q2 hlc hL1
 have HR := Lib.hid hrow
 have HQ3 := Lib.hid q3
 have HQ2 := Lib.hid q2
 have HCL := Lib.hid hcl
 have HE := Lib.hid hE
 have HLN := Lib.hid hLN
 clear hv hrow hE q2 q3 hcl hLN hlrow hi hsh
 go_enter Tryz.func120, Tryz.ntmps120
 go_wp2
 go_loopw [7] (fun i wr => ∃ k : Nat, k ≤ E ∧ i = .int .i64 k ∧ Below w.heap.size w wr ∧ ∀ j (h : j < t.edges.length), j < k → badE t ins s t.edges[j] = false) (fun i _ => E - (intOf i).toNat)
 case atStart => exact ⟨0, Nat.zero_le _, rfl, Below.refl _ _, fun _ _ h => by omega⟩
 case round =>
  obtain ⟨k, hk, rfl, hbl, hx1⟩ := hrel
  have HBL := Lib.hid hbl
  have HX1 := Lib.hid hx1
  have hsz := hbl.size
  have q3 := keeps hbl hpl HQ3.out
  clear hx1
  by_cases hlt : k < E
  ·have hlt2 : k < t.edges.length := by rw [← HE.out]; exact hlt
   obtain ⟨be, oe, rfl, -, hbe, e1, e2, e3⟩ := (HR.out.below hbl).edge hlt2
   have hok := HV.out.edge k hlt2
   obtain ⟨l, hl⟩ : ∃ l, l = labAt t t.edges[k] := ⟨_, rfl⟩
   obtain ⟨x, hx⟩ : ∃ x, x = t.edges[k] := ⟨_, rfl⟩
   have hok2 := hok
   rw [← hx] at e1 e2 e3 hl hok2
   obtain ⟨m, hm⟩ : ∃ m : Nat, (m : Int) = x.lab := ⟨x.lab.toNat, by have := hok2.l0; omega⟩
   have hmt : x.lab.toNat = m := by omega
   have hmL2 : m < t.labels.length := by have := hok2.l1; omega
   have hmL : m < LN := by have := HLN.out; omega
   have hlm : l = t.labels[m] := by
    rw [hl]
    unfold labAt
    rw [hmt, List.getD_eq_getElem?_getD, List.getElem?_eq_getElem hmL2]
    rfl
   have hcm : w.cell? ⟨bl, ol + m, none⟩ = some (.string l) := by rw [hlm]; exact HCL.out m hmL2
   have HCM := Lib.hid hcm
   have HLS : Hid (l.size ≤ 1073741824) := by unfold Hid; rw [hlm]; exact HSH.out m hmL2
   have HOT : Hid (m ≠ 0 → (l.toList == [116, 97, 117]) = false) := fun h => by
    rw [hlm, beq_eq_false_iff_ne]
    exact HV.out.labels.other m hmL2 (by omega)
   rw [← hm] at e2
   obtain ⟨xs, hxs⟩ : ∃ xs, xs = x.src := ⟨_, rfl⟩
   obtain ⟨xd, hxd⟩ : ∃ xd, xd = x.dst := ⟨_, rfl⟩
   rw [← hxs] at e1
   rw [← hxd] at e3
   have HBD : Hid (badE t ins s t.edges[k] = ((xs == s) && (((m : Int) == 0) || outB ins l))) := by
    unfold Hid badE
    rw [← hx, ← hl, hm, hxs]
   -- the edge's box
   obtain ⟨wD, hwD⟩ : ∃ wD, wD = wr.alloc (.cells #[.int .i64 xs, .int .i64 m, .int .i64 xd] 73) := ⟨_, rfl⟩
   have hX : Blk wD wr.heap.size [.int .i64 xs, .int .i64 m, .int .i64 xd] 73 := by rw [hwD]; exact Blk.new wr _ _
   have hbD : Below w.heap.size w wD := by rw [hwD]; exact hbl.alloc hsz _
   have HB2 := Lib.hid hbD
   have hszD := hbD.size
   have x0 := later_cell hX.lt (hX.cell 0 rfl)
   have x1 := later_cell hX.lt (hX.cell 1 rfl)
   have lq2 := later_cell (show p < wD.heap.size by omega) (keeps hbD hpl HQ2.out)
   have lcm := later_cell (show bl < wD.heap.size by omega) (keeps hbD hblw HCM.out)
   have HWD := Lib.hid hwD
   have HOU : Hid (∀ g : Later wD, Calls Tryz.prog 160 #[.string l, v] g.w fun e w' => e = .returned (.bool (outS ins l)) ∧ Below g.w.heap.size g.w w') := fun g =>
    l28Output_any lo v ins l g.w HLS.out ((HI.out.below HB2.out).below g.h)
   have hmi : (0 : Int) ≤ (m : Int) := by omega
   have HSTEP : Hid (badE t ins s t.edges[k] = false → ∀ j (h : j < t.edges.length), j < k + 1 → badE t ins s t.edges[j] = false) := fun hb j h hj => by
    by_cases e : j = k
    ·subst e; exact hb
    ·exact HX1.out j h (by omega)
   have HNO : Hid (badE t ins s t.edges[k] = true → quietB t ins s = false) := fun hb => quiet_no hlt2 hb
   obtain ⟨B, hB⟩ : ∃ B, B = badE t ins s t.edges[k] := ⟨_, rfl⟩
   rw [← hB] at HBD HNO HSTEP
   clear hbl hok hok2 hl hlm hx hm hmt hmL2 hcm hxs hxd hX hbD hB
   cases g1 : (xs == s)
   ·have HF : Hid (B = false) := by unfold Hid; rw [HBD.out, g1]; rfl
    go_wp2
    rw [← HWD.out]
    refine wp_region_later (by kernel_rfl) (by kernel_rfl) ?_
    repeat (go_big_quiet_step ((fail)))
    refine wpQuiet_nil ?_
    intro _ hw9
    obtain ⟨nl, hw8⟩ := hw9
    subst hw8
    have HBN := Lib.hid (HB2.out.trans (nl.h.mono hszD))
    clear x0 x1 lq2 lcm
    go_wp2
    go_roundw
    case rel => exact ⟨k + 1, by omega, by go_num, HBN.out, HSTEP.out HF.out⟩
    case measure => simp [intOf]; omega
   ·cases h0 : ((m : Int) == 0)
    ·have hne : m ≠ 0 := fun e => by rw [e] at h0; simp at h0
     obtain ⟨O, hO⟩ : ∃ O, O = outS ins l := ⟨_, rfl⟩
     rw [← hO] at HOU
     have HF : Hid (B = O) := by unfold Hid; rw [HBD.out, g1, h0, hO]; unfold outS; rw [HOT.out hne]; rfl
     clear hO hne
     cases O
     ·go_wp2
      rw [← HWD.out]
      refine wp_region_later (by kernel_rfl) (by kernel_rfl) ?_
      repeat (go_big_quiet_step ((go_at_call 160; exact later_call (HOU.out _))))
      refine wpQuiet_nil ?_
      intro _ hw9
      obtain ⟨nl, hw8⟩ := hw9
      subst hw8
      have HBN := Lib.hid (HB2.out.trans (nl.h.mono hszD))
      clear x0 x1 lq2 lcm
      go_wp2
      go_roundw
      case rel => exact ⟨k + 1, by omega, by go_num, HBN.out, HSTEP.out HF.out⟩
      case measure => simp [intOf]; omega
     ·go_wp2
      rw [← HWD.out]
      refine wp_region_later (by kernel_rfl) (by kernel_rfl) ?_
      repeat (go_big_quiet_step ((go_at_call 160; exact later_call (HOU.out _))))
      refine wpQuiet_nil ?_
      intro _ hw9
      obtain ⟨nl, hw8⟩ := hw9
      subst hw8
      have HBN := Lib.hid (HB2.out.trans (nl.h.mono hszD))
      clear x0 x1 lq2 lcm
      go_wp2
      go_ret
      exact ⟨ret_bool (HNO.out HF.out).symm, HBN.out⟩
    ·have HF : Hid (B = true) := by unfold Hid; rw [HBD.out, g1, h0]; rfl
     go_wp2
     rw [← HWD.out]
     refine wp_region_later (by kernel_rfl) (by kernel_rfl) ?_
     repeat (go_big_quiet_step ((fail)))
     refine wpQuiet_nil ?_
     intro _ hw9
     obtain ⟨nl, hw8⟩ := hw9
     subst hw8
     have HBN := Lib.hid (HB2.out.trans (nl.h.mono hszD))
     clear x0 x1 lq2 lcm
     go_wp2
     go_ret
     exact ⟨ret_bool (HNO.out HF.out).symm, HBN.out⟩
  ·have HQ : Hid (quietB t ins s = true) := by
    unfold Hid
    rw [quiet_bad]
    exact fun j h => HX1.out j h (by have := HE.out; omega)
   clear hbl
   go_wp2
   go_ret
   exact ⟨ret_bool HQ.out.symm, HBL.out⟩

end Go.Proofs.YtaabkeejbhdenaaGreatDoor

namespace Go.Proofs.YtaabkeejbhdenaaGreatDoor
open Go Go.RowKit

noncomputable section
/-- Behind a label from a set. -/
def nxtL (t : Lts) (S : List Int) (l : ByteArray) : List Int := if inT t.labels l = true then nextS t S (idxL t.labels l : Nat) else []
/-- Behind a trace. -/
def aftL (t : Lts) (tr : List ByteArray) : List Int := tr.foldl (nxtL t) (firstS t)
end
theorem aftL_snoc (t : Lts) (tr : List ByteArray) (l : ByteArray) : aftL t (tr ++ [l]) = nxtL t (aftL t tr) l := by unfold aftL; rw [List.foldl_append]; rfl
/-- A label leads from a state of the deterministic system to the set behind its set. -/
theorem set_goL {t : Lts} {st : DNet} (hv : Valid t) (h : DOk t st) {q : Int} (hq : q < (dSys t st).states) {l : ByteArray} (hl : l ≠ tauT) : setOf st (goTo (dSys t st) q l) = nxtL t (setOf st q) l := by
 unfold nxtL
 by_cases hm : inT t.labels l = true
 ·rw [if_pos hm]
  obtain ⟨hk, he, -⟩ := idxL_get (inT_mem.1 hm)
  obtain ⟨h0, ht⟩ := tau_first hv
  have h1 : 1 ≤ idxL t.labels l := by
   refine Nat.one_le_iff_ne_zero.2 fun e => hl ?_
   have : t.labels[idxL t.labels l] = t.labels[0] := by congr 1
   rw [← he, this, ht]
  have h2 := set_go hv h hq (k := idxL t.labels l - 1) (by omega)
  have h3 : labK t.labels (idxL t.labels l - 1) = l := by
   unfold labK
   rw [show idxL t.labels l - 1 + 1 = idxL t.labels l from by omega, List.getD_eq_getElem?_getD, List.getElem?_eq_getElem hk]
   exact he
  rw [h3] at h2
  rw [h2]
  congr 1
  omega
 ·rw [if_neg hm]
  have hG := dok_good hv h
  refine setOf_neg ?_
  unfold goTo
  split
  ·decide
  ·have hfind : st.edges.find? (hitB (dSys t st) q l) = none := by
    refine find_none fun j hj => ?_
    unfold hitB
    rw [Bool.and_eq_false_iff]
    right
    rw [beq_eq_false_iff_ne]
    intro hb
    obtain ⟨h1, h2, -⟩ := lab_get hG (List.getElem_mem hj)
    have h4 : (labAt (dSys t st) st.edges[j]) = t.labels[st.edges[j].lab.toNat] := h2
    rw [h4] at hb
    exact hm (inT_mem.2 (toList_inj hb ▸ List.getElem_mem h1))
   show ((st.edges.find? _).map Edge.dst).getD (-1) < 0
   rw [hfind]
   decide
theorem labK_tau {L : List ByteArray} (hL : InOrd L) {k : Nat} (hk : k + 1 < L.length) : labK L k ≠ tauT := by
 intro e
 have h0 := hL.first
 obtain ⟨h1, h2⟩ := List.getElem?_eq_some_iff.1 h0
 have h3 := hL.asc
 rw [List.pairwise_map, List.pairwise_iff_getElem] at h3
 have h4 := h3 0 (k + 1) h1 hk (by omega)
 have h5 : L[k + 1] = tauT := by rw [← e]; unfold labK; rw [List.getD_eq_getElem?_getD, List.getElem?_eq_getElem hk]; rfl
 rw [h2, h5, lessL_irrefl] at h4
 cases h4
/-- Behind the trace of a word stand the sets of the states where the word leads. -/
theorem aft_word {a b : Lts} {sa sb : DNet} (ha : Valid a) (hb : Valid b) (hoa : DOk a sa) (hob : DOk b sb) {L : List ByteArray} (hL : InOrd L) : ∀ u, WOk (L.length - 1) u → aftL a (txtsOf L u) = setOf sa (difS (dSys a sa) (dSys b sb) L u).1 ∧ aftL b (txtsOf L u) = setOf sb (difS (dSys a sa) (dSys b sb) L u).2
 | [], _ => ⟨(set_first hoa).symm, (set_first hob).symm⟩
 | k :: u, hw => by
  have hk : k < L.length - 1 := hw k (by simp)
  obtain ⟨h1, h2⟩ := aft_word ha hb hoa hob hL u fun x hx => hw x (List.mem_cons_of_mem _ hx)
  have hr := difS_range (dSys_valid ha hoa) (dSys_valid hb hob) L u
  have ht := labK_tau hL (k := k) (by omega)
  rw [txtsOf_cons, aftL_snoc, aftL_snoc, h1, h2, difS_cons]
  exact ⟨(set_goL ha hoa hr.1.1 ht).symm, (set_goL hb hob hr.2.1 ht).symm⟩

end Go.Proofs.YtaabkeejbhdenaaGreatDoor

namespace Go.Proofs.YtaabkeejbhdenaaGreatDoor
open Go Go.RowKit

theorem textAt_inT {ss : List ByteArray} {s : ByteArray} : decide (textAt ss s < 0) = !inT ss s := by
 have h := textAt_neg (ss := ss) (s := s)
 unfold inT
 cases h2 : ss.any fun t => t.toList == s.toList
 ·rw [Bool.not_false, decide_eq_true_eq]; exact h.2 h2
 ·rw [Bool.not_true, decide_eq_false_iff_not]
  intro h3
  rw [h.1 h3] at h2
  cases h2
end Go.Proofs.YtaabkeejbhdenaaGreatDoor

namespace Go.Proofs.YtaabkeejbhdenaaGreatDoor
open Go Go.RowKit

theorem results_tmp4 {fn : Func} {t u v z : Tmp} (h : fn.results = #[.tmp t, .tmp u, .tmp v, .tmp z]) (tmps : Array Value) (P : Program) (w : World) :
  (results fn tmps).run P w = .ok (.tuple #[tmps.getD t undef, tmps.getD u undef, tmps.getD v undef, tmps.getD z undef]) w := by
 simp [results, h]

theorem labK_get {L : List ByteArray} {k : Nat} (h : k + 1 < L.length) : labK L k = L[k + 1] := by
 unfold labK
 rw [List.getD_eq_getElem?_getD, List.getElem?_eq_getElem h]
 rfl
end Go.Proofs.YtaabkeejbhdenaaGreatDoor

namespace Go.Proofs.YtaabkeejbhdenaaGreatDoor
open Go Go.RowKit

/-- The outputs, and the observation that there is none, that some states of a system offer. -/
def outsL (t : Lts) (ins : List ByteArray) (S : List Int) : List ByteArray := (t.labels.drop 1).filter fun l => outB ins l && decide (0 < (followL t S l).length)
/-- An edge with a label leads from one of some states. -/
def hasE (t : Lts) (S : List Int) (n : Int) : Bool := t.edges.any fun e => (e.lab == n) && S.contains e.src
theorem hasE_iff {t : Lts} {S : List Int} {n : Int} : hasE t S n = true ↔ ∃ e ∈ t.edges, e.lab = n ∧ e.src ∈ S := by
 unfold hasE
 rw [List.any_eq_true]
 constructor
 ·rintro ⟨e, he, h⟩
  rw [Bool.and_eq_true, beq_iff_eq, List.contains_iff_mem] at h
  exact ⟨e, he, h.1, h.2⟩
 ·rintro ⟨e, he, h1, h2⟩
  exact ⟨e, he, by rw [Bool.and_eq_true, beq_iff_eq, List.contains_iff_mem]; exact ⟨h1, h2⟩⟩
theorem follow_has {t : Lts} (hv : Valid t) (S : List Int) {k : Nat} (hk : k < t.labels.length) : decide (0 < (followL t S t.labels[k]).length) = hasE t S k := by
 rw [Bool.eq_iff_iff, decide_eq_true_eq, hasE_iff]
 have hf := followL_is hv S hk
 constructor
 ·intro h
  obtain ⟨x, hx⟩ := List.exists_mem_of_length_pos h
  obtain ⟨e, he, h1, h2, -⟩ := (hf.mem x).1 hx
  exact ⟨e, he, h1, h2⟩
 ·rintro ⟨e, he, h1, h2⟩
  exact List.length_pos_of_mem ((hf.mem e.dst).2 ⟨e, he, h1, h2, rfl⟩)
theorem follow_next {t : Lts} (hv : Valid t) (cur : List Int) {k : Nat} (hk : k + 1 < t.labels.length) : 0 < (followL t cur (labK t.labels k)).length ↔ nextS t cur ((k : Int) + 1) ≠ [] := by
 have hkl := labK_get hk
 have h2 : ((k + 1 : Nat) : Int) = (k : Int) + 1 := by omega
 have hs := nextS_is hv cur ((k : Int) + 1)
 have hf := followL_is hv cur hk
 rw [← hkl] at hf
 rw [h2] at hf
 constructor
 ·intro hp he
  obtain ⟨x, hx⟩ := List.exists_mem_of_length_pos hp
  have := (hs.mem x).2 (clos.base ((hf.mem x).1 hx))
  rw [he] at this
  cases this
 ·intro hp
  refine Nat.pos_of_ne_zero fun e => hp ?_
  have e2 := List.length_eq_zero_iff.1 e
  refine List.eq_nil_iff_forall_not_mem.2 fun x hx => ?_
  obtain ⟨a, ha, -⟩ := (hs.mem x).1 hx
  have := (hf.mem a).2 ha
  rw [e2] at this
  cases this
theorem goTo_has {t : Lts} (hv : Valid t) {q : Int} (hq : 0 ≤ q) {k : Nat} (hk : k < t.labels.length) : 0 ≤ goTo t q t.labels[k] ↔ hasE t [q] k = true := by
 rw [hasE_iff]
 have hh : ∀ e ∈ t.edges, (hitB t q t.labels[k] e = true ↔ e.lab = k ∧ e.src ∈ [q]) := fun e he => by
  obtain ⟨i, hi, rfl⟩ := List.mem_iff_getElem.1 he
  have hok := hv.edge i hi
  obtain ⟨hlt, hla⟩ := labAt_idx hok
  unfold hitB
  rw [Bool.and_eq_true, beq_iff_eq, beq_iff_eq, List.mem_singleton, hla]
  have h0 := hok.l0
  constructor
  ·rintro ⟨h1, h2⟩
   have := labels_inj hv.labels _ _ hlt hk h2
   exact ⟨by omega, h1⟩
  ·rintro ⟨h1, h2⟩
   refine ⟨h2, ?_⟩
   congr 2
   omega
 have hnn : ¬ q < 0 := by omega
 unfold goTo
 rw [if_neg hnn]
 cases hf : t.edges.find? (hitB t q t.labels[k]) with
 | none =>
  simp only [Option.map_none, Option.getD_none]
  rw [List.find?_eq_none] at hf
  constructor
  ·intro h; omega
  ·rintro ⟨e, he, h1⟩
   exact absurd ((hh e he).2 h1) (hf e he)
 | some e =>
  simp only [Option.map_some, Option.getD_some]
  have h1 := List.mem_of_find?_eq_some hf
  have h2 := List.find?_some hf
  constructor
  ·intro _; exact ⟨e, h1, (hh e h1).1 h2⟩
  ·intro _
   obtain ⟨i, hi, rfl⟩ := List.mem_iff_getElem.1 h1
   exact (hv.edge i hi).d0
/-- A state of the deterministic system offers what its set offers. -/
theorem outs_det {t : Lts} {st : DNet} (hv : Valid t) (h : DOk t st) (ins : List ByteArray) {q : Int} (h0 : 0 ≤ q) (hq : q < (dSys t st).states) : outsL (dSys t st) ins [q] = outsL t ins (setOf st q) := by
 have hD := dSys_valid hv h
 have hq2 : q.toNat < st.rows.length := by have : q < (st.rows.length : Int) := hq; omega
 have hc : st.rows[q.toNat]? = some st.rows[q.toNat] := List.getElem?_eq_getElem hq2
 have hs : setOf st q = st.rows[q.toNat] := by
  have := setOf_at hc
  rwa [Int.toNat_of_nonneg h0] at this
 unfold outsL
 show (t.labels.drop 1).filter _ = (t.labels.drop 1).filter _
 refine List.filter_congr fun l hl => ?_
 congr 1
 obtain ⟨k, hk, rfl⟩ := List.mem_iff_getElem.1 hl
 rw [List.length_drop] at hk
 have hk1 : k + 1 < t.labels.length := by omega
 have e1 : (t.labels.drop 1)[k] = t.labels[k + 1] := by
  rw [List.getElem_drop]
  congr 1
  omega
 rw [e1]
 have h1 : decide (0 < (followL (dSys t st) [q] t.labels[k + 1]).length) = hasE (dSys t st) [q] ((k + 1 : Nat) : Int) := follow_has hD [q] (k := k + 1) hk1
 have h2 : 0 ≤ goTo (dSys t st) q t.labels[k + 1] ↔ hasE (dSys t st) [q] ((k + 1 : Nat) : Int) = true := goTo_has hD h0 (k := k + 1) hk1
 have h3 := follow_next hv (setOf st q) hk1
 have hkl := labK_get hk1
 rw [hkl] at h3
 rw [h1, Bool.eq_iff_iff, ← h2, decide_eq_true_eq, h3, hs]
 have h4 := go_row hv h hc hk1
 rw [hkl, Int.toNat_of_nonneg h0] at h4
 rcases h4 with ⟨e1, e2⟩ | ⟨e1, j, e2, -⟩
 ·rw [e2]
  constructor
  ·intro hx; omega
  ·intro hx; exact absurd e1 hx
 ·rw [e2]
  exact ⟨fun _ => e1, fun _ => by omega⟩
theorem outs_mem {t : Lts} {ins : List ByteArray} {S : List Int} {l : ByteArray} (h : l ∈ outsL t ins S) : l ∈ t.labels := List.drop_subset _ _ (List.mem_filter.1 h).1
theorem outs_len (t : Lts) (ins : List ByteArray) (S : List Int) : (outsL t ins S).length ≤ t.labels.length := by
 unfold outsL
 refine Nat.le_trans (List.length_filter_le _ _) ?_
 rw [List.length_drop]
 omega
/-- The first labels alone. -/
def outsTo (t : Lts) (ins : List ByteArray) (S : List Int) (n : Nat) : List ByteArray := ((t.labels.take n).drop 1).filter fun l => outB ins l && decide (0 < (followL t S l).length)
theorem outsTo_one (t : Lts) (ins : List ByteArray) (S : List Int) : outsTo t ins S 1 = [] := by
 unfold outsTo
 rw [show (t.labels.take 1).drop 1 = [] from by rw [List.drop_eq_nil_iff, List.length_take]; omega]
 rfl
theorem outsTo_all (t : Lts) (ins : List ByteArray) (S : List Int) {n : Nat} (h : t.labels.length ≤ n) : outsTo t ins S n = outsL t ins S := by unfold outsTo outsL; rw [List.take_of_length_le h]
theorem outsTo_succ {t : Lts} (hv : Valid t) (ins : List ByteArray) (S : List Int) {n : Nat} (h1 : 1 ≤ n) (h : n < t.labels.length) :
  outsTo t ins S (n + 1) = outsTo t ins S n ++ if outB ins t.labels[n] && hasE t S n then [t.labels[n]] else [] := by
 unfold outsTo
 rw [List.take_succ_eq_append_getElem h, List.drop_append_of_le_length (by rw [List.length_take]; omega), List.filter_append, List.filter_cons, List.filter_nil, follow_has hv S h]
theorem outsTo_len (t : Lts) (ins : List ByteArray) (S : List Int) (n : Nat) : (outsTo t ins S n).length ≤ n := by
 unfold outsTo
 refine Nat.le_trans (List.length_filter_le _ _) ?_
 rw [List.length_drop, List.length_take]
 omega

end Go.Proofs.YtaabkeejbhdenaaGreatDoor

namespace Go.Proofs.YtaabkeejbhdenaaGreatDoor
open Go Go.RowKit

theorem Index_strs (lo : Nat) (v : Value) (x : ByteArray) (xs : List ByteArray) (w : World) (hv : SliceK 1 encS lo w v xs) :
  Calls Tryz.prog 108 #[v, .string x] w fun e w' => ∃ r : Int, e = .returned (.int .i64 r) ∧ decide (0 ≤ r) = (xs.any fun y => y.toList == x.toList) ∧ w = w' := by
 obtain ⟨a, c, rfl, hcn, hcc, hrow⟩ := hv
 go_enter Tryz.func108, Tryz.ntmps108
 go_wp2_with fail
 go_loop [8] (fun i => ∃ k : Nat, k ≤ xs.length ∧ i = .int .i64 k ∧ ∀ j (h : j < xs.length), j < k → (x.toList == xs[j].toList) = false) (fun i => xs.length - (intOf i).toNat)
 case atStart => exact ⟨0, Nat.zero_le _, rfl, fun _ _ h => by omega⟩
 case round =>
  obtain ⟨k, hk, rfl, ha⟩ := hrel
  have HA := Lib.hid ha
  clear ha
  by_cases hlt : k < xs.length
  ·obtain ⟨b1, o1, rfl, -, hbs, c1⟩ := hrow.one hlt
   simp only [encS, List.getElem?_cons_zero] at c1
   clear hrow
   cases h0 : (x.toList == xs[k].toList)
   ·have H0 := Lib.hid h0
    go_wp2_with fail
    go_round
    case rel => exact ⟨k + 1, by omega, by go_num, fun j h hj => by
     by_cases e : j = k
     ·subst e; exact H0.out
     ·exact HA.out j h (by omega)⟩
    case measure => simp [intOf]; omega
   ·have HF : Hid ((xs.any fun y => y.toList == x.toList) = true) := by
     unfold Hid
     rw [List.any_eq_true]
     exact ⟨xs[k], List.getElem_mem _, by rw [beq_iff_eq] at h0 ⊢; exact h0.symm⟩
    go_wp2_with fail
    go_ret
    exact ⟨_, rfl, by rw [HF.out]; simp, rfl⟩
  ·clear hrow
   go_wp2_with fail
   go_ret
   refine ⟨_, rfl, ?_, rfl⟩
   have : (xs.any fun y => y.toList == x.toList) = false := by
    rw [List.any_eq_false]
    intro y hy
    obtain ⟨j, hj, rfl⟩ := List.mem_iff_getElem.1 hy
    have := HA.out j hj (by omega)
    simp at this ⊢
    exact fun e => this e.symm
   rw [this]; simp

theorem Contains_strs (lo : Nat) (v : Value) (x : ByteArray) (xs : List ByteArray) (w : World) (hv : SliceK 1 encS lo w v xs) :
  Calls Tryz.prog 74 #[v, .string x] w fun e w' => e = .returned (.bool (xs.any fun y => y.toList == x.toList)) ∧ w = w' := by
 have HV := Lib.hid hv
 clear hv
 go_enter Tryz.func74, Tryz.ntmps74
 go_wp2_with fail
 refine (Index_strs lo v x xs _ HV.out).mono ?_
 rintro e w' ⟨r, rfl, hr, rfl⟩
 have HR := Lib.hid hr
 clear hr
 go_wp2_with fail
 go_ret
 exact ⟨ret_bool HR.out, rfl⟩

end Go.Proofs.YtaabkeejbhdenaaGreatDoor

namespace Go.Proofs.YtaabkeejbhdenaaGreatDoor
open Go Go.RowKit

def idxI (P : Int → Bool) (xs : List Int) : Int := if xs.findIdx P < xs.length then (xs.findIdx P : Nat) else -1
theorem idxI_neg {P : Int → Bool} {xs : List Int} : idxI P xs = -1 ↔ ∀ x ∈ xs, P x = false := by
 unfold idxI
 by_cases h : xs.findIdx P < xs.length
 ·rw [if_pos h]
  refine ⟨fun e => by omega, fun h2 => ?_⟩
  obtain ⟨x, hx, hp⟩ := List.findIdx_lt_length.1 h
  rw [h2 x hx] at hp
  cases hp
 ·rw [if_neg h]
  refine ⟨fun _ x hx => ?_, fun _ => rfl⟩
  cases hp : P x
  ·rfl
  ·exact absurd (List.findIdx_lt_length.2 ⟨x, hx, hp⟩) h
/-- A function of one element that answers P, and turns nothing that was there. -/
def AskI (fid : Nat) (caps : Array Value) (P : Int → Bool) (xs : List Int) (B : Nat) (w : World) : Prop :=
 ∀ w', Below B w w' → ∀ x ∈ xs, Calls Tryz.prog fid (#[.int .i64 x] ++ caps) w' fun e w'' => e = .returned (.bool (P x)) ∧ Below w'.heap.size w' w''

set_option maxRecDepth 100000 in
set_option maxHeartbeats 1000000 in
theorem IndexFuncI (lo : Nat) (v : Value) (xs : List Int) (fid : Nat) (caps : Array Value) (P : Int → Bool) (w : World) (hv : SliceK 1 encI lo w v xs) (eg : ∀ args w, (callFunc fid args).run Tryz.prog w = .ok (.enter fid args) w) (hP : AskI fid caps P xs w.heap.size w) :
  Calls Tryz.prog 163 #[v, .func (.func fid) #[] caps] w fun e w' => e = .returned (.int .i64 (idxI P xs)) ∧ Below w.heap.size w w' := by
 obtain ⟨a, c, rfl, hcn, hcc, hrow⟩ := hv
 have HR := Lib.hid hrow
 have HP := Lib.hid hP
 clear hP hrow
 go_enter Tryz.func163, Tryz.ntmps163
 go_wp2_with fail
 go_loopw [8] (fun i wr => ∃ k : Nat, k ≤ xs.length ∧ i = .int .i64 k ∧ Below w.heap.size w wr ∧ ∀ j (h : j < xs.length), j < k → P xs[j] = false) (fun i _ => xs.length - (intOf i).toNat)
 case atStart => exact ⟨0, Nat.zero_le _, rfl, Below.refl _ _, fun _ _ h => by omega⟩
 case round =>
  obtain ⟨k, hk, rfl, hbl, ha⟩ := hrel
  have HA := Lib.hid ha
  have HBL := Lib.hid hbl
  clear ha
  by_cases hlt : k < xs.length
  ·obtain ⟨b1, o1, rfl, -, hbs, c1⟩ := (HR.out.below hbl).one hlt
   simp only [encI, List.getElem?_cons_zero] at c1
   clear hbl
   obtain ⟨x, hx⟩ : ∃ x, x = xs[k] := ⟨_, rfl⟩
   rw [← hx] at c1
   have HX := Lib.hid hx
   have HC := Lib.hid (HP.out wr HBL.out x (by rw [hx]; exact List.getElem_mem _))
   obtain ⟨b, hb⟩ : ∃ b, b = P x := ⟨_, rfl⟩
   rw [← hb] at HC
   have HB := Lib.hid hb
   clear hb hx
   go_wp2_with fail
   refine Calls.mono HC.out ?_
   rintro e w1 ⟨rfl, hb1⟩
   have HB1 := Lib.hid (HBL.out.trans (hb1.mono HBL.out.size))
   clear hb1 c1
   cases b
   ·go_wp2_with fail
    go_roundw
    case rel => exact ⟨k + 1, by omega, by go_num, HB1.out, fun j h hj => by
     by_cases e : j = k
     ·subst e; rw [← HX.out]; exact HB.out.symm
     ·exact HA.out j h (by omega)⟩
    case measure => simp [intOf]; omega
   ·have HI : Hid (idxI P xs = (k : Int)) := by
     unfold Hid idxI
     have h1 : xs.findIdx P = k := by
      rw [List.findIdx_eq hlt]
      exact ⟨by rw [← HX.out]; exact HB.out.symm, fun j hj => HA.out j (by omega) hj⟩
     rw [h1, if_pos hlt]
    go_wp2_with fail
    go_ret
    exact ⟨ret_int HI.out.symm, HB1.out⟩
  ·clear hbl
   have HI : Hid (idxI P xs = -1) := by
    unfold Hid
    rw [idxI_neg]
    intro x hx
    obtain ⟨j, hj, rfl⟩ := List.mem_iff_getElem.1 hx
    exact HA.out j hj (by omega)
   go_wp2_with fail
   go_ret
   exact ⟨ret_int HI.out.symm, HBL.out⟩

end Go.Proofs.YtaabkeejbhdenaaGreatDoor
