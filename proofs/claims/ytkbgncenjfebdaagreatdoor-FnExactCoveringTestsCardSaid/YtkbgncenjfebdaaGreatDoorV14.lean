/-
  The program's search for the first trace: plain bounds, and how its queue lies in memory.
  The states of the deterministic system in the order found, and the first word that leads to each. Plain.
  What states offer, stable states, and where one system does not refine another one. Plain.
  The reference's place of a number among numbers.
  The system with the observations that there is no output. Plain.
-/
import Derived.Test.YtkbgncenjfebdaaGreatDoorV11
import Derived.Test.YtkbgncenjfebdaaGreatDoorV12
import Derived.Test.YtkbgncenjfebdaaGreatDoorV10
import Derived.Test.YtkbgncenjfebdaaGreatDoorV7
import Derived.Test.YtkbgncenjfebdaaGreatDoorV13
namespace Go.Proofs.YtkbgncenjfebdaaGreatDoor
open Go Go.RowKit

/-- What the program passes over. -/
def deadB (p : Int × Int) : Prop := p.1 < 0 ∧ p.2 < 0
theorem deadB_step (x y : Lts) (L : List ByteArray) (s : Int × Int) (a : Nat) (h : deadB s) : deadB (goBoth x y L s a) := by
 refine ⟨?_, ?_⟩
 ·show goTo x s.1 _ < 0
  rw [goTo_neg h.1]; decide
 ·show goTo y s.2 _ < 0
  rw [goTo_neg h.2]; decide
/-- What is looked for, at a state that is not passed over. -/
def liveF (F : Int × Int → Prop) (p : Int × Int) : Prop := ¬ deadB p ∧ F p
theorem liveF_not {F : Int × Int → Prop} (s : Int × Int) (h : deadB s) : ¬ liveF F s := fun k => k.1 h

/-- A pair's place among the pairs. -/
def pairNo (p : Int × Int) : Nat := ((p.1 + 1) * 41 + (p.2 + 1)).toNat
theorem QSt.few {x y : Lts} {L : List ByteArray} {m : Nat} {F : Int × Int → Prop} {N Q : List (List Nat)} (hx : Valid x) (hy : Valid y) (h : QSt ((0 : Int), (0 : Int)) (goBoth x y L) m deadB F N Q) : N.length ≤ 1681 := by
 have hp : ∀ u, (-1 ≤ (difS x y L u).1 ∧ (difS x y L u).1 < 40) ∧ -1 ≤ (difS x y L u).2 ∧ (difS x y L u).2 < 40 := fun u => by
  have h2 := difS_range hx hy L u
  have h3 := hx.st1
  have h4 := hy.st1
  exact ⟨⟨h2.1.2, by omega⟩, h2.2.2, by omega⟩
 have h1 : (N.map fun u => pairNo (difS x y L u)).Nodup := by
  have hn := h.nodup
  rw [List.nodup_iff_pairwise_ne, List.pairwise_map] at hn ⊢
  refine hn.imp ?_
  intro a b hne e
  have h1 := hp a
  have h2 := hp b
  refine hne ?_
  show difS x y L a = difS x y L b
  unfold pairNo at e
  have e1 : (difS x y L a).1 = (difS x y L b).1 := by omega
  have e2 : (difS x y L a).2 = (difS x y L b).2 := by omega
  exact Prod.ext e1 e2
 have := nodup_lt 1681 _ h1 (fun z hz => by
  obtain ⟨u, hu, rfl⟩ := List.mem_map.1 hz
  have := hp u
  unfold pairNo
  omega)
 rwa [List.length_map] at this

/-- The queue, plainly: words of what is seen, words to come; none longer than there are seen. -/
structure FSt (x y : Lts) (L : List ByteArray) (m : Nat) (F : Int × Int → Prop) (seen Q : List (List Nat)) : Prop where
 st : QSt ((0 : Int), (0 : Int)) (goBoth x y L) m deadB (liveF F) seen Q
 long : ∀ u ∈ Q, u.length ≤ seen.length
 few : Q.length ≤ 1 + m * seen.length
theorem FSt.start (x y : Lts) (L : List ByteArray) (m : Nat) (F : Int × Int → Prop) : FSt x y L m F [] [[]] :=
 ⟨QSt.start _ _, fun u hu => by rw [List.mem_singleton] at hu; subst hu; simp, by simp⟩
theorem FSt.skip {x y : Lts} {L : List ByteArray} {m : Nat} {F : Int × Int → Prop} {seen Q : List (List Nat)} {u : List Nat} (h : FSt x y L m F seen (u :: Q)) (hu : deadB (difS x y L u) ∨ ∃ v ∈ seen, difS x y L v = difS x y L u) : FSt x y L m F seen Q :=
 ⟨h.st.skip hu, fun v hv => h.long v (List.mem_cons_of_mem _ hv), by have := h.few; simp only [List.length_cons] at this; omega⟩
theorem FSt.take {x y : Lts} {L : List ByteArray} {m : Nat} {F : Int × Int → Prop} {seen Q : List (List Nat)} {u : List Nat} (h : FSt x y L m F seen (u :: Q)) (ha : ¬ deadB (difS x y L u)) (hn : ∀ v ∈ seen, difS x y L v ≠ difS x y L u) (hF : ¬ F (difS x y L u)) :
  FSt x y L m F (seen ++ [u]) (Q ++ (List.range m).map (· :: u)) := by
 refine ⟨h.st.take ha hn (fun k => hF k.2), fun v hv => ?_, ?_⟩
 ·rw [List.length_append, List.length_singleton]
  rcases List.mem_append.1 hv with hv | hv
  ·have := h.long v (List.mem_cons_of_mem _ hv); omega
  ·obtain ⟨a, -, rfl⟩ := List.mem_map.1 hv
   have := h.long u (by simp)
   rw [List.length_cons]; omega
 ·have := h.few
  rw [List.length_append, List.length_append, List.length_map, List.length_range, List.length_singleton, Nat.mul_add, Nat.mul_one]
  simp only [List.length_cons] at this
  omega

/-- What is returned: the first word's trace, and whether there is one. -/
def FirstIs (x y : Lts) (L : List ByteArray) (F : Int × Int → Prop) (r : Bool) (xs : List ByteArray) : Prop :=
 xs.length ≤ 2000 ∧ ((NoWord ((0 : Int), (0 : Int)) (goBoth x y L) (L.length - 1) (liveF F) ∧ r = false ∧ xs = []) ∨ ∃ u, Least ((0 : Int), (0 : Int)) (goBoth x y L) (L.length - 1) (liveF F) u ∧ r = true ∧ xs = txtsOf L u)
theorem FSt.least {x y : Lts} {L : List ByteArray} {F : Int × Int → Prop} {seen Q : List (List Nat)} {u : List Nat} (hx : Valid x) (hy : Valid y) (h : FSt x y L (L.length - 1) F seen (u :: Q)) (ha : ¬ deadB (difS x y L u)) (hF : F (difS x y L u)) : FirstIs x y L F true (txtsOf L u) := by
 refine ⟨?_, .inr ⟨u, h.st.least (deadB_step x y L) liveF_not ⟨ha, hF⟩, rfl, rfl⟩⟩
 have h1 := h.st.few hx hy
 have h2 := h.long u (by simp)
 simp only [txtsOf, List.length_map, List.length_reverse]
 omega
theorem FSt.none {x y : Lts} {L : List ByteArray} {F : Int × Int → Prop} {seen : List (List Nat)} (h : FSt x y L (L.length - 1) F seen []) : FirstIs x y L F false [] :=
 ⟨by simp, .inl ⟨h.st.none (deadB_step x y L) liveF_not, rfl, rfl⟩⟩

/-- A word of the queue: its two states, its trace. -/
def encQ (x y : Lts) (L : List ByteArray) (p : List Nat × Value) : List Value := [.int .i64 (difS x y L p.1).1, .int .i64 (difS x y L p.1).2, p.2]
theorem encQ_len (x y : Lts) (L : List ByteArray) (p : List Nat × Value) : (encQ x y L p).length = 3 := rfl
theorem flat_len3 (x y : Lts) (L : List ByteArray) (ns : List (List Nat × Value)) : (ns.flatMap (encQ x y L)).length = ns.length * 3 := by
 induction ns with
 | nil => rfl
 | cons a r ih => rw [List.flatMap_cons, List.length_append, ih, encQ_len, List.length_cons]; omega
structure OwnQ (B : Nat) (w : World) (x y : Lts) (L : List ByteArray) (v : Value) (ns : List (List Nat × Value)) : Prop where
 all : TailK w B 120 3 v ns.length (ns.flatMap (encQ x y L))
 rows : ∀ p ∈ ns, w.ownsRow B 9 1 p.2 p.1.length (txts (txtsOf L p.1))
theorem OwnQ.below {B : Nat} {w w' : World} {x y : Lts} {L : List ByteArray} {v : Value} {ns : List (List Nat × Value)} (h : OwnQ B w x y L v ns) (hb : Below w.heap.size w w') : OwnQ B w' x y L v ns :=
 ⟨h.all.below hb, fun p hp => owns_below (h.rows p hp) hb⟩
theorem TailK.type_far {w : World} {base base2 size size2 e e2 n n2 : Nat} {v v2 : Value} {xs xs2 : List Value} (h : TailK w base e size v n xs) (ho : w.ownsRow base2 e2 size2 v2 n2 xs2) (he : e2 ≠ e) : v2.ownBlock = none ∨ v2.ownBlock ≠ v.ownBlock := by
 rcases h.2 with ⟨rfl, -⟩ | ⟨g, o, cap, cur, rfl, -, hg, -⟩
 ·cases hb : v2.ownBlock with
  | none => exact .inl rfl
  | some b => exact .inr (by simp [Value.ownBlock])
 ·exact own_type_far ho hg he
theorem TailK.blk_far {w : World} {base size e n b t : Nat} {v : Value} {xs cs : List Value} (h : TailK w base e size v n xs) (hb : Blk w b cs t) (he : t ≠ e) : some b ≠ v.ownBlock := by
 rcases h.2 with ⟨rfl, -⟩ | ⟨g, o, cap, cur, rfl, -, hg, -⟩
 ·simp [Value.ownBlock]
 ·intro e1
  simp only [Value.ownBlock, Option.some.injEq] at e1
  subst e1
  have := hb
  unfold Blk at this
  rw [this] at hg
  simp only [Option.some.injEq, Obj.cells.injEq] at hg
  exact he hg.2.1
theorem TailK.map_far {w : World} {base size e n b c : Nat} {v : Value} {xs : List Value} {es : Array MapEntry} (h : TailK w base e size v n xs) (hb : w.heap[b]? = some (.map es c)) : some b ≠ v.ownBlock := by
 rcases h.2 with ⟨rfl, -⟩ | ⟨g, o, cap, cur, rfl, -, hg, -⟩
 ·simp [Value.ownBlock]
 ·intro e1
  simp only [Value.ownBlock, Option.some.injEq] at e1
  subst e1
  rw [hb] at hg
  cases hg
/-- The queue's first word, in the cells. -/
theorem OwnQ.head {B : Nat} {w : World} {x y : Lts} {L : List ByteArray} {v : Value} {p : List Nat × Value} {ns : List (List Nat × Value)} (h : OwnQ B w x y L v (p :: ns)) :
  ∃ g o cap, v = .slice (some ⟨g, o, none⟩) (ns.length + 1) cap ∧ B ≤ g ∧ g < w.heap.size ∧ ns.length + 1 ≤ cap ∧ cap ≤ maxLen ∧ w.cell? ⟨g, o, none⟩ = some (.int .i64 (difS x y L p.1).1) ∧ w.cell? ⟨g, o + 1, none⟩ = some (.int .i64 (difS x y L p.1).2) ∧ w.cell? ⟨g, o + 2, none⟩ = some p.2
   ∧ OwnQ B w x y L (.slice (some ⟨g, o + 3, none⟩) ns.length (cap - 1)) ns ∧ (cap = 1 → OwnQ B w x y L (.slice (some ⟨g, o, none⟩) ns.length 0) ns) := by
 have ha := h.all
 rw [List.length_cons] at ha
 obtain ⟨g, o, cap, rfl, h1, h2, h3, h4, h5⟩ := ha.head
 have hl : 3 ≤ ((p :: ns).flatMap (encQ x y L)).length := by rw [flat_len3, List.length_cons]; omega
 have c0 := h5 0 (by omega)
 have c1 := h5 1 (by omega)
 have c2 := h5 2 (by omega)
 have hp := ha.pop
 rw [List.flatMap_cons, List.drop_left' (encQ_len x y L p)] at hp
 refine ⟨g, o, cap, rfl, h1, h2, h3, h4, by first | (have h := c0; rw [List.flatMap_cons] at h; exact h) | exact c0, by first | (have h := c1; rw [List.flatMap_cons] at h; exact h) | exact c1, by first | (have h := c2; rw [List.flatMap_cons] at h; exact h) | exact c2, ⟨hp, fun q hq => h.rows q (List.mem_cons_of_mem _ hq)⟩, fun hc => ?_⟩
 have hn : ns = [] := List.eq_nil_of_length_eq_zero (by omega)
 subst hn
 exact ⟨hp.empty o (by omega), fun q hq => by cases hq⟩
theorem OwnQ.form {B : Nat} {w : World} {x y : Lts} {L : List ByteArray} {v : Value} {ns : List (List Nat × Value)} (h : OwnQ B w x y L v ns) : ∃ a c, v = .slice a ns.length c := by
 rcases h.all.2 with ⟨rfl, e⟩ | ⟨g, o, cap, cur, rfl, -⟩
 ·exact ⟨none, 0, by rw [e]⟩
 ·exact ⟨_, _, rfl⟩
/-- Another row was written. -/
theorem OwnQ.kept {B : Nat} {w w' : World} {x y : Lts} {L : List ByteArray} {v : Value} {ns : List (List Nat × Value)} {row : Option Nat} (h : OwnQ B w x y L v ns) (hg : w.grownBy w' row) (h1 : v.ownBlock = none ∨ v.ownBlock ≠ row) (h2 : ∀ p ∈ ns, p.2.ownBlock = none ∨ p.2.ownBlock ≠ row) : OwnQ B w' x y L v ns :=
 ⟨h.all.kept hg h1, fun p hp => (h.rows p hp).kept hg (h2 p hp)⟩
/-- The map was written. -/
theorem OwnQ.map {B : Nat} {w w' : World} {x y : Lts} {L : List ByteArray} {v : Value} {ns : List (List Nat × Value)} {b c : Nat} {es : Array MapEntry} (h : OwnQ B w x y L v ns) (hb : w.heap[b]? = some (.map es c)) (hg : w.grownBy w' (some b)) : OwnQ B w' x y L v ns := by
 refine h.kept hg ?_ fun p hp => own_map_ne (h.rows p hp) hb
 cases hv : v.ownBlock with
 | none => exact .inl rfl
 | some g => exact .inr fun e => h.all.map_far hb (by rw [hv, e])
/-- One word more. -/
theorem OwnQ.push {B : Nat} {w wA w6 : World} {x y : Lts} {L : List ByteArray} {v v' tv : Value} {ns : List (List Nat × Value)} {u : List Nat} {k : Nat} (h : OwnQ B w x y L v ns) (hb : Below w.heap.size w wA)
  (hr : wA.ownsRow B 9 1 tv (k :: u).length (txts (txtsOf L (k :: u)))) (hg : wA.grownBy w6 v.ownBlock)
  (ho : TailK w6 B 120 3 v' (ns.length + 1) (ns.flatMap (encQ x y L) ++ [.int .i64 (goTo x (difS x y L u).1 (labK L k)), .int .i64 (goTo y (difS x y L u).2 (labK L k)), tv])) : OwnQ B w6 x y L v' (ns ++ [(k :: u, tv)]) := by
 have hA := h.below hb
 refine ⟨?_, fun p hp => ?_⟩
 ·rw [List.length_append, List.flatMap_append]
  simpa [encQ, difS_cons] using ho
 ·rcases List.mem_append.1 hp with hp | hp
  ·exact (hA.rows p hp).kept hg (hA.all.type_far (hA.rows p hp) (by decide))
  ·rw [List.mem_singleton] at hp
   subst hp
   exact hr.kept hg (hA.all.type_far hr (by decide))

end Go.Proofs.YtkbgncenjfebdaaGreatDoor

namespace Go.Proofs.YtkbgncenjfebdaaGreatDoor
open Go Go.RowKit

theorem bothL_self {d : Lts} (h : LabelsOk d.labels) : bothL d d = d.labels := by
 unfold bothL
 refine labSet_eq (labels_pair h) fun x => ?_
 have h0 : tauT ∈ d.labels := by
  have : d.labels[0]'h.pos = tauT := toList_inj (by rw [h.first h.pos, tauT_list])
  rw [← this]
  exact List.getElem_mem _
 rw [List.mem_cons, List.mem_append]
 exact ⟨fun hx => hx.elim (fun e => e ▸ h0) (fun hx => hx.elim id id), fun hx => .inr (.inl hx)⟩
/-- The words found when i states are done, of the next one k labels. -/
structure WaySt (t : Lts) (st : DNet) (N : List (List Nat)) (i k : Nat) : Prop where
 nst : NSt ((0 : Int), (0 : Int)) (goBoth (dSys t st) (dSys t st) t.labels) (t.labels.length - 1) deadB (fun _ => False) N i k
 num : ∀ (j : Nat) (u : List Nat), N[j]? = some u → difS (dSys t st) (dSys t st) t.labels u = ((j : Int), (j : Int))
 len : ∀ cur, (dAt t i).rows[i]? = some cur → N.length = (dmid t i cur (dAt t i) k).rows.length
 last : i = st.rows.length → N.length = st.rows.length
 upto : i ≤ st.rows.length
 few : N.length ≤ st.rows.length
theorem WaySt.start {t : Lts} {st : DNet} (hv : Valid t) (h : DOk t st) : WaySt t st [[]] 0 0 := by
 have hG := (dok_good hv h).some
 refine ⟨NSt.start (by rintro ⟨h1, -⟩; exact absurd h1 (by decide)) (fun h => h), fun j u hu => ?_, fun cur _ => ?_, fun e => by omega, Nat.zero_le _, ?_⟩
 ·have hj := (List.getElem?_eq_some_iff.1 hu).1
  simp at hj
  subst hj
  simp at hu
  subst hu
  rfl
 ·rw [dmid_zero]; simp [dAt]
 ·simp; omega
theorem WaySt.at {t : Lts} {st : DNet} {N : List (List Nat)} {i k : Nat} (h : WaySt t st N i k) {u : List Nat} (hu : N[i]? = some u) (k' : Nat) : difS (dSys t st) (dSys t st) t.labels (k' :: u) = (goTo (dSys t st) i (labK t.labels k'), goTo (dSys t st) i (labK t.labels k')) := by
 rw [difS_cons, h.num i u hu]
theorem WaySt.pass {t : Lts} {st : DNet} (hv : Valid t) (hok : DOk t st) {N : List (List Nat)} {i k : Nat} (h : WaySt t st N i k) {u : List Nat} (hu : N[i]? = some u) (hk : k + 1 < t.labels.length)
  (hd : goTo (dSys t st) i (labK t.labels k) < 0 ∨ ∃ j : Nat, j < N.length ∧ goTo (dSys t st) i (labK t.labels k) = j) : WaySt t st N i (k + 1) := by
 have hi : i < st.rows.length := Nat.lt_of_lt_of_le (List.getElem?_eq_some_iff.1 hu).1 h.few
 obtain ⟨cur, hc, hcs, hle, hlast⟩ := hok.row hi
 have hat := h.at hu k
 refine ⟨h.nst.pass hu ?_, h.num, fun cur' hc' => ?_, h.last, h.upto, h.few⟩
 ·rcases hd with hd | ⟨j, hj, he⟩
  ·exact .inl (by show deadB (difS _ _ _ (k :: u)); rw [hat]; exact ⟨hd, hd⟩)
  ·refine .inr ⟨N[j], List.getElem_mem _, ?_⟩
   show difS _ _ _ N[j] = difS _ _ _ (k :: u)
   rw [hat, h.num j N[j] (List.getElem?_eq_getElem hj), he]
 ·rw [hc] at hc'
  cases hc'
  rw [dmid_succ, h.len cur hc]
  by_cases hne : nextS t cur ((k : Int) + 1) = []
  ·rw [dstep_none hne]
  ·have hp := go_place hv hok hc hi hk hne
   rcases hd with hd | ⟨j, hj, he⟩
   ·rw [hp] at hd; omega
   ·rw [dstep_old hne (by rw [← h.len cur hc]; rw [hp] at he; omega)]
theorem WaySt.meet {t : Lts} {st : DNet} (hv : Valid t) (hok : DOk t st) {N : List (List Nat)} {i k : Nat} (h : WaySt t st N i k) {u : List Nat} (hu : N[i]? = some u) (hk : k + 1 < t.labels.length)
  (h0 : ¬ goTo (dSys t st) i (labK t.labels k) < 0) (hn : ∀ j : Nat, j < N.length → goTo (dSys t st) i (labK t.labels k) ≠ j) : goTo (dSys t st) i (labK t.labels k) = N.length ∧ WaySt t st (N ++ [k :: u]) i (k + 1) := by
 have hi : i < st.rows.length := Nat.lt_of_lt_of_le (List.getElem?_eq_some_iff.1 hu).1 h.few
 obtain ⟨cur, hc, hcs, hle, hlast⟩ := hok.row hi
 have hat := h.at hu k
 have hlen := h.len cur hc
 have hne : nextS t cur ((k : Int) + 1) ≠ [] := fun e => by
  rcases go_row hv hok hcs hk with ⟨-, h2⟩ | ⟨h1, -⟩
  ·omega
  ·exact h1 e
 have hp := go_place hv hok hc hi hk hne
 have hpl := dplace_le (dmid t i cur (dAt t i) k).rows (nextS t cur ((k : Int) + 1))
 have hpn : ¬ dplace (dmid t i cur (dAt t i) k).rows (nextS t cur ((k : Int) + 1)) < (dmid t i cur (dAt t i) k).rows.length := fun hlt => hn _ (by rw [hlen]; exact hlt) hp
 have hto : goTo (dSys t st) i (labK t.labels k) = N.length := by rw [hp, hlen]; omega
 have hlen2 : (N ++ [k :: u]).length = (dmid t i cur (dAt t i) (k + 1)).rows.length := by
  rw [dmid_succ, dstep_new hne hpn, List.length_append, List.length_append, hlen]
  rfl
 refine ⟨hto, h.nst.meet hu (by omega) ?_ (fun h => h) (fun x hx e => ?_), fun j x hx => ?_, fun cur' hc' => ?_, fun e => by omega, h.upto, ?_⟩
 ·show ¬ deadB (difS _ _ _ (k :: u))
  rw [hat]
  rintro ⟨h1, -⟩
  exact h0 h1
 ·obtain ⟨j, hj, rfl⟩ := List.mem_iff_getElem.1 hx
  have e2 : difS (dSys t st) (dSys t st) t.labels N[j] = difS (dSys t st) (dSys t st) t.labels (k :: u) := e
  rw [hat, h.num j N[j] (List.getElem?_eq_getElem hj)] at e2
  exact hn j hj (Prod.ext_iff.1 e2).1.symm
 ·by_cases hj : j < N.length
  ·rw [List.getElem?_append_left hj] at hx
   exact h.num j x hx
  ·have hj2 := (List.getElem?_eq_some_iff.1 hx).1
   rw [List.length_append, List.length_singleton] at hj2
   have e : j = N.length := by omega
   subst e
   rw [List.getElem?_concat_length] at hx
   cases hx
   rw [hat, hto]
 ·rw [hc] at hc'
  cases hc'
  exact hlen2
 ·rw [hlen2]
  obtain ⟨r, hr⟩ := (hle (k + 1) (by omega)).rows
  rw [hr, List.length_append]
  omega
theorem WaySt.next {t : Lts} {st : DNet} (hok : DOk t st) {N : List (List Nat)} {i : Nat} (h : WaySt t st N i (t.labels.length - 1)) (hi : i < N.length) : WaySt t st N (i + 1) 0 := by
 have hi2 : i < st.rows.length := Nat.lt_of_lt_of_le hi h.few
 obtain ⟨cur, hc, hcs, hle, hlast⟩ := hok.row hi2
 have hlen := h.len cur hc
 rw [hlast] at hlen
 refine ⟨h.nst.next, h.num, fun cur' hc' => by rw [dmid_zero]; exact hlen, fun e => ?_, hi2, h.few⟩
 obtain ⟨⟨m, hm, em, lm⟩, -⟩ := hok
 rw [hlen, e, lm, em]
 exact lm
theorem WaySt.done {t : Lts} {st : DNet} (hok : DOk t st) {N : List (List Nat)} {i : Nat} (h : WaySt t st N i 0) (hi : ¬ i < N.length) : N.length = st.rows.length := by
 by_cases e : i = st.rows.length
 ·exact h.last e
 ·exfalso
  have hi2 : i < st.rows.length := by have := h.upto; omega
  obtain ⟨cur, hc, -, -, -⟩ := hok.row hi2
  have h1 := h.len cur hc
  rw [dmid_zero] at h1
  have := (List.getElem?_eq_some_iff.1 hc).1
  omega
/-- The words to all states, in the order of the states. -/
def WaysAll (t : Lts) (st : DNet) (N : List (List Nat)) : Prop := N.length = st.rows.length ∧ WaySt t st N st.rows.length 0
theorem WaySt.all {t : Lts} {st : DNet} (hok : DOk t st) {N : List (List Nat)} {i : Nat} (h : WaySt t st N i 0) (hi : ¬ i < N.length) : WaysAll t st N := by
 have h1 := h.done hok hi
 have h2 := h.upto
 have e : i = st.rows.length := by omega
 subst e
 exact ⟨h1, h⟩
theorem WaySt.short {t : Lts} {st : DNet} {N : List (List Nat)} {i k : Nat} (h : WaySt t st N i k) : ∀ (j : Nat) (u : List Nat), N[j]? = some u → u.length ≤ j := by
 intro j
 induction j using Nat.strongRecOn with
 | _ j ih =>
  intro u hu
  obtain ⟨hj, hju⟩ := List.getElem?_eq_some_iff.1 hu
  rcases h.nst.par u (by rw [← hju]; exact List.getElem_mem _) with rfl | ⟨a, j', v, rfl, hv, -⟩
  ·exact Nat.zero_le _
  ·obtain ⟨hj', hjv⟩ := List.getElem?_eq_some_iff.1 hv
   have hlt : j' < j := by
    rcases Nat.lt_trichotomy j' j with h1 | h1 | h1
    ·exact h1
    ·exfalso
     subst h1
     rw [hju] at hjv
     have := congrArg List.length hjv
     simp at this
    ·exfalso
     have := List.pairwise_iff_getElem.1 h.nst.sorted j j' hj hj' h1
     rw [hju, hjv] at this
     exact slt_irrefl _ (slt_trans this (slt_cons a v))
   have := ih j' hlt v hv
   rw [List.length_cons]
   omega
theorem WaysAll.few {t : Lts} {st : DNet} (hs : DSmall st) {N : List (List Nat)} (h : WaysAll t st N) {j : Nat} {u : List Nat} (hu : N[j]? = some u) : (txtsOf t.labels u).length ≤ 40 := by
 have h1 := h.2.short j u hu
 have h2 := (List.getElem?_eq_some_iff.1 hu).1
 have h3 := h.1
 have h4 := hs.1
 simp only [txtsOf, List.length_map, List.length_reverse]
 omega
/-- The first state, in the order of the states, where something holds: its word is the first one. -/
theorem WaysAll.least {t : Lts} {st : DNet} {N : List (List Nat)} (h : WaysAll t st N) {G : Int → Prop} {j : Nat} {u : List Nat} (hu : N[j]? = some u) (hG : G (j : Int)) (hno : ∀ k : Nat, k < j → ¬ G (k : Int)) :
  Least ((0 : Int), (0 : Int)) (goBoth (dSys t st) (dSys t st) t.labels) (t.labels.length - 1) (liveF fun p => G p.1) u := by
 refine NSt.pick (deadB_step _ _ _) liveF_not h.2.nst (by rw [h.1]; exact Nat.le_refl _) hu ?_ fun k v hk hv hF => ?_
 ·show liveF _ (difS _ _ _ u)
  rw [h.2.num j u hu]
  exact ⟨fun hd => by have := hd.1; simp only at this; omega, hG⟩
 ·have hF2 : liveF (fun p => G p.1) (difS (dSys t st) (dSys t st) t.labels v) := hF
  rw [h.2.num k v hv] at hF2
  exact hno k hk hF2.2
theorem WaysAll.none {t : Lts} {st : DNet} {N : List (List Nat)} (h : WaysAll t st N) {G : Int → Prop} (hno : ∀ k : Nat, k < st.rows.length → ¬ G (k : Int)) :
  NoWord ((0 : Int), (0 : Int)) (goBoth (dSys t st) (dSys t st) t.labels) (t.labels.length - 1) (liveF fun p => G p.1) := by
 refine NSt.lookNone (deadB_step _ _ _) liveF_not h.2.nst (by rw [h.1]; exact Nat.le_refl _) fun k v hv hF => ?_
 have hF2 : liveF (fun p => G p.1) (difS (dSys t st) (dSys t st) t.labels v) := hF
 rw [h.2.num k v hv] at hF2
 have := (List.getElem?_eq_some_iff.1 hv).1
 exact hno k (by have := h.1; omega) hF2.2

end Go.Proofs.YtkbgncenjfebdaaGreatDoor

namespace Go.Proofs.YtkbgncenjfebdaaGreatDoor
open Go Go.RowKit

/-- The labels of the edges from a state. -/
def rdy (t : Lts) (k : Int) : List ByteArray := labSet ((outOf t k).map (labAt t))
theorem lab_tau {t : Lts} (hv : Valid t) {e : Edge} (he : e ∈ t.edges) : labAt t e = tauT ↔ e.lab = 0 := by
 obtain ⟨i, hi, rfl⟩ := List.mem_iff_getElem.1 he
 have hok := hv.edge i hi
 obtain ⟨hlt, hl⟩ := labAt_idx hok
 obtain ⟨h0, ht⟩ := tau_first hv
 rw [hl]
 constructor
 ·intro h
  have := labels_inj hv.labels _ 0 hlt h0 (by rw [h, ht])
  have := hok.l0
  omega
 ·intro h
  have e0 : t.edges[i].lab.toNat = 0 := by omega
  rw [← ht]
  congr 1
end Go.Proofs.YtkbgncenjfebdaaGreatDoor

namespace Go.Proofs.YtkbgncenjfebdaaGreatDoor
open Go Go.RowKit

/-- The first place of a number, or -1. -/
def placeI (xs : List Int) (n : Int) : Int := if xs.findIdx (fun x => x == n) < xs.length then (xs.findIdx (fun x => x == n) : Nat) else -1
/-- The numbers below n. -/
def upI (n : Nat) : List Int := (List.range n).map fun (j : Nat) => (j : Int)
theorem upI_len (n : Nat) : (upI n).length = n := by simp [upI]
theorem upI_get {n j : Nat} (h : j < n) : (upI n)[j]? = some (j : Int) := by simp [upI, h]
theorem upI_succ (n : Nat) : upI (n + 1) = upI n ++ [(n : Int)] := by simp [upI, List.range_succ]
theorem placeI_up {n : Nat} {x : Int} (h0 : 0 ≤ x) : placeI (upI n) x = if x < (n : Int) then x else -1 := by
 unfold placeI
 by_cases h : x < (n : Int)
 ·have h1 : (upI n).findIdx (fun y => y == x) = x.toNat := by
   refine findIdx_hit (by rw [upI_len]; omega) (fun j hj hjx => ?_) ?_
   ·rw [beq_eq_false_iff_ne]
    simp [upI]
    omega
   ·rw [beq_iff_eq]
    simp [upI]
    omega
  rw [h1, upI_len, if_pos (by omega), if_pos h]
  omega
 ·have h1 : (upI n).findIdx (fun y => y == x) = (upI n).length := by
   refine findIdx_none fun j hj => ?_
   rw [beq_eq_false_iff_ne]
   rw [upI_len] at hj
   simp [upI]
   omega
  rw [h1, if_neg (by omega), if_neg h]

set_option maxRecDepth 100000 in
set_option maxHeartbeats 1000000 in
theorem l11Place_any (lo : Nat) (v : Value) (xs : List Int) (n : Int) (w : World) (hv : SliceK 1 encI lo w v xs) : Calls Tryz.prog 111 #[v, .int .i64 n] w fun e w' => e = .returned (.int .i64 (placeI xs n)) ∧ Below w.heap.size w w' := by
 obtain ⟨a, cap, rfl, hn, hcap, hrow⟩ := hv
 go_enter Tryz.func111, Tryz.ntmps111
 go_wp2
 go_loopw [5] (fun i wr => ∃ k : Nat, k ≤ xs.length ∧ i = .int .i64 k ∧ Below w.heap.size w wr ∧ ∀ j (h : j < xs.length), j < k → (xs[j] == n) = false) (fun i _ => xs.length - (intOf i).toNat)
 case atStart => exact ⟨0, Nat.zero_le _, rfl, Below.refl _ _, fun _ _ h => by omega⟩
 case round =>
  obtain ⟨k, hk, rfl, hbl, hx⟩ := hrel
  have HX := Lib.hid hx
  have HBL := Lib.hid hbl
  have hsz := hbl.size
  clear hx
  by_cases hlt : k < xs.length
  ·obtain ⟨b, o, rfl, -, hb, c⟩ := (hrow.below hbl).one hlt
   simp only [encI, List.getElem?_cons_zero] at c
   clear hrow hbl
   cases g : (xs[k] == n)
   ·have HG := Lib.hid g
    go_wp2
    go_roundw
    case rel => exact ⟨k + 1, by omega, by go_num, HBL.out, fun j h h' => by
      by_cases e : j = k
      ·subst e; exact HG.out
      ·exact HX.out j h (by omega)⟩
    case measure => simp [intOf]; omega
   ·have HG : Hid (placeI xs n = (k : Int)) := by
     unfold Hid placeI
     rw [findIdx_hit hlt HX.out g, if_pos hlt]
    go_wp2
    go_ret
    exact ⟨ret_int HG.out.symm, HBL.out⟩
  ·clear hrow hbl
   go_wp2
   go_ret
   refine ⟨ret_int ?_, HBL.out⟩
   unfold placeI
   rw [findIdx_none (fun j h => HX.out j h (by omega)), if_neg (by omega)]

end Go.Proofs.YtkbgncenjfebdaaGreatDoor

namespace Go.Proofs.YtkbgncenjfebdaaGreatDoor
open Go Go.RowKit

def deltaB : List UInt8 := [100, 101, 108, 116, 97]
def deltaT : ByteArray := ⟨#[100, 101, 108, 116, 97]⟩
theorem deltaT_list : deltaT.toList = deltaB := by rw [Lib.toList_data]; rfl
theorem deltaT_name : labName deltaT = deltaB := by unfold labName; decide
/-- A system and names of inputs. -/
structure IfOk (t : Lts) (ins : List ByteArray) : Prop where
 valid : Valid t
 acts : ∀ i (h : i < ins.length), isAction ins[i].data.toList = true
 rise : ∀ i (h : i + 1 < ins.length), strLess ins[i] ins[i + 1] = true
 nodelta : ∀ s ∈ ins, s.toList ≠ deltaB
 names : ∀ l ∈ t.labels, labName l ≠ deltaB
theorem IfOk.free {t : Lts} {ins : List ByteArray} (h : IfOk t ins) : deltaT ∉ t.labels := fun hm => h.names _ hm deltaT_name
/-- A label is no input: it is an output, or tau. -/
def outB (ins : List ByteArray) (l : ByteArray) : Bool := !(ins.any fun s => s.toList == labName l)
/-- No edge from a state bears tau or an output. -/
def quietB (t : Lts) (ins : List ByteArray) (k : Int) : Bool := t.edges.all fun e => !((e.src == k) && (e.lab == 0 || outB ins (labAt t e)))
def quiets (t : Lts) (ins : List ByteArray) : List Int := (upI t.states.toNat).filter (quietB t ins)
theorem quiets_len (t : Lts) (ins : List ByteArray) : (quiets t ins).length ≤ t.states.toNat := by
 unfold quiets
 refine Nat.le_trans (List.length_filter_le _ _) ?_
 rw [upI_len]
 exact Nat.le_refl _
def susArcs (t : Lts) (ins : List ByteArray) : List Arc := t.edges.map (arcOf t) ++ (quiets t ins).map fun k => ⟨k, deltaT, k⟩
def susL (t : Lts) : List ByteArray := labSet (tauT :: (t.labels ++ [deltaT]))
def susT (t : Lts) (ins : List ByteArray) : Lts := ⟨t.states, t.initial, susL t, sortEs ((susArcs t ins).map (edgeIn (susL t)))⟩
theorem susL_mem {t : Lts} (l : ByteArray) : l ∈ susL t ↔ l = tauT ∨ l ∈ t.labels ∨ l = deltaT := by
 unfold susL
 rw [(labSet_is _).2]
 simp
theorem idxL_inj {L : List ByteArray} {a b : ByteArray} (ha : a ∈ L) (hb : b ∈ L) (h : idxL L a = idxL L b) : a = b := by
 obtain ⟨h1, e1, -⟩ := idxL_get ha
 obtain ⟨h2, e2, -⟩ := idxL_get hb
 rw [← e1, ← e2]
 congr 1
theorem upI_nodup (n : Nat) : (upI n).Nodup := by
 unfold upI
 rw [List.nodup_iff_pairwise_ne, List.pairwise_map]
 refine (List.nodup_iff_pairwise_ne.1 (List.nodup_range (n := n))).imp ?_
 intro a b h e
 exact h (by omega)
theorem lab_mem {t : Lts} (hv : Valid t) {e : Edge} (he : e ∈ t.edges) : labAt t e ∈ t.labels := by
 obtain ⟨i, hi, rfl⟩ := List.mem_iff_getElem.1 he
 obtain ⟨hk, hl⟩ := labAt_idx (hv.edge i hi)
 rw [hl]
 exact List.getElem_mem _
theorem arcs_in {t : Lts} (hv : Valid t) (ins : List ByteArray) : ∀ a ∈ susArcs t ins, a.lab ∈ susL t := by
 intro a ha
 rw [susL_mem]
 unfold susArcs at ha
 rcases List.mem_append.1 ha with ha | ha
 ·obtain ⟨e, he, rfl⟩ := List.mem_map.1 ha
  exact .inr (.inl (lab_mem hv he))
 ·obtain ⟨k, -, rfl⟩ := List.mem_map.1 ha
  exact .inr (.inr rfl)
theorem sus_less {t : Lts} (hv : Valid t) {i : Nat} : ∀ {j : Nat}, i < j → ∀ (hi : i < t.edges.length) (hj : j < t.edges.length), edgeLess t.edges[i] t.edges[j] = true := by
 intro j hij
 induction j with
 | zero => omega
 | succ j ih =>
  intro hi hj
  by_cases e : i = j
  ·subst e; exact hv.rise i hj
  ·exact edgeLess_trans _ _ _ (ih (by omega) hi (by omega)) (hv.rise j hj)
theorem sus_text {L : List ByteArray} {l : ByteArray} (h : l ∈ L) : textAt L l = (idxL L l : Nat) := by
 obtain ⟨hk, -, -⟩ := idxL_get h
 unfold textAt
 unfold idxL at hk ⊢
 rw [if_pos hk]
theorem sus_nodup {t : Lts} {ins : List ByteArray} (h : IfOk t ins) : ((susArcs t ins).map (edgeIn (susL t))).Nodup := by
 have hv := h.valid
 have hmem := arcs_in hv ins
 have hinj : ∀ a ∈ susArcs t ins, ∀ b ∈ susArcs t ins, edgeIn (susL t) a = edgeIn (susL t) b → a = b := by
  intro a ha b hb e
  unfold edgeIn at e
  simp only [Edge.mk.injEq] at e
  obtain ⟨e1, e2, e3⟩ := e
  have e4 := idxL_inj (hmem a ha) (hmem b hb) (by omega)
  cases a; cases b
  simp only at e1 e3 e4
  subst e1 e3 e4
  rfl
 have harcs : (susArcs t ins).Nodup := by
  unfold susArcs
  rw [List.nodup_append]
  refine ⟨?_, ?_, ?_⟩
  ·rw [List.nodup_iff_pairwise_ne, List.pairwise_map]
   rw [List.pairwise_iff_getElem]
   intro i j hi hj hij e
   have h1 := hv.edge i hi
   have h2 := hv.edge j hj
   unfold arcOf at e
   simp only [Arc.mk.injEq] at e
   obtain ⟨e1, e2, e3⟩ := e
   obtain ⟨k1, l1⟩ := labAt_idx h1
   obtain ⟨k2, l2⟩ := labAt_idx h2
   rw [l1, l2] at e2
   have e4 := labels_inj hv.labels _ _ k1 k2 (by rw [e2])
   have hl1 := h1.l0
   have hl2 := h2.l0
   have hlt := sus_less hv hij hi hj
   rw [edgeLess_iff] at hlt
   omega
  ·rw [List.nodup_iff_pairwise_ne, List.pairwise_map]
   have hq : (quiets t ins).Nodup := (upI_nodup _).filter _
   refine (List.nodup_iff_pairwise_ne.1 hq).imp ?_
   intro a b hne e
   simp only [Arc.mk.injEq] at e
   exact hne e.1
  ·intro a ha b hb e
   obtain ⟨x, hx, rfl⟩ := List.mem_map.1 ha
   obtain ⟨k, -, rfl⟩ := List.mem_map.1 hb
   unfold arcOf at e
   simp only [Arc.mk.injEq] at e
   exact h.free (e.2.1 ▸ lab_mem hv hx)
 rw [List.nodup_iff_pairwise_ne, List.pairwise_map]
 refine List.Pairwise.imp_of_mem ?_ (List.nodup_iff_pairwise_ne.1 harcs)
 intro a b ha hb hne e
 exact hne (hinj a ha b hb e)
theorem sortEs_rise {es : List Edge} (h : es.Nodup) : RiseE (sortEs es) := by
 have hs : (sortEs es).Pairwise fun a b => (!edgeLess b a) = true := by
  unfold sortEs
  refine List.pairwise_mergeSort ?_ ?_ _
  ·intro a b c h1 h2
   have k1 : edgeLess b a = false := by simpa using h1
   have k2 : edgeLess c b = false := by simpa using h2
   have : edgeLess c a = false := by
    rw [Bool.eq_false_iff] at k1 k2 ⊢
    intro k
    rw [edgeLess_iff] at k
    rw [ne_eq, edgeLess_iff] at k1 k2
    omega
   simp [this]
  ·intro a b
   cases h1 : edgeLess b a with
   | false => simp
   | true =>
    have : edgeLess a b = false := by
     rw [Bool.eq_false_iff]
     intro k
     have := edgeLess_trans a b a k h1
     rw [edgeLess_irrefl] at this
     cases this
    simp [this]
 have hn : (sortEs es).Nodup := by unfold sortEs; exact (List.mergeSort_perm _ _).nodup_iff.2 h
 unfold RiseE
 refine List.Pairwise.imp₂ ?_ hs (List.nodup_iff_pairwise_ne.1 hn)
 intro a b h1 h2
 have k1 : edgeLess b a = false := by simpa using h1
 cases k2 : edgeLess a b with
 | true => rfl
 | false => exact absurd (edgeLess_tri a b k2 k1) h2
theorem rise_same {a b : List Edge} (ha : RiseE a) (hb : RiseE b) (h : ∀ x, x ∈ a ↔ x ∈ b) : a = b :=
 rise_unique (fun x y => edgeLess x y = true) (fun a h => by rw [edgeLess_irrefl] at h; cases h) (fun a b h k => by have := edgeLess_trans a b a h k; rw [edgeLess_irrefl] at this; cases this) a b ha hb h
/-- The reference's edges, whose labels are places of the texts. -/
def susEs (t : Lts) (ins : List ByteArray) : List Edge := t.edges ++ (quiets t ins).map fun k => ⟨k, (t.labels.length : Int), k⟩
theorem susEs_mem {t : Lts} {ins : List ByteArray} (hv : Valid t) (x : Edge) : x ∈ (susEs t ins).map (makeE (susL t) (t.labels ++ [deltaT])) ↔ x ∈ (susArcs t ins).map (edgeIn (susL t)) := by
 have h1 : ∀ e ∈ t.edges, makeE (susL t) (t.labels ++ [deltaT]) e = edgeIn (susL t) (arcOf t e) := by
  intro e he
  obtain ⟨i, hi, rfl⟩ := List.mem_iff_getElem.1 he
  obtain ⟨hk, hl⟩ := labAt_idx (hv.edge i hi)
  unfold makeE edgeIn arcOf
  simp only
  rw [List.getD_eq_getElem?_getD, List.getElem?_append_left hk, List.getElem?_eq_getElem hk, Option.getD_some, ← hl, sus_text (by rw [susL_mem]; exact .inr (.inl (lab_mem hv he)))]
 have h2 : ∀ k : Int, makeE (susL t) (t.labels ++ [deltaT]) ⟨k, (t.labels.length : Int), k⟩ = edgeIn (susL t) ⟨k, deltaT, k⟩ := by
  intro k
  unfold makeE edgeIn
  simp only [Int.toNat_natCast]
  rw [List.getD_eq_getElem?_getD, List.getElem?_concat_length, Option.getD_some, sus_text (by rw [susL_mem]; exact .inr (.inr rfl))]
 unfold susEs susArcs
 rw [List.map_append, List.map_append, List.map_map, List.map_map, List.mem_append, List.mem_append]
 have e1 : t.edges.map (makeE (susL t) (t.labels ++ [deltaT])) = t.edges.map (edgeIn (susL t) ∘ arcOf t) := List.map_congr_left h1
 have e2 : (quiets t ins).map (makeE (susL t) (t.labels ++ [deltaT]) ∘ fun k => ⟨k, (t.labels.length : Int), k⟩) = (quiets t ins).map (edgeIn (susL t) ∘ fun k => ⟨k, deltaT, k⟩) := List.map_congr_left fun k _ => h2 k
 rw [e1, e2, List.map_map]
/-- What the reference makes is the system. -/
theorem sus_edges {t : Lts} {ins : List ByteArray} (h : IfOk t ins) {R : List Edge} (hm : MkEdges (susL t) (t.labels ++ [deltaT]) (susEs t ins) R) : R = (susT t ins).edges :=
 rise_same hm.1 (sortEs_rise (sus_nodup h)) fun x => by rw [hm.2.2, susEs_mem h.valid]; exact (sortEs_mem x).symm

end Go.Proofs.YtkbgncenjfebdaaGreatDoor
