/-
  What the implementation's functions on numbers' texts compute: strconv by the shelf's contracts.
  A plant, a supervisor and a requirement: the triples of states that are reached, those from which a marked one is reached, what makes a plant valid, when a supervisor controls it; how a plant lies in memory. Plain laws; no program in sight.
  Sets of states as ascending lists; what internal edges reach; the deterministic system of a system, found row for row. Plain definitions; no program in sight.
  Lists in ascending order: one list for each set; what is left of a sorted list when equal neighbours are made one.
  The library's Sort, Compact and Clone at lists of numbers of the call's own.
  What the implementation's follow computes, from any list of states.
  Plain laws for follow and internal: what follow lists is a set; a list that grows until it is closed under internal edges.
  A round of the greatest simulation, as the program asks for it. Plain.
  Sets of pairs as lists: the program's rounds. Plain.
  A map that numbers its keys in the order in which they came.
  Greatest sets of pairs for any test of a pair; the program's rounds, key by key. Plain.
-/
import Derived.Test.YtbjbjbnbapeajaaGreatDoorQ3
import Derived.Test.YtbjbjbnbapeajaaGreatDoorQ4
import Derived.WalkSmall
import Derived.Lib.AppendIntMem
import Derived.Lib.SlicesCompact
import Derived.Lib.RowBridge
import Derived.Sort.OwnSortedInts
import Derived.Lib.OwnBridge
import Derived.Test.YtbjbjbnbapeajaaGreatDoorQ1
import Derived.Maps.OwnOps
namespace Go.Proofs.YtbjbjbnbapeajaaGreatDoor
open Go Go.RowKit

/-- What the library's own variables hold. -/
structure Glob (w : World) : Prop where
 max : ∃ m, w.cell? ⟨0, 0, none⟩ = some (.int .i64 m)
 syn : ∃ ev, w.cell? ⟨1, 0, none⟩ = some ev ∧ (ev = .nilIface ∨ ∃ te pe, ev = .iface te pe)
 rng : ∃ ev, w.cell? ⟨2, 0, none⟩ = some ev ∧ (ev = .nilIface ∨ ∃ te pe, ev = .iface te pe)
 tab : Lib.TabIs Tryz.prog w "internal/strconv.uint64pow10" .u64 Lib.pow10Tab

theorem Glob.below {w w' : World} (h : Glob w) (hb : Below w.heap.size w w') : Glob w' := by
 obtain ⟨⟨m, h1⟩, ⟨e1, h2, h2'⟩, ⟨e2, h3, h3'⟩, h4⟩ := h
 have hg : Tryz.prog.globalNamed "internal/strconv.uint64pow10" = some 5 := by kernel_rfl
 have hlt : 5 < w.heap.size := by
  have h5 := h4
  unfold Lib.TabIs World.var? at h5
  rw [hg] at h5
  simp only [Option.bind_some] at h5
  rcases Nat.lt_or_ge 5 w.heap.size with h | h
  ·exact h
  ·rw [Array.getElem?_eq_none h] at h5; simp at h5
 refine ⟨⟨m, keeps hb (World.block_lt_of_cell? w _ h1) h1⟩, ⟨e1, keeps hb (World.block_lt_of_cell? w _ h2) h2, h2'⟩, ⟨e2, keeps hb (World.block_lt_of_cell? w _ h3) h3, h3'⟩, ?_⟩
 exact var?_below hb hg hlt h4

theorem Decimal_any (n : Int) (w : World) (h0 : -9223372036854775808 ≤ n) (h1 : n ≤ 9223372036854775807) (g : Glob w) :
  Calls Tryz.prog 156 #[.int .i64 n] w fun e w' => e = .returned (.string ⟨(Lib.itoa n).toArray⟩) ∧ Below w.heap.size w w' := by
 have G := Lib.hid g.tab
 have H0 := Lib.hid h0
 have H1 := Lib.hid h1
 clear g h0 h1
 go_enter Tryz.func156, Tryz.ntmps156
 go_wp2_with fail
 refine (Tryz.strconv_FormatInt_10 n H0.out H1.out _ G.out).mono ?_
 rintro e w' ⟨rfl, k, os, rfl⟩
 have HB : Hid (Below w.heap.size w (Go.Sort.grow (w.drewN k) os)) := Lib.below_grow _ w (Nat.le_refl _) k os
 go_wp2_with fail
 go_ret
 exact ⟨rfl, HB.out⟩

/-- What ReadDecimal reads. -/
def readDec (l : List UInt8) : Option Int :=
 if 18 < (Lib.trimPrefix l [45]).length then none
 else match Lib.parseIntB 64 l with
  | .ok n => if Lib.itoa n = l then some n else none
  | _ => none

/-- ReadDecimal's answer. -/
def RetDec (l : List UInt8) (w : World) (e : Ending) (w' : World) : Prop := e = .returned (.tuple #[.int .i64 ((readDec l).getD 0), .bool (readDec l).isSome]) ∧ Below w.heap.size w w'

theorem ReadDecimal_any (s : ByteArray) (w : World) (hs : s.size ≤ 1073741824) (g : Glob w) : Calls Tryz.prog 123 #[.string s] w (RetDec s.data.toList w) := by
 have G := Lib.hid g
 clear g
 by_cases h18 : 18 < (Lib.trimPrefix s.data.toList [45]).length
 ·have HF : Hid (readDec s.data.toList = none) := by unfold Hid readDec; rw [if_pos h18]
  have HL := Lib.hid h18
  go_enter Tryz.func123, Tryz.ntmps123
  go_wp2_with fail
  refine (Tryz.strings_TrimPrefix s ⟨#[45]⟩ _).mono ?_
  rintro e w' ⟨rfl, rfl⟩
  have h18' : 18 < ((Lib.trimPrefix s.data.toList [45]).length : Int) := by omega
  clear h18
  go_wp2_with fail
  go_ret2
  unfold RetDec
  rw [HF.out]
  exact ⟨rfl, Below.refl _ _⟩
 ·have h18' : ¬ 18 < ((Lib.trimPrefix s.data.toList [45]).length : Int) := by omega
  have HR : Hid (readDec s.data.toList = match Lib.parseIntB 64 s.data.toList with
   | .ok n => if Lib.itoa n = s.data.toList then some n else none
   | _ => none) := by unfold Hid readDec; rw [if_neg h18]
  clear h18
  rcases hp : Lib.parseIntB 64 s.data.toList with v | _ | _
  ·have HP := Lib.hid hp
   have hbd := Lib.parseIntB_bounds hp
   have HB1 : Hid (-9223372036854775808 ≤ v) := by have := hbd.1; unfold Hid; simpa using this
   have HB2 : Hid (v ≤ 9223372036854775807) := by have := hbd.2; unfold Hid; simp at this; omega
   rw [hp] at HR
   clear hp hbd
   go_enter Tryz.func123, Tryz.ntmps123
   go_wp2_with fail
   refine (Tryz.strings_TrimPrefix s ⟨#[45]⟩ _).mono ?_
   rintro e w' ⟨rfl, rfl⟩
   go_wp2_with fail
   refine (Tryz.strconv_ParseInt_10_at64_ok s (by omega) v HP.out _).mono ?_
   rintro e w1 ⟨rfl, hw1⟩
   have HB3 : Hid (Below w'.heap.size w' w1) := by
    rcases hw1 with rfl | ⟨t, rfl⟩
    ·exact Below.refl _ _
    ·exact Lib.bytesWorld_below _ _ _
   clear hw1
   go_wp2_with fail
   refine (Decimal_any v _ HB1.out HB2.out (G.out.below HB3.out)).mono ?_
   rintro e w2 ⟨rfl, hb2⟩
   have HB4 := Lib.hid hb2
   clear hb2
   by_cases hq : Lib.itoa v = s.data.toList
   ·have HF : Hid (readDec s.data.toList = some v) := by unfold Hid; rw [HR.out, if_pos hq]
    go_wp2_with fail
    go_ret2
    unfold RetDec
    rw [HF.out]
    exact ⟨rfl, HB3.out.trans (HB4.out.mono HB3.out.size)⟩
   ·have HF : Hid (readDec s.data.toList = none) := by unfold Hid; rw [HR.out, if_neg hq]
    have hq' : (!Lib.itoa v == s.toList) = true := by rw [Lib.toList_data]; simpa using hq
    go_wp2_with fail
    go_ret2
    unfold RetDec
    rw [HF.out]
    exact ⟨rfl, HB3.out.trans (HB4.out.mono HB3.out.size)⟩
  ·have HP := Lib.hid hp
   rw [hp] at HR
   clear hp
   obtain ⟨ev, hv, hev⟩ := G.out.syn
   have HV := Lib.hid hv
   have HE := Lib.hid hev
   clear hv hev
   go_enter Tryz.func123, Tryz.ntmps123
   go_wp2_with fail
   refine (Tryz.strings_TrimPrefix s ⟨#[45]⟩ _).mono ?_
   rintro e w' ⟨rfl, rfl⟩
   go_wp2_with fail
   refine (Any.strconv_ParseInt_10_at64_syntax Tryz.laysC174 s (by omega) HP.out ev _ HV.out HE.out).mono ?_
   rintro e w1 ⟨N, rfl, -, -, hb⟩
   have HB3 := Lib.hid hb
   clear hb
   go_wp2_with fail
   go_ret2
   unfold RetDec
   rw [HR.out]
   exact ⟨rfl, HB3.out⟩
  ·have HP := Lib.hid hp
   rw [hp] at HR
   clear hp
   obtain ⟨ev, hv, hev⟩ := G.out.rng
   have HV := Lib.hid hv
   have HE := Lib.hid hev
   clear hv hev
   go_enter Tryz.func123, Tryz.ntmps123
   go_wp2_with fail
   refine (Tryz.strings_TrimPrefix s ⟨#[45]⟩ _).mono ?_
   rintro e w' ⟨rfl, rfl⟩
   go_wp2_with fail
   refine (Tryz.strconv_ParseInt_10_at64_range s (by omega) HP.out ev _ HV.out HE.out).mono ?_
   rintro e w1 ⟨N, rfl, -, -, hb⟩
   have HB3 := Lib.hid hb
   clear hb
   go_wp2_with fail
   go_ret2
   unfold RetDec
   rw [HR.out]
   exact ⟨rfl, HB3.out⟩

end Go.Proofs.YtbjbjbnbapeajaaGreatDoor

namespace Go.Proofs.YtbjbjbnbapeajaaGreatDoor
open Go Go.RowKit

/-- From a row edges lead to a marked one. -/
inductive Co (edges : List (Nat × Nat)) (mk : Nat → Bool) : Nat → Prop
 | here {i : Nat} (h : mk i = true) : Co edges mk i
 | step {a b : Nat} (h : (a, b) ∈ edges) (hb : Co edges mk b) : Co edges mk a

theorem Co.closed {edges : List (Nat × Nat)} {mk : Nat → Bool} {good : Nat → Prop} (h1 : ∀ i, mk i = true → good i) (h2 : ∀ a b, (a, b) ∈ edges → good b → good a) {i : Nat} (h : Co edges mk i) : good i := by
 induction h with
 | here h => exact h1 _ h
 | step h _ ih => exact h2 _ _ h ih

/-- Numbers below n, no two the same: at most n. -/
theorem nodup_lt : ∀ (n : Nat) (l : List Nat), l.Nodup → (∀ x ∈ l, x < n) → l.length ≤ n
 | 0, l, _, h => by
  cases l with
  | nil => simp
  | cons a r => exact absurd (h a (by simp)) (by omega)
 | n + 1, l, hd, h => by
  have h1 := nodup_lt n (l.filter fun x => x != n) (hd.filter _) (fun x hx => by
   rw [List.mem_filter] at hx
   have := h x hx.1
   have h2 : x ≠ n := by simpa using hx.2
   omega)
  have h2 : l.length ≤ (l.filter fun x => x != n).length + 1 := by
   clear h1 h
   induction l with
   | nil => simp
   | cons a r ih =>
    rw [List.nodup_cons] at hd
    by_cases e : a = n
    ·subst e
     have : r.filter (fun x => x != a) = r := by
      rw [List.filter_eq_self]
      intro x hx
      have : x ≠ a := fun e => hd.1 (e ▸ hx)
      simpa using this
     simp [this]
    ·have := ih hd.2
     simp [e]
     omega
  omega

/-! From which rows edges lead to a marked one: by sweeps over the edges, and by a queue. Plain laws. -/

def falses (l : List Bool) : Nat := l.countP (fun b => !b)
theorem falses_le (l : List Bool) : falses l ≤ l.length := List.countP_le_length
theorem falses_set : ∀ {l : List Bool} {i : Nat}, l[i]? = some false → falses (l.set i true) + 1 = falses l
 | [], i, h => by simp at h
 | b :: l, 0, h => by
  simp only [List.getElem?_cons_zero, Option.some.injEq] at h
  subst h
  simp [falses]
 | b :: l, i + 1, h => by
  simp only [List.getElem?_cons_succ] at h
  have := falses_set h
  unfold falses at *
  rw [List.set_cons_succ, List.countP_cons, List.countP_cons]
  omega

/-- The rows known so far are right, and the marked ones are known. -/
structure CoOk (edges : List (Nat × Nat)) (mk : Nat → Bool) (good : List Bool) : Prop where
 sound : ∀ i, good[i]? = some true → Co edges mk i
 marked : ∀ i, mk i = true → good[i]? = some true

def CoDone (edges : List (Nat × Nat)) (good : List Bool) : Prop := ∀ a b, (a, b) ∈ edges → good[b]? = some true → good[a]? = some true

theorem CoOk.iff {edges : List (Nat × Nat)} {mk : Nat → Bool} {good : List Bool} (h : CoOk edges mk good) (hd : CoDone edges good) (i : Nat) : good[i]? = some true ↔ Co edges mk i :=
 ⟨h.sound i, fun hc => hc.closed (good := fun i => good[i]? = some true) h.marked hd⟩

theorem set_true_get {good : List Bool} {a i : Nat} (ha : a < good.length) : (good.set a true)[i]? = some true ↔ i = a ∨ good[i]? = some true := by
 by_cases e : i = a
 ·subst e
  rw [List.getElem?_set_self ha]
  simp
 ·rw [List.getElem?_set_ne (Ne.symm e)]
  simp [e]

theorem CoOk.set {edges : List (Nat × Nat)} {mk : Nat → Bool} {good : List Bool} (h : CoOk edges mk good) {a b : Nat} (he : (a, b) ∈ edges) (hb : good[b]? = some true) (ha : a < good.length) : CoOk edges mk (good.set a true) where
 sound i hi := by
  rcases (set_true_get ha).1 hi with rfl | hi
  ·exact .step he (h.sound b hb)
  ·exact h.sound i hi
 marked i hi := (set_true_get ha).2 (.inr (h.marked i hi))

/-- One sweep over the edges, up to the edge number k. -/
structure Sweep (edges : List (Nat × Nat)) (mk : Nat → Bool) (good0 good : List Bool) (k : Nat) (more : Bool) : Prop where
 ok : CoOk edges mk good
 len : good.length = good0.length
 le : falses good ≤ falses good0
 no : more = false → good = good0 ∧ ∀ i (h : i < edges.length), i < k → good[edges[i].2]? = some true → good[edges[i].1]? = some true
 yes : more = true → falses good < falses good0

theorem Sweep.start {edges : List (Nat × Nat)} {mk : Nat → Bool} {good : List Bool} (h : CoOk edges mk good) : Sweep edges mk good good 0 false :=
 ⟨h, rfl, Nat.le_refl _, fun _ => ⟨rfl, fun _ _ h => absurd h (by omega)⟩, fun h => by cases h⟩
theorem Sweep.turn {edges : List (Nat × Nat)} {mk : Nat → Bool} {good0 good : List Bool} {k : Nat} {more : Bool} (h : Sweep edges mk good0 good k more) (hk : k < edges.length) (h2 : good[edges[k].2]? = some true) (h1 : good[edges[k].1]? = some false) :
  Sweep edges mk good0 (good.set edges[k].1 true) (k + 1) true where
 ok := h.ok.set (a := edges[k].1) (b := edges[k].2) (by exact List.getElem_mem hk) h2 (List.getElem?_eq_some_iff.1 h1).1
 len := by rw [List.length_set]; exact h.len
 le := by have := falses_set h1; have := h.le; omega
 no := fun e => by cases e
 yes := fun _ => by have := falses_set h1; have := h.le; omega
theorem Sweep.skip {edges : List (Nat × Nat)} {mk : Nat → Bool} {good0 good : List Bool} {k : Nat} {more : Bool} (h : Sweep edges mk good0 good k more) (hk : k < edges.length) (h1 : good[edges[k].2]? = some true → good[edges[k].1]? = some true) :
  Sweep edges mk good0 good (k + 1) more where
 ok := h.ok
 len := h.len
 le := h.le
 no := fun e => ⟨(h.no e).1, fun i hi hlt => by
  by_cases e1 : i = k
  ·subst e1; exact h1
  ·exact (h.no e).2 i hi (by omega)⟩
 yes := h.yes
theorem Sweep.done {edges : List (Nat × Nat)} {mk : Nat → Bool} {good0 good : List Bool} (h : Sweep edges mk good0 good edges.length false) : CoDone edges good := by
 intro a b hm hb
 obtain ⟨i, hi, e⟩ := List.mem_iff_getElem.1 hm
 have := (h.no rfl).2 i hi hi
 rw [e] at this
 exact this hb

/-! The search over triples, edge for edge: how far it has come, and what holds there. Plain laws. -/

section
variable {p s r : Lts} {ctl : ByteArray → Bool}

end


end Go.Proofs.YtbjbjbnbapeajaaGreatDoor

namespace Go.Proofs.YtbjbjbnbapeajaaGreatDoor
open Go Go.RowKit

/-- A list that has just the members P, ascending. -/
structure IsSet (P : Int → Prop) (l : List Int) : Prop where
 mem : ∀ x, x ∈ l ↔ P x
 asc : l.Pairwise (· < ·)

theorem asc_unique : ∀ (l m : List Int), l.Pairwise (· < ·) → m.Pairwise (· < ·) → (∀ x, x ∈ l ↔ x ∈ m) → l = m
 | [], [], _, _, _ => rfl
 | [], b :: m, _, _, h => by have := (h b).2 (by simp); simp at this
 | a :: l, [], _, _, h => by have := (h a).1 (by simp); simp at this
 | a :: l, b :: m, hl, hm, h => by
  rw [List.pairwise_cons] at hl hm
  have e : a = b := by
   have h1 := (h a).1 (by simp)
   have h2 := (h b).2 (by simp)
   rw [List.mem_cons] at h1 h2
   rcases h1 with h1 | h1
   ·exact h1
   ·rcases h2 with h2 | h2
    ·exact h2.symm
    ·have := hm.1 a h1
     have := hl.1 b h2
     omega
  subst e
  rw [asc_unique l m hl.2 hm.2 fun x => ?_]
  constructor
  ·intro hx
   have h1 := (h x).1 (by simp [hx])
   rw [List.mem_cons] at h1
   rcases h1 with h1 | h1
   ·have := hl.1 x hx; omega
   ·exact h1
  ·intro hx
   have h1 := (h x).2 (by simp [hx])
   rw [List.mem_cons] at h1
   rcases h1 with h1 | h1
   ·have := hm.1 x hx; omega
   ·exact h1
theorem IsSet.unique {P : Int → Prop} {l m : List Int} (hl : IsSet P l) (hm : IsSet P m) : l = m :=
 asc_unique l m hl.asc hm.asc fun x => (hl.mem x).trans (hm.mem x).symm
theorem IsSet.congr {P Q : Int → Prop} {l : List Int} (hl : IsSet P l) (h : ∀ x, P x ↔ Q x) : IsSet Q l := ⟨fun x => (hl.mem x).trans (h x), hl.asc⟩

noncomputable section
/-- The numbers below n with P, ascending. -/
def setL (n : Int) (P : Int → Prop) : List Int := ((List.range n.toNat).map fun (i : Nat) => (i : Int)).filter fun x => @decide (P x) (Classical.propDecidable _)
theorem setL_is {n : Int} {P : Int → Prop} (h : ∀ x, P x → 0 ≤ x ∧ x < n) : IsSet P (setL n P) where
 mem x := by
  unfold setL
  rw [List.mem_filter, List.mem_map]
  constructor
  ·intro hx
   exact @of_decide_eq_true _ (Classical.propDecidable _) hx.2
  ·intro hx
   have := h x hx
   exact ⟨⟨x.toNat, List.mem_range.2 (by omega), by omega⟩, @decide_eq_true _ (Classical.propDecidable _) hx⟩
 asc := by
  unfold setL
  refine List.Pairwise.filter _ ?_
  rw [List.pairwise_map]
  exact List.Pairwise.imp (fun h => by omega) List.pairwise_lt_range
end

/-- Internal edges lead from a to b. -/
inductive TauStar (t : Lts) (a : Int) : Int → Prop
 | refl : TauStar t a a
 | step {b : Int} (h : TauStar t a b) (e : Edge) (he : e ∈ t.edges) (hl : e.lab = 0) (hs : e.src = b) : TauStar t a e.dst
/-- What internal edges reach from S. -/
def clos (t : Lts) (S : Int → Prop) (x : Int) : Prop := ∃ a, S a ∧ TauStar t a x
theorem clos.base {t : Lts} {S : Int → Prop} {x : Int} (h : S x) : clos t S x := ⟨x, h, .refl⟩
theorem clos.next {t : Lts} {S : Int → Prop} {e : Edge} (h : clos t S e.src) (he : e ∈ t.edges) (hl : e.lab = 0) : clos t S e.dst := by
 obtain ⟨a, ha, hs⟩ := h
 exact ⟨a, ha, .step hs e he hl rfl⟩
theorem clos.least {t : Lts} {S Q : Int → Prop} (h1 : ∀ x, S x → Q x) (h2 : ∀ e ∈ t.edges, e.lab = 0 → Q e.src → Q e.dst) {x : Int} (h : clos t S x) : Q x := by
 obtain ⟨a, ha, hs⟩ := h
 induction hs with
 | refl => exact h1 a ha
 | step _ e he hl hs ih => exact h2 e he hl (hs ▸ ih)
theorem clos.inside {t : Lts} (hv : Valid t) {S : Int → Prop} (h : ∀ x, S x → 0 ≤ x ∧ x < t.states) (x : Int) (hx : clos t S x) : 0 ≤ x ∧ x < t.states :=
 hx.least (Q := fun x => 0 ≤ x ∧ x < t.states) h fun e he _ _ => by
  obtain ⟨i, hi, rfl⟩ := List.mem_iff_getElem.1 he
  have := hv.edge i hi
  exact ⟨this.d0, this.d1⟩

/-- Behind a label's number k, from the states in l. -/
def behindP (t : Lts) (l : List Int) (k : Int) (x : Int) : Prop := ∃ e ∈ t.edges, e.lab = k ∧ e.src ∈ l ∧ e.dst = x
noncomputable section
end

/-! ### sweeps over the internal edges -/
/-- An internal edge as a pair (where it leads, where it begins); another edge says nothing. -/
def tauPair (e : Edge) : Nat × Nat := if e.lab = 0 then (e.dst.toNat, e.src.toNat) else (0, 0)
def tauPairs (t : Lts) : List (Nat × Nat) := t.edges.map tauPair
def markB (l : List Bool) (i : Nat) : Bool := l.getD i false
/-- The true places of a list of truth values. -/
def inL (l : List Bool) (x : Int) : Prop := 0 ≤ x ∧ l[x.toNat]? = some true

theorem co_clos {t : Lts} (hv : Valid t) {l : List Bool} {i : Nat} (h : Co (tauPairs t) (markB l) i) : clos t (inL l) (i : Int) := by
 induction h with
 | @here i h =>
  refine clos.base ⟨by omega, ?_⟩
  unfold markB at h
  rw [List.getD_eq_getElem?_getD] at h
  rw [Int.toNat_natCast]
  cases h2 : l[i]? with
  | none => rw [h2] at h; cases h
  | some b => rw [h2] at h; simp only [Option.getD_some] at h; rw [h]
 | @step a b he _ ih =>
  obtain ⟨e, hm, hp⟩ := List.mem_map.1 he
  unfold tauPair at hp
  split at hp
  ·next hl =>
   obtain ⟨j, hj, rfl⟩ := List.mem_iff_getElem.1 hm
   have hok := hv.edge j hj
   simp only [Prod.mk.injEq] at hp
   have h1 : ((a : Nat) : Int) = t.edges[j].dst := by have := hok.d0; omega
   have h2 : ((b : Nat) : Int) = t.edges[j].src := by have := hok.s0; omega
   rw [h1]
   rw [h2] at ih
   exact ih.next hm hl
  ·simp only [Prod.mk.injEq] at hp
   obtain ⟨rfl, rfl⟩ := hp
   exact ih
theorem clos_co {t : Lts} (hv : Valid t) {l : List Bool} {x : Int} (h : clos t (inL l) x) : 0 ≤ x ∧ Co (tauPairs t) (markB l) x.toNat := by
 refine h.least (Q := fun x => 0 ≤ x ∧ Co (tauPairs t) (markB l) x.toNat) ?_ ?_
 ·rintro y ⟨h0, h1⟩
  refine ⟨h0, .here ?_⟩
  unfold markB
  rw [List.getD_eq_getElem?_getD, h1]
  rfl
 ·intro e he hl ⟨_, h2⟩
  obtain ⟨j, hj, rfl⟩ := List.mem_iff_getElem.1 he
  refine ⟨(hv.edge j hj).d0, .step (b := t.edges[j].src.toNat) ?_ h2⟩
  refine List.mem_map.2 ⟨_, he, ?_⟩
  unfold tauPair
  rw [if_pos hl]
/-- At rest, the true places are what internal edges reach. -/
theorem rest_clos {t : Lts} (hv : Valid t) {l good : List Bool} (hc : CoOk (tauPairs t) (markB l) good) (hd : CoDone (tauPairs t) good) (x : Int) : inL good x ↔ clos t (inL l) x := by
 constructor
 ·rintro ⟨h0, h1⟩
  have := co_clos hv ((hc.iff hd x.toNat).1 h1)
  rw [Int.toNat_of_nonneg h0] at this
  exact this
 ·intro h
  obtain ⟨h0, h1⟩ := clos_co hv h
  exact ⟨h0, (hc.iff hd x.toNat).2 h1⟩
theorem markB_ok (t : Lts) (l : List Bool) : CoOk (tauPairs t) (markB l) l where
 sound i hi := .here (by unfold markB; rw [List.getD_eq_getElem?_getD, hi]; rfl)
 marked i hi := by
  unfold markB at hi
  rw [List.getD_eq_getElem?_getD] at hi
  cases h2 : l[i]? with
  | none => rw [h2] at hi; cases hi
  | some b => rw [h2] at hi; simp only [Option.getD_some] at hi; rw [hi]

end Go.Proofs.YtbjbjbnbapeajaaGreatDoor

namespace Go.Proofs.YtbjbjbnbapeajaaGreatDoor
open Go Go.RowKit

theorem compact_upto {α : Type} [Inhabited α] [DecidableEq α] (lt : α → α → Prop) (ht : ∀ a b c, lt a b → lt b c → lt a c) (d : Array α) (hs : ∀ i j, i < j → j < d.size → d[i]! = d[j]! ∨ lt d[i]! d[j]!) :
  ∀ m, m ≤ d.size → (Lib.compactUpTo d m).Pairwise lt ∧ ∀ x, x ∈ Lib.compactUpTo d m ↔ ∃ j, j < m ∧ d[j]! = x
 | 0, _ => ⟨by simp [Lib.compactUpTo], fun x => by simp [Lib.compactUpTo]⟩
 | m + 1, hm => by
  obtain ⟨h1, h2⟩ := compact_upto lt ht d hs m (by omega)
  rw [Lib.compactUpTo_succ]
  by_cases hk : Lib.keeps d m = true
  ·rw [if_pos hk]
   refine ⟨?_, fun x => ?_⟩
   ·rw [List.pairwise_append]
    refine ⟨h1, by simp, fun a ha b hb => ?_⟩
    rw [List.mem_singleton] at hb
    subst hb
    obtain ⟨j, hj, rfl⟩ := (h2 a).1 ha
    unfold Lib.keeps at hk
    rw [decide_eq_true_eq] at hk
    rcases hk with hk | hk
    ·omega
    ·have hl : lt d[m - 1]! d[m]! := by
      rcases hs (m - 1) m (by omega) (by omega) with e | e
      ·exact absurd e.symm hk
      ·exact e
     by_cases hjm : j = m - 1
     ·rw [hjm]; exact hl
     ·rcases hs j (m - 1) (by omega) (by omega) with e | e
      ·rw [e]; exact hl
      ·exact ht _ _ _ e hl
   ·rw [List.mem_append, h2, List.mem_singleton]
    constructor
    ·rintro (⟨j, hj, e⟩ | e)
     ·exact ⟨j, by omega, e⟩
     ·exact ⟨m, by omega, e.symm⟩
    ·rintro ⟨j, hj, e⟩
     by_cases hjm : j = m
     ·subst hjm; exact .inr e.symm
     ·exact .inl ⟨j, by omega, e⟩
  ·rw [if_neg hk, List.append_nil]
   refine ⟨h1, fun x => ?_⟩
   rw [h2]
   have hk' : m ≠ 0 ∧ d[m]! = d[m - 1]! := by
    unfold Lib.keeps at hk
    rw [decide_eq_true_eq, not_or, Classical.not_not] at hk
    exact hk
   constructor
   ·rintro ⟨j, hj, e⟩
    exact ⟨j, by omega, e⟩
   ·rintro ⟨j, hj, e⟩
    by_cases hjm : j = m
    ·subst hjm
     exact ⟨j - 1, by omega, by rw [← hk'.2]; exact e⟩
    ·exact ⟨j, by omega, e⟩
theorem compact_is {α : Type} [Inhabited α] [DecidableEq α] (lt : α → α → Prop) (ht : ∀ a b c, lt a b → lt b c → lt a c) (zs : List α) (hs : zs.Pairwise fun a b => a = b ∨ lt a b) :
  (Lib.compact zs).Pairwise lt ∧ ∀ x, x ∈ Lib.compact zs ↔ x ∈ zs := by
 have hp := List.pairwise_iff_getElem.1 hs
 have hg : ∀ i (h : i < zs.length), zs.toArray[i]! = zs[i] := fun i h => by
  rw [getElem!_pos zs.toArray i (by simpa using h)]
  simp
 obtain ⟨h1, h2⟩ := compact_upto lt ht zs.toArray (fun i j hij hj => by
  have hj' : j < zs.length := by simpa using hj
  rw [hg i (by omega), hg j hj']
  exact hp i j (by omega) hj' hij) zs.length (by simp)
 refine ⟨h1, fun x => ?_⟩
 unfold Lib.compact
 rw [h2, List.mem_iff_getElem]
 constructor
 ·rintro ⟨j, hj, e⟩
  exact ⟨j, hj, by rw [← hg j hj]; exact e⟩
 ·rintro ⟨j, hj, e⟩
  exact ⟨j, hj, by rw [hg j hj]; exact e⟩

/-- A list that is sorted in numbers, then its equal neighbours made one: the set's list. -/
theorem sort_compact_is (xs : List Int) : IsSet (fun x => x ∈ xs) (Lib.compact (xs.mergeSort fun x y => decide (x ≤ y))) := by
 have hs : (xs.mergeSort fun x y => decide (x ≤ y)).Pairwise fun a b => a = b ∨ a < b := by
  have := List.pairwise_mergeSort (le := fun (x y : Int) => decide (x ≤ y)) (fun a b c h1 h2 => by simp at *; omega) (fun a b => by simp; omega) xs
  exact this.imp fun h => by simp at h; omega
 obtain ⟨h1, h2⟩ := compact_is (fun a b : Int => a < b) (fun a b c h k => by omega) _ hs
 exact ⟨fun x => (h2 x).trans List.mem_mergeSort, h1⟩
/-- A list without repeats, sorted: the set's list. -/
theorem sort_nodup_is (xs : List Int) (hn : xs.Nodup) : IsSet (fun x => x ∈ xs) (xs.mergeSort fun x y => decide (x ≤ y)) := by
 refine ⟨fun x => List.mem_mergeSort, ?_⟩
 have h1 := List.pairwise_mergeSort (le := fun (x y : Int) => decide (x ≤ y)) (fun a b c h1 h2 => by simp at *; omega) (fun a b => by simp; omega) xs
 have h2 : (xs.mergeSort fun x y => decide (x ≤ y)).Nodup := (List.mergeSort_perm xs _).nodup_iff.2 hn
 exact (h1.and h2).imp fun ⟨h, k⟩ => by simp at h; omega

/-- Strictly ascending lists with the same members are one list. -/
theorem rise_unique {α : Type} (lt : α → α → Prop) (hi : ∀ a, ¬ lt a a) (ha : ∀ a b, lt a b → ¬ lt b a) : ∀ (l m : List α), l.Pairwise lt → m.Pairwise lt → (∀ x, x ∈ l ↔ x ∈ m) → l = m
 | [], [], _, _, _ => rfl
 | [], b :: m, _, _, h => by have := (h b).2 (by simp); simp at this
 | a :: l, [], _, _, h => by have := (h a).1 (by simp); simp at this
 | a :: l, b :: m, hl, hm, h => by
  rw [List.pairwise_cons] at hl hm
  have e : a = b := by
   have h1 := (h a).1 (by simp)
   have h2 := (h b).2 (by simp)
   rw [List.mem_cons] at h1 h2
   rcases h1 with h1 | h1
   ·exact h1
   ·rcases h2 with h2 | h2
    ·exact h2.symm
    ·exact absurd (hl.1 b h2) (ha _ _ (hm.1 a h1))
  subst e
  rw [rise_unique lt hi ha l m hl.2 hm.2 fun x => ?_]
  constructor
  ·intro hx
   have h1 := (h x).1 (by simp [hx])
   rw [List.mem_cons] at h1
   rcases h1 with h1 | h1
   ·subst h1; exact absurd (hl.1 x hx) (hi x)
   ·exact h1
  ·intro hx
   have h1 := (h x).2 (by simp [hx])
   rw [List.mem_cons] at h1
   rcases h1 with h1 | h1
   ·subst h1; exact absurd (hm.1 x hx) (hi x)
   ·exact h1

end Go.Proofs.YtbjbjbnbapeajaaGreatDoor

namespace Go.Proofs.YtbjbjbnbapeajaaGreatDoor
open Go Go.RowKit

theorem Sort_own (base : Nat) (v : Value) (xs : List Int) (w : World) (ho : w.ownsRow base 2 1 v xs.length (xs.map (Value.int .i64))) (hz : xs.length ≤ 1048576) :
  Calls Tryz.prog 144 #[v] w fun e w' => e = .returned (.tuple #[]) ∧ w'.ownsRow base 2 1 v xs.length ((xs.mergeSort fun x y => decide (x ≤ y)).map (Value.int .i64)) ∧ w.grownBy w' v.ownBlock := by
 rcases ho.2 with ⟨rfl, h0⟩ | ⟨g, cap, cur, rfl, hb, hg, hn, hm, hs, ht⟩
 ·have hx : xs = [] := List.eq_nil_of_length_eq_zero h0
  subst hx
  refine (Tryz.slices_Sort_int_none none 0 w).mono ?_
  rintro e w' ⟨rfl, rfl⟩
  exact ⟨rfl, by simpa using ho, grown_refl _ _⟩
 ·rw [Nat.mul_one] at ht
  refine (Tryz.slices_Sort_int g 0 cap xs w (holds_of_blockI hg ht) (Array.getElem?_eq_some_iff.1 hg).1 (by omega)).mono ?_
  rintro e w' ⟨rfl, n, os, rfl⟩
  exact ⟨rfl, ownsRow_sortedI (List.length_mergeSort xs) hb hg hn hm hs, grownBy_sortedI _⟩

theorem grownBy_put {α : Type} [Inhabited α] {enc : α → Value} {w : World} {g q : Nat} (d : Array α) : w.grownBy (Go.Sort.putRow enc (Go.Sort.ahead w q) g 0 d) (some g) := by
 refine ⟨rfl, rfl, rfl, by simp [Go.Sort.putRow, Go.Sort.mapBlock, Go.Sort.ahead], fun k hk hne => ?_⟩
 have : g ≠ k := fun e => hne (by rw [e])
 simp [Go.Sort.putRow, Go.Sort.mapBlock, Go.Sort.ahead, Array.getElem?_modify, this]

theorem Compact_own (base : Nat) (v : Value) (xs : List Int) (w : World) (ho : w.ownsRow base 2 1 v xs.length (xs.map (Value.int .i64))) :
  Calls Tryz.prog 145 #[v] w fun e w' => ∃ v', e = .returned v' ∧ w'.ownsRow base 2 1 v' (Lib.compact xs).length ((Lib.compact xs).map (Value.int .i64)) ∧ w.grownBy w' v.ownBlock := by
 have hle := Lib.compact_length_le xs
 rcases ho.2 with ⟨rfl, h0⟩ | ⟨g, cap, cur, rfl, hb, hg, hn, hm, hs, ht⟩
 ·have hx : xs = [] := List.eq_nil_of_length_eq_zero h0
  subst hx
  refine (Tryz.slices_Compact_int_empty none 0 w).mono ?_
  rintro e w' ⟨rfl, rfl⟩
  exact ⟨_, rfl, by simpa [Lib.compact, Lib.compactUpTo] using ho, grown_refl _ _⟩
 ·rw [Nat.mul_one] at ht
  have hm2 : cap ≤ 9223372036854775807 := by simpa [maxLen] using hm
  refine (Tryz.slices_Compact_int g 0 cap xs w (holds_of_blockI hg ht) (by omega) hn).mono ?_
  rintro e w' ⟨rfl, q, rfl⟩
  have hc := Lib.ownsRow_putRow (q := q) (k := (Lib.compact xs).length) (ys := Lib.compact xs ++ List.replicate (xs.length - (Lib.compact xs).length) 0) ho (by simp; omega) hle
  rw [List.take_left] at hc
  exact ⟨_, rfl, hc, grownBy_put _⟩

theorem Clone_own (lo : Nat) (v : Value) (xs : List Int) (w : World) (hv : SliceK 1 encI lo w v xs) (hz : xs.length ≤ 1048576) :
  Calls Tryz.prog 170 #[v] w fun e w' => ∃ v', e = .returned v' ∧ w'.ownsRow w.heap.size 2 1 v' xs.length (xs.map (Value.int .i64)) ∧ Below w.heap.size w w' := by
 obtain ⟨a, c, rfl, hn, hc, hrow⟩ := hv
 cases a with
 | none =>
  have h0 : xs.length = 0 := by
   rcases hrow with h | ⟨b, o, h, -⟩
   ·exact h
   ·cases h
  have hx : xs = [] := List.eq_nil_of_length_eq_zero h0
  subst hx
  refine (Tryz.slices_Clone_int_nil _ _ w).mono ?_
  rintro e w' ⟨rfl, rfl⟩
  exact ⟨_, rfl, World.ownsRow_nil _ _ _ _, Below.refl _ _⟩
 | some a =>
  rcases hrow with h0 | ⟨b, o, h, -, hb, hcell⟩
  ·have hx : xs = [] := List.eq_nil_of_length_eq_zero h0
   subst hx
   refine (Tryz.slices_Clone_int_zero a c w).mono ?_
   rintro e w' ⟨v', rfl, ho, -, hb⟩
   exact ⟨v', rfl, ho, hb⟩
  ·cases h
   refine (Tryz.slices_Clone_int b o xs.length c xs w (Nat.le_refl _) (by omega) (fun j hj => ?_)).mono ?_
   ·have := hcell j hj 0 (by omega)
    rw [List.getD_eq_getElem?_getD, List.getElem?_eq_getElem hj]
    simpa [encI] using this
   ·rintro e w' ⟨v', rfl, ho, -, hb2⟩
    rw [List.take_length] at ho
    exact ⟨v', rfl, ho, hb2⟩

end Go.Proofs.YtbjbjbnbapeajaaGreatDoor

namespace Go.Proofs.YtbjbjbnbapeajaaGreatDoor
open Go Go.RowKit

theorem info_int64f : (Tryz.prog.info? 2).map (fun i => (i.zero, i.size, i.bytes)) = some (some (.int .i64 0), 1, 8) := by kernel_rfl

/-- An edge with the label from one of the states. -/
def hitS (p : Lts) (cur : List Int) (l : ByteArray) (e : Edge) : Bool := (cur.any fun y => y == e.src) && ((labAt p e).toList == l.toList)
def followR (p : Lts) (cur : List Int) (l : ByteArray) : List Int := (p.edges.filter (hitS p cur l)).map Edge.dst
def followL (p : Lts) (cur : List Int) (l : ByteArray) : List Int := Lib.compact ((followR p cur l).mergeSort fun x y => decide (x ≤ y))
theorem hitS_take {p : Lts} {cur : List Int} {l : ByteArray} {k : Nat} (h : k < p.edges.length) (g : hitS p cur l p.edges[k] = true) :
  ((p.edges.take (k + 1)).filter (hitS p cur l)).map Edge.dst = ((p.edges.take k).filter (hitS p cur l)).map Edge.dst ++ [p.edges[k].dst] := by
 rw [List.take_succ_eq_append_getElem h, List.filter_append, List.map_append]
 simp [g]
theorem missS_take {p : Lts} {cur : List Int} {l : ByteArray} {k : Nat} (h : k < p.edges.length) (g : hitS p cur l p.edges[k] = false) :
  ((p.edges.take (k + 1)).filter (hitS p cur l)).map Edge.dst = ((p.edges.take k).filter (hitS p cur l)).map Edge.dst := by
 rw [List.take_succ_eq_append_getElem h, List.filter_append, List.map_append]
 simp [g]

set_option maxRecDepth 100000 in
set_option maxHeartbeats 2000000 in
theorem follow_any (lo lo2 : Nat) (p : Lts) (lv ev sv : Value) (cur : List Int) (l : ByteArray) (w : World) (hvp : Valid p) (hl : SliceK 1 encS lo w lv p.labels) (he : SliceK 3 encE lo w ev p.edges) (hs : SliceK 1 encI lo2 w sv cur) :
  Calls Tryz.prog 105 #[.agg #[.int .i64 p.states, .int .i64 p.initial, lv, ev], sv, .string l] w (MadeNums (followL p cur l) w) := by
 have HS := Lib.hid hs
 have HE := Lib.hid hvp.edge
 have hmost := hvp.most
 clear hs hvp
 obtain ⟨al, cl, rfl, hln, hlc, hlr⟩ := hl
 obtain ⟨ae, ce, rfl, hen, hec, hrow⟩ := he
 have HLR := Lib.hid hlr
 have HER := Lib.hid hrow
 clear hlr hrow
 obtain ⟨i0, hi, hz0, hz1, hz2⟩ := info_parts info_int64f
 have HB0 : Hid (Below w.heap.size w (w.alloc (.cells #[.int .i64 p.states, .int .i64 p.initial, .slice al p.labels.length cl, .slice ae p.edges.length ce] 29))) := (Below.refl _ _).alloc (Nat.le_refl _) _
 have HQ2 : Hid ((w.alloc (.cells #[.int .i64 p.states, .int .i64 p.initial, .slice al p.labels.length cl, .slice ae p.edges.length ce] 29)).cell? ⟨w.heap.size, 2, none⟩ = some (.slice al p.labels.length cl)) := by unfold Hid; simp
 obtain ⟨wB, hwB⟩ : ∃ wB, wB = w.alloc (.cells #[.int .i64 p.states, .int .i64 p.initial, .slice al p.labels.length cl, .slice ae p.edges.length ce] 29) := ⟨_, rfl⟩
 have hwz : wB.heap.size = w.heap.size + 1 := by rw [hwB]; simp
 rw [← hwB] at HB0 HQ2
 have HWB := Lib.hid hwB
 clear hwB
 go_enter Tryz.func105, Tryz.ntmps105
 go_wp2_with fail
 rw [← HWB.out]
 clear HWB
 go_loopw [7, 13] (fun v i wr => ∃ k : Nat, k ≤ p.edges.length ∧ i = .int .i64 k ∧ Below wB.heap.size wB wr ∧ wr.ownsRow wB.heap.size 2 1 v (((p.edges.take k).filter (hitS p cur l)).map Edge.dst).length ((((p.edges.take k).filter (hitS p cur l)).map Edge.dst).map (Value.int .i64))) (fun _ i _ => p.edges.length - (intOf i).toNat)
 case atStart => exact ⟨0, Nat.zero_le _, rfl, Below.refl _ _, World.ownsRow_nil _ _ _ _⟩
 case round =>
  obtain ⟨k, hk, rfl, hbl, ho⟩ := hrel
  have HBL := Lib.hid hbl
  have HO := Lib.hid ho
  have hsz := hbl.size
  have q2 := keeps hbl (by omega) HQ2.out
  have hwr : w.heap.size < wr.heap.size := by omega
  have hfl : (((p.edges.take k).filter (hitS p cur l)).map Edge.dst).length ≤ k := by rw [List.length_map]; exact Nat.le_trans (List.length_filter_le _ _) (List.length_take_le _ _)
  clear hbl ho
  by_cases hlt : k < p.edges.length
  ·have hbr := HB0.out.trans (HBL.out.mono HB0.out.size)
   obtain ⟨be, oe, rfl, -, hbe, e1, e2, e3⟩ := (HER.out.below hbr).edge hlt
   have hek := HE.out k hlt
   obtain ⟨hll, hla⟩ := labAt_idx hek
   obtain ⟨bl, ol, rfl, -, hbl2, c1⟩ := (HLR.out.below hbr).one hll
   simp only [encS, List.getElem?_cons_zero] at c1
   rw [← hla] at c1
   have hl0 : ((p.edges[k].lab.toNat : Nat) : Int) = p.edges[k].lab := by have := hek.l0; omega
   have hl1 := hek.l1
   have hl2 := hek.l0
   obtain ⟨e, hee⟩ : ∃ e, e = p.edges[k] := ⟨_, rfl⟩
   obtain ⟨m, hm⟩ : ∃ m, m = p.edges[k].lab.toNat := ⟨_, rfl⟩
   rw [← hm] at c1 hl0 hll
   rw [← hee] at e1 e2 e3 c1 hl0 hl1 hl2
   have HEE := Lib.hid hee
   rw [← hl0] at e2
   have HBA : Hid (Below wB.heap.size wB (wr.alloc (.cells #[.int .i64 e.src, .int .i64 m, .int .i64 e.dst] 73))) := HBL.out.alloc hsz _
   have HSA : Hid (SliceK 1 encI lo2 (wr.alloc (.cells #[.int .i64 e.src, .int .i64 m, .int .i64 e.dst] 73)) sv cur) := HS.out.below (hbr.alloc hbr.size _)
   have HOA : Hid ((wr.alloc (.cells #[.int .i64 e.src, .int .i64 m, .int .i64 e.dst] 73)).ownsRow wB.heap.size 2 1 u7 (((p.edges.take k).filter (hitS p cur l)).map Edge.dst).length ((((p.edges.take k).filter (hitS p cur l)).map Edge.dst).map (Value.int .i64))) := HO.out.alloc _
   have hml : (m : Int) < (p.labels.length : Int) := by omega
   clear hl0 hl1 hl2 hek hbr hla
   cases g1 : ((labAt p e).toList == l.toList)
   ·have HG : Hid (hitS p cur l p.edges[k] = false) := by unfold Hid hitS; rw [← hee, g1, Bool.and_false]
    clear hee hm
    go_wp2_with fail
    go_roundw
    case rel => exact ⟨k + 1, by omega, by go_num, HBA.out, by rw [missS_take hlt HG.out]; exact HOA.out⟩
    case measure => simp [intOf]; omega
   ·cases g2 : (cur.any fun y => y == e.src)
    ·have HG : Hid (hitS p cur l p.edges[k] = false) := by
      unfold Hid hitS
      rw [← hee, g2, Bool.false_and]
     have HG2 := Lib.hid g2
     clear hee hm g2
     go_wp2_with fail
     refine (Contains_ints lo2 _ _ cur _ HSA.out).mono ?_
     rintro e' w' ⟨rfl, rfl⟩
     rw [HG2.out]
     go_wp2_with fail
     go_roundw
     case rel => exact ⟨k + 1, by omega, by go_num, HBA.out, by rw [missS_take hlt HG.out]; exact HOA.out⟩
     case measure => simp [intOf]; omega
    ·have HG : Hid (hitS p cur l p.edges[k] = true) := by
      unfold Hid hitS
      rw [← hee, g2, g1]; rfl
     have HG2 := Lib.hid g2
     have HD : Hid (p.edges[k].dst = e.dst) := by unfold Hid; rw [← hee]
     clear hee hm g2
     have hfz := hfl
     generalize hfs : ((p.edges.take k).filter (hitS p cur l)).map Edge.dst = fs at *
     have HFS := Lib.hid hfs
     clear hfs
     go_wp2_with fail
     refine (Contains_ints lo2 _ _ cur _ HSA.out).mono ?_
     rintro e' w' ⟨rfl, rfl⟩
     rw [HG2.out]
     go_wp2_with (at_builtin; refine wpList_append_own _ rfl _ _ 68 rfl wB.heap.size 2 i0 (.int .i64 0) 1 8 Tryz.underlying68 hi hz0 hz1 hz2 rfl (by decide) _ _ _ rfl (HOA.out.alloc _) ⟨wr.heap.size + 1, 0, none⟩ 1 1 [.int .i64 e.dst] rfl rfl ?c1 ?c2 ?c3 ?c4 ?c5 ?_)
     case c1 => have := cell_one_new (wr.alloc (.cells #[.int .i64 e.src, .int .i64 m, .int .i64 e.dst] 73)) (.int .i64 e.dst) 2; simpa using this
     case c2 => intro u hu; simp at hu; subst hu; rfl
     case c3 => simp [maxLen]; omega
     case c4 => omega
     case c5 => simp; omega
     intro v' w3 ho1 hg1 _
     have HO2 : Hid (w3.ownsRow wB.heap.size 2 1 v' (fs ++ [e.dst]).length ((fs ++ [e.dst]).map (Value.int .i64))) := by
      unfold Hid
      rw [List.length_append, List.map_append, hwz]
      exact ho1
     have HB2 : Hid (Below wB.heap.size wB w3) := (HBA.out.alloc (by simp; omega) _).grown hg1 (by simp; omega) (fun b e => (HO.out.lt b e).1)
     clear ho1 hg1
     go_wp2_with fail
     go_roundw
     case rel => exact ⟨k + 1, by omega, by go_num, HB2.out, by rw [hitS_take hlt HG.out, HFS.out, HD.out]; exact HO2.out⟩
     case measure => simp [intOf]; omega
  ·obtain rfl : k = p.edges.length := by omega
   have HO2 : Hid (wr.ownsRow wB.heap.size 2 1 u7 (followR p cur l).length ((followR p cur l).map (Value.int .i64))) := by
    have := HO.out
    rw [List.take_length] at this
    exact this
   rw [List.take_length] at hfl
   have hfl2 : (followR p cur l).length ≤ 1048576 := by unfold followR; omega
   have HS1 := Lib.hid (Sort_own wB.heap.size u7 _ wr HO2.out hfl2)
   clear HO HER HLR q2 hfl hfl2
   go_wp2_with fail
   refine Calls.mono HS1.out ?_
   rintro e' w1 ⟨rfl, ho1, hg1⟩
   have HB1 := Lib.hid (HBL.out.grown hg1 (by exact hsz) (fun b e => (HO2.out.lt b e).1))
   have HS2 := Lib.hid (Compact_own wB.heap.size u7 ((followR p cur l).mergeSort fun x y => decide (x ≤ y)) w1 (by rw [List.length_mergeSort]; exact ho1))
   have HLT := Lib.hid (fun b e => (ho1.lt b e).1)
   clear ho1 hg1 HS1
   go_wp2_with fail
   refine Calls.mono HS2.out ?_
   rintro e' w2 ⟨v2, rfl, ho2, hg2⟩
   have HB2 := Lib.hid (HB1.out.grown hg2 HB1.out.size HLT.out)
   have HO3 := Lib.hid ho2
   clear ho2 hg2 HS2
   go_wp2_with fail
   go_ret
   exact ⟨_, rfl, HB0.out.trans (HB2.out.mono HB0.out.size), own_lower HO3.out HB0.out.size⟩

end Go.Proofs.YtbjbjbnbapeajaaGreatDoor

namespace Go.Proofs.YtbjbjbnbapeajaaGreatDoor
open Go Go.RowKit

theorem mem_followR {p : Lts} {cur : List Int} {l : ByteArray} {x : Int} : x ∈ followR p cur l ↔ ∃ e ∈ p.edges, e.src ∈ cur ∧ (labAt p e).toList = l.toList ∧ e.dst = x := by
 unfold followR hitS
 rw [List.mem_map]
 constructor
 ·rintro ⟨e, he, rfl⟩
  rw [List.mem_filter, Bool.and_eq_true, List.any_eq_true] at he
  obtain ⟨h1, ⟨y, hy, h2⟩, h3⟩ := he
  rw [beq_iff_eq] at h2 h3
  subst h2
  exact ⟨e, h1, hy, h3, rfl⟩
 ·rintro ⟨e, h1, h2, h3, rfl⟩
  refine ⟨e, ?_, rfl⟩
  rw [List.mem_filter, Bool.and_eq_true, List.any_eq_true]
  exact ⟨h1, ⟨e.src, h2, by rw [beq_iff_eq]⟩, by rw [beq_iff_eq]; exact h3⟩
theorem followL_is {t : Lts} (hv : Valid t) (cur : List Int) {k : Nat} (hk : k < t.labels.length) : IsSet (behindP t cur k) (followL t cur t.labels[k]) := by
 refine (sort_compact_is (followR t cur t.labels[k])).congr fun x => ?_
 rw [mem_followR]
 unfold behindP
 constructor
 ·rintro ⟨e, he, h1, h2, h3⟩
  refine ⟨e, he, ?_, h1, h3⟩
  obtain ⟨i, hi, rfl⟩ := List.mem_iff_getElem.1 he
  have hok := hv.edge i hi
  obtain ⟨hlt, hla⟩ := labAt_idx hok
  rw [hla] at h2
  have := labels_inj hv.labels _ _ hlt hk h2
  have := hok.l0
  omega
 ·rintro ⟨e, he, h1, h2, h3⟩
  refine ⟨e, he, h2, ?_, h3⟩
  obtain ⟨i, hi, rfl⟩ := List.mem_iff_getElem.1 he
  have hok := hv.edge i hi
  obtain ⟨hlt, hla⟩ := labAt_idx hok
  rw [hla]
  congr 2
  omega
theorem followL_len {p : Lts} (h : p.edges.length ≤ 300) (cur : List Int) (l : ByteArray) : (followL p cur l).length ≤ 300 := by
 unfold followL
 refine Nat.le_trans (Lib.compact_length_le _) ?_
 rw [List.length_mergeSort]
 unfold followR
 rw [List.length_map]
 exact Nat.le_trans (List.length_filter_le _ _) h

theorem few_states {n : Int} {l : List Int} (hd : l.Nodup) (h : ∀ x ∈ l, 0 ≤ x ∧ x < n) (hn : n ≤ 40) : l.length ≤ 40 := by
 have h1 : (l.map Int.toNat).Nodup := by
  rw [List.nodup_iff_pairwise_ne, List.pairwise_map]
  refine List.Pairwise.imp_of_mem ?_ (List.nodup_iff_pairwise_ne.1 hd)
  intro a b ha hb hne e
  have := h a ha
  have := h b hb
  exact hne (by omega)
 have := nodup_lt 40 (l.map Int.toNat) h1 (fun x hx => by
  obtain ⟨y, hy, rfl⟩ := List.mem_map.1 hx
  have := h y hy
  omega)
 rwa [List.length_map] at this

/-- A list on its way to what internal edges reach from S: its first i members are done. -/
structure IntOk (t : Lts) (S O : List Int) (i : Nat) : Prop where
 nodup : O.Nodup
 base : ∀ x ∈ S, x ∈ O
 sound : ∀ x ∈ O, clos t (fun y => y ∈ S) x
 upto : i ≤ O.length
 closed : ∀ j (h : j < O.length), j < i → ∀ e ∈ t.edges, e.lab = 0 → e.src = O[j] → e.dst ∈ O
theorem IntOk.start {t : Lts} {S : List Int} (h : S.Nodup) : IntOk t S S 0 := ⟨h, fun _ hx => hx, fun _ hx => clos.base hx, Nat.zero_le _, fun _ _ h => by omega⟩
theorem IntOk.range {t : Lts} (hv : Valid t) {S O : List Int} {i : Nat} (h : IntOk t S O i) (hS : ∀ x ∈ S, 0 ≤ x ∧ x < t.states) : ∀ x ∈ O, 0 ≤ x ∧ x < t.states :=
 fun x hx => clos.inside hv (fun y hy => hS y hy) x (h.sound x hx)
theorem IntOk.add {t : Lts} {S O : List Int} {i : Nat} (h : IntOk t S O i) {x : Int} (hx : x ∉ O) (hc : clos t (fun y => y ∈ S) x) : IntOk t S (O ++ [x]) i := by
 refine ⟨?_, fun y hy => List.mem_append_left _ (h.base y hy), ?_, by rw [List.length_append]; have := h.upto; omega, ?_⟩
 ·rw [List.nodup_append]
  exact ⟨h.nodup, by simp, fun a ha b hb e => by rw [List.mem_singleton] at hb; subst hb; subst e; exact hx ha⟩
 ·intro y hy
  rcases List.mem_append.1 hy with hy | hy
  ·exact h.sound y hy
  ·rw [List.mem_singleton] at hy; subst hy; exact hc
 ·intro j hj hji e he hl hs
  have hjo : j < O.length := by have := h.upto; omega
  rw [List.getElem_append_left hjo] at hs
  exact List.mem_append_left _ (h.closed j hjo hji e he hl hs)
theorem IntOk.next {t : Lts} {S O : List Int} {i : Nat} (h : IntOk t S O i) (hi : i < O.length) (hc : ∀ e ∈ t.edges, e.lab = 0 → e.src = O[i] → e.dst ∈ O) : IntOk t S O (i + 1) := by
 refine ⟨h.nodup, h.base, h.sound, hi, fun j hj hji e he hl hs => ?_⟩
 by_cases hji2 : j = i
 ·subst hji2; exact hc e he hl hs
 ·exact h.closed j hj (by omega) e he hl hs
theorem IntOk.done {t : Lts} {S O : List Int} {i : Nat} (h : IntOk t S O i) (hi : i = O.length) (x : Int) : x ∈ O ↔ clos t (fun y => y ∈ S) x := by
 refine ⟨h.sound x, fun hx => hx.least (Q := fun y => y ∈ O) h.base fun e he hl hs => ?_⟩
 obtain ⟨j, hj, hs⟩ := List.mem_iff_getElem.1 hs
 exact h.closed j hj (by omega) e he hl hs.symm

/-- The list within the work at its i-th member q: of what follows q the first m are in. -/
structure IntIn (t : Lts) (S O F : List Int) (q : Int) (i m : Nat) : Prop where
 ok : IntOk t S O i
 here : O[i]? = some q
 got : ∀ x ∈ F.take m, x ∈ O
theorem IntIn.start {t : Lts} {S O F : List Int} {i : Nat} (h : IntOk t S O i) (hi : i < O.length) : IntIn t S O F O[i] i 0 := ⟨h, List.getElem?_eq_getElem hi, by simp⟩
theorem IntIn.old {t : Lts} {S O F : List Int} {q : Int} {i m : Nat} (h : IntIn t S O F q i m) (hm : m < F.length) (hx : F[m] ∈ O) : IntIn t S O F q i (m + 1) := by
 refine ⟨h.ok, h.here, fun x hy => ?_⟩
 rw [List.take_succ_eq_append_getElem hm, List.mem_append, List.mem_singleton] at hy
 rcases hy with hy | rfl
 ·exact h.got x hy
 ·exact hx
theorem IntIn.new {t : Lts} {S O F : List Int} {q : Int} {i m : Nat} (h : IntIn t S O F q i m) (hF : ∀ x ∈ F, behindP t [q] 0 x) (hm : m < F.length) (hx : F[m] ∉ O) : IntIn t S (O ++ [F[m]]) F q i (m + 1) := by
 have hq : q ∈ O := List.mem_of_getElem? h.here
 refine ⟨h.ok.add hx ?_, ?_, fun x hy => ?_⟩
 ·obtain ⟨e, he, h1, h2, h3⟩ := hF _ (List.getElem_mem hm)
  rw [List.mem_singleton] at h2
  rw [← h3]
  exact clos.next (by rw [h2]; exact h.ok.sound q hq) he h1
 ·rw [List.getElem?_append_left (List.getElem?_eq_some_iff.1 h.here).1]; exact h.here
 ·rw [List.take_succ_eq_append_getElem hm, List.mem_append, List.mem_singleton] at hy
  rcases hy with hy | rfl
  ·exact List.mem_append_left _ (h.got x hy)
  ·simp
theorem IntIn.done {t : Lts} {S O F : List Int} {q : Int} {i : Nat} (h : IntIn t S O F q i F.length) (hF : ∀ x, behindP t [q] 0 x → x ∈ F) : IntOk t S O (i + 1) := by
 obtain ⟨hi, hq⟩ := List.getElem?_eq_some_iff.1 h.here
 refine h.ok.next hi fun e he hl hs => ?_
 have := h.got e.dst
 rw [List.take_length] at this
 exact this (hF _ ⟨e, he, hl, by rw [hs, hq]; simp, rfl⟩)

theorem closL_is {t : Lts} (hv : Valid t) {S : List Int} (hS : ∀ x ∈ S, 0 ≤ x ∧ x < t.states) : IsSet (clos t fun y => y ∈ S) (setL t.states (clos t fun y => y ∈ S)) := setL_is (clos.inside hv hS)
end Go.Proofs.YtbjbjbnbapeajaaGreatDoor

namespace Go.Proofs.YtbjbjbnbapeajaaGreatDoor
open Go Go.RowKit

/-- An edge to v by a label is answered from y. -/
def strongB (b : Lts) (N : PairSet) (y : Int) (l : ByteArray) (v : Int) : Bool := (followL b [y] l).any fun w => N v w
end Go.Proofs.YtbjbjbnbapeajaaGreatDoor

namespace Go.Proofs.YtbjbjbnbapeajaaGreatDoor
open Go Go.RowKit

def setOf (ps : List (Int × Int)) : PairSet := fun x y => decide ((x, y) ∈ ps)
theorem setOf_iff {ps : List (Int × Int)} {x y : Int} : setOf ps x y = true ↔ (x, y) ∈ ps := by unfold setOf; rw [decide_eq_true_eq]
theorem nodup_sub_len {α : Type} [BEq α] [LawfulBEq α] : ∀ {a b : List α}, a.Nodup → (∀ x ∈ a, x ∈ b) → a.length ≤ b.length
 | [], b, _, _ => Nat.zero_le _
 | x :: a, b, hd, hs => by
  rw [List.nodup_cons] at hd
  have h1 : x ∈ b := hs x (by simp)
  have h2 := nodup_sub_len (a := a) (b := b.erase x) hd.2 (fun y hy => by
   have : y ≠ x := fun e => hd.1 (e ▸ hy)
   exact (List.mem_erase_of_ne this).2 (hs y (by simp [hy])))
  have h3 := List.length_erase_of_mem h1
  have h4 := List.length_pos_of_mem h1
  simp only [List.length_cons]
  omega
/-- All pairs with a first number below x, .. and the second ones of a row. -/
def prow (x y : Nat) : List (Int × Int) := (List.range y).map fun (j : Nat) => ((x : Int), (j : Int))
def pall (P x : Nat) : List (Int × Int) := (List.range x).flatMap fun i => prow i P
theorem prow_succ (x y : Nat) : prow x (y + 1) = prow x y ++ [((x : Int), (y : Int))] := by unfold prow; rw [List.range_succ, List.map_append]; rfl
theorem pall_succ (P x : Nat) : pall P (x + 1) = pall P x ++ prow x P := by unfold pall; rw [List.range_succ, List.flatMap_append]; simp
theorem mem_prow {x y : Nat} {q : Int × Int} : q ∈ prow x y ↔ q.1 = x ∧ 0 ≤ q.2 ∧ q.2 < y := by
 unfold prow
 rw [List.mem_map]
 constructor
 ·rintro ⟨j, hj, rfl⟩
  have := List.mem_range.1 hj
  exact ⟨rfl, by show (0 : Int) ≤ (j : Int); omega, by show (j : Int) < y; omega⟩
 ·rintro ⟨h1, h2, h3⟩
  refine ⟨q.2.toNat, List.mem_range.2 (by omega), ?_⟩
  obtain ⟨u, v⟩ := q
  simp only at h1 h2 h3
  rw [h1, show ((v.toNat : Nat) : Int) = v from by omega]
theorem mem_pall {P x : Nat} {q : Int × Int} : q ∈ pall P x ↔ (0 ≤ q.1 ∧ q.1 < x) ∧ 0 ≤ q.2 ∧ q.2 < P := by
 unfold pall
 rw [List.mem_flatMap]
 constructor
 ·rintro ⟨i, hi, hq⟩
  have := List.mem_range.1 hi
  rw [mem_prow] at hq
  omega
 ·rintro ⟨⟨h1, h2⟩, h3⟩
  exact ⟨q.1.toNat, List.mem_range.2 (by omega), mem_prow.2 ⟨by omega, h3⟩⟩
theorem pall_len (P x : Nat) : (pall P x).length = x * P := by
 induction x with
 | zero => simp [pall]
 | succ x ih => rw [pall_succ, List.length_append, ih]; unfold prow; rw [List.length_map, List.length_range, Nat.succ_mul]
end Go.Proofs.YtbjbjbnbapeajaaGreatDoor

namespace Go.Proofs.YtbjbjbnbapeajaaGreatDoor
open Go Go.RowKit Go.ChangeMaps Go.MapKept
open Go.Maps (Keyed)

theorem nodup_get {α : Type} {l : List α} (hd : l.Nodup) {i j : Nat} (hi : i < l.length) (hj : j < l.length) (h : l[i] = l[j]) : i = j := by
 have hp := List.pairwise_iff_getElem.1 hd
 rcases Nat.lt_trichotomy i j with h1 | h1 | h1
 ·exact absurd h (hp i j hi hj h1)
 ·exact h1
 ·exact absurd h.symm (hp j i hj hi h1)

section
variable {P : Program} {k t e : TypeId} {q : IntKind} {w : World} {b : Nat} {ks : List Value}

end
end Go.Proofs.YtbjbjbnbapeajaaGreatDoor

namespace Go.Proofs.YtbjbjbnbapeajaaGreatDoor
open Go Go.RowKit

/-- A test of pairs, within a set of pairs. -/
abbrev PairAsk := PairSet → Int → Int → Bool
def MonoA (A : PairAsk) : Prop := ∀ N M : PairSet, (∀ x y, N x y = true → M x y = true) → ∀ x y, A N x y = true → A M x y = true
structure GreatA (A : PairAsk) (st N : PairSet) : Prop where
 low : ∀ x y, N x y = true → st x y = true
 ans : ∀ x y, N x y = true → A N x y = true
 all : ∀ M : PairSet, (∀ x y, M x y = true → st x y = true) → (∀ x y, M x y = true → A M x y = true) → ∀ x y, M x y = true → N x y = true
theorem GreatA.unique {A : PairAsk} {st N M : PairSet} (h : GreatA A st N) (k : GreatA A st M) : N = M := by
 funext x y
 cases e : N x y with
 | true => exact (k.all N h.low h.ans x y e).symm
 | false =>
  cases e2 : M x y with
  | false => rfl
  | true => rw [h.all M k.low k.ans x y e2] at e; cases e
structure AboveA (A : PairAsk) (st N : PairSet) : Prop where
 low : ∀ x y, N x y = true → st x y = true
 all : ∀ M : PairSet, (∀ x y, M x y = true → st x y = true) → (∀ x y, M x y = true → A M x y = true) → ∀ x y, M x y = true → N x y = true
theorem AboveA.start (A : PairAsk) (st : PairSet) : AboveA A st st := ⟨fun _ _ h => h, fun _ hl _ x y h => hl x y h⟩

/-- What a round keeps. -/
def KeptA (A : PairAsk) (ps qs : List (Int × Int)) : Prop := ∀ q, q ∈ qs ↔ q ∈ ps ∧ A (setOf ps) q.1 q.2 = true
theorem KeptA.next {A : PairAsk} (hA : MonoA A) {st : PairSet} {ps qs : List (Int × Int)} (h : KeptA A ps qs) (ha : AboveA A st (setOf ps)) : AboveA A st (setOf qs) := by
 refine ⟨fun x y hn => ?_, fun M hl hm x y hxy => ?_⟩
 ·exact ha.low x y (setOf_iff.2 ((h (x, y)).1 (setOf_iff.1 hn)).1)
 ·have h1 := ha.all M hl hm
  exact setOf_iff.2 ((h (x, y)).2 ⟨setOf_iff.1 (h1 x y hxy), hA M _ h1 x y (hm x y hxy)⟩)
theorem KeptA.len {A : PairAsk} {ps qs : List (Int × Int)} (h : KeptA A ps qs) (hq : qs.Nodup) : qs.length ≤ ps.length := nodup_sub_len hq (fun x hx => ((h x).1 hx).1)
theorem KeptA.done {A : PairAsk} {st : PairSet} {ps qs : List (Int × Int)} (h : KeptA A ps qs) (hq : qs.Nodup) (ha : AboveA A st (setOf ps)) (hl : qs.length = ps.length) : GreatA A st (setOf ps) := by
 refine ⟨ha.low, fun x y hn => ?_, ha.all⟩
 have hm := setOf_iff.1 hn
 apply Classical.byContradiction
 intro hn2
 have hnq : (x, y) ∉ qs := fun hc => hn2 ((h (x, y)).1 hc).2
 have h1 := nodup_sub_len (a := (x, y) :: qs) (b := ps) (by rw [List.nodup_cons]; exact ⟨hnq, hq⟩) (fun z hz => by
  rcases List.mem_cons.1 hz with rfl | hz
  ·exact hm
  ·exact ((h z).1 hz).1)
 simp only [List.length_cons] at h1
 omega

/-- In the midst of a round: of the pairs handed out, those that pass the test are kept. -/
structure KeptSo (T : Int × Int → Bool) (ps qs : List (Int × Int)) (seen : Array Nat) : Prop where
 nodup : seen.toList.Nodup
 less : ∀ i ∈ seen, i < ps.length
 kept : ∀ q, q ∈ qs ↔ (∃ i, ∃ h : i < ps.length, i ∈ seen ∧ ps[i] = q) ∧ T q = true
theorem KeptSo.start (T : Int × Int → Bool) (ps : List (Int × Int)) : KeptSo T ps [] #[] := ⟨by simp, fun i h => by simp at h, fun q => by simp⟩
theorem KeptSo.size {T : Int × Int → Bool} {ps qs : List (Int × Int)} {seen : Array Nat} (h : KeptSo T ps qs seen) : seen.size ≤ ps.length := by
 have := nodup_sub_len (a := seen.toList) (b := List.range ps.length) h.nodup (fun i hi => List.mem_range.2 (h.less i (by simpa using hi)))
 simpa using this
theorem KeptSo.fresh {T : Int × Int → Bool} {ps qs : List (Int × Int)} {seen : Array Nat} (h : KeptSo T ps qs seen) (hd : ps.Nodup) {i : Nat} (hi : i < ps.length) (hn : i ∉ seen) : ps[i] ∉ qs := by
 intro hc
 obtain ⟨⟨j, hj, hjs, e⟩, -⟩ := (h.kept _).1 hc
 have := nodup_get hd hj hi e
 subst this
 exact hn hjs
theorem KeptSo.seenPush {T : Int × Int → Bool} {ps qs : List (Int × Int)} {seen : Array Nat} (h : KeptSo T ps qs seen) {i : Nat} (hi : i < ps.length) (hn : i ∉ seen) : (seen.push i).toList.Nodup ∧ ∀ j ∈ seen.push i, j < ps.length := by
 constructor
 ·rw [Array.toList_push, List.nodup_append]
  refine ⟨h.nodup, by simp, ?_⟩
  intro a ha b hb e
  rw [List.mem_singleton] at hb
  subst hb
  subst e
  exact hn (by simpa using ha)
 ·intro j hj
  rw [Array.mem_push] at hj
  rcases hj with hj | rfl
  ·exact h.less j hj
  ·exact hi
theorem KeptSo.yes {T : Int × Int → Bool} {ps qs : List (Int × Int)} {seen : Array Nat} (h : KeptSo T ps qs seen) {i : Nat} (hi : i < ps.length) (hn : i ∉ seen) (hT : T ps[i] = true) : KeptSo T ps (qs ++ [ps[i]]) (seen.push i) := by
 obtain ⟨h1, h2⟩ := h.seenPush hi hn
 refine ⟨h1, h2, fun q => ?_⟩
 rw [List.mem_append, List.mem_singleton, h.kept q]
 constructor
 ·rintro (⟨⟨j, hj, hjs, e⟩, ht⟩ | rfl)
  ·exact ⟨⟨j, hj, Array.mem_push_of_mem _ hjs, e⟩, ht⟩
  ·exact ⟨⟨i, hi, Array.mem_push_self, rfl⟩, hT⟩
 ·rintro ⟨⟨j, hj, hjs, e⟩, ht⟩
  rw [Array.mem_push] at hjs
  rcases hjs with hjs | rfl
  ·exact .inl ⟨⟨j, hj, hjs, e⟩, ht⟩
  ·exact .inr e.symm
theorem KeptSo.no {T : Int × Int → Bool} {ps qs : List (Int × Int)} {seen : Array Nat} (h : KeptSo T ps qs seen) {i : Nat} (hi : i < ps.length) (hn : i ∉ seen) (hT : T ps[i] = false) : KeptSo T ps qs (seen.push i) := by
 obtain ⟨h1, h2⟩ := h.seenPush hi hn
 refine ⟨h1, h2, fun q => ?_⟩
 rw [h.kept q]
 constructor
 ·rintro ⟨⟨j, hj, hjs, e⟩, ht⟩
  exact ⟨⟨j, hj, Array.mem_push_of_mem _ hjs, e⟩, ht⟩
 ·rintro ⟨⟨j, hj, hjs, e⟩, ht⟩
  rw [Array.mem_push] at hjs
  rcases hjs with hjs | rfl
  ·exact ⟨⟨j, hj, hjs, e⟩, ht⟩
  ·rw [← e, hT] at ht; cases ht
theorem KeptSo.all {T : Int × Int → Bool} {ps qs : List (Int × Int)} {seen : Array Nat} (h : KeptSo T ps qs seen) (hs : ∀ i, i < ps.length → i ∈ seen) : ∀ q, q ∈ qs ↔ q ∈ ps ∧ T q = true := by
 intro q
 rw [h.kept q]
 constructor
 ·rintro ⟨⟨j, hj, -, e⟩, ht⟩
  exact ⟨e ▸ List.getElem_mem hj, ht⟩
 ·rintro ⟨hm, ht⟩
  obtain ⟨j, hj, e⟩ := List.mem_iff_getElem.1 hm
  exact ⟨⟨j, hj, hs j hj, e⟩, ht⟩
theorem KeptSo.yesAt {T : Int × Int → Bool} {ps qs : List (Int × Int)} {seen : Array Nat} (h : KeptSo T ps qs seen) {i : Nat} (hi : i < ps.length) (hn : i ∉ seen) {q : Int × Int} (hq : ps[i] = q) (hT : T q = true) : KeptSo T ps (qs ++ [q]) (seen.push i) := by
 have := h.yes hi hn (by rw [hq]; exact hT)
 rwa [hq] at this
theorem KeptSo.noAt {T : Int × Int → Bool} {ps qs : List (Int × Int)} {seen : Array Nat} (h : KeptSo T ps qs seen) {i : Nat} (hi : i < ps.length) (hn : i ∉ seen) {q : Int × Int} (hq : ps[i] = q) (hT : T q = false) : KeptSo T ps qs (seen.push i) := h.no hi hn (by rw [hq]; exact hT)
theorem KeptSo.freshAt {T : Int × Int → Bool} {ps qs : List (Int × Int)} {seen : Array Nat} (h : KeptSo T ps qs seen) (hd : ps.Nodup) {i : Nat} (hi : i < ps.length) (hn : i ∉ seen) {q : Int × Int} (hq : ps[i] = q) : q ∉ qs := by
 rw [← hq]
 exact h.fresh hd hi hn
theorem KeptSo.few {T : Int × Int → Bool} {ps qs : List (Int × Int)} {seen : Array Nat} (h : KeptSo T ps qs seen) (hq : qs.Nodup) : qs.length ≤ ps.length := nodup_sub_len hq (fun q hm => by
 obtain ⟨⟨i, hi, -, e⟩, -⟩ := (h.kept q).1 hm
 exact e ▸ List.getElem_mem hi)
theorem KeptSo.push_size {T : Int × Int → Bool} {ps qs : List (Int × Int)} {seen : Array Nat} {i : Nat} (h : KeptSo T ps qs (seen.push i)) : seen.size + 1 ≤ ps.length := by
 have := h.size
 simpa using this

end Go.Proofs.YtbjbjbnbapeajaaGreatDoor
