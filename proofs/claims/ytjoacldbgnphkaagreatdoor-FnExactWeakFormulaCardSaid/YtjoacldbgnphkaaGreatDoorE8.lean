/-
  What leaves a state, by label and block; the rounds of a system's partitions, and the round in which two states part. Plain.
  The formula that tells two states apart, plainly.
  Joined formulas, as both texts make them; the ends under a label in order. Plain.
  What the small functions of the package laws compute: the size of the arguments, their copies, their comparison.
  The copies of the arguments that the package laws makes.
  What the functions of the laws that mark do.
  The texts that marks are, lists of texts and edges marked, and that the marks still stand.
-/
import Derived.Test.YtjoacldbgnphkaaGreatDoorE7
import Derived.Test.YtjoacldbgnphkaaGreatDoorE6
import Derived.Test.YtjoacldbgnphkaaGreatDoorRows
import Derived.Test.YtjoacldbgnphkaaGreatDoorE1
import Derived.BigQuiet
import Derived.Deep.QuietTactic
import Derived.Deep.LoopGhost
namespace Go.Proofs.YtjoacldbgnphkaaGreatDoor
open Go Go.RowKit

def rawG (t : Lts) (p : List Int) (i : Nat) : List Int := (outOf t i).map fun e => e.lab * t.states + p.getD e.dst.toNat 0
def sgT (t : Lts) (p : List Int) (i : Nat) : List Int := Lib.compact ((rawG t p i).mergeSort fun x y => decide (x ≤ y))
theorem sgT_is (t : Lts) (p : List Int) (i : Nat) : IsSet (fun x => x ∈ rawG t p i) (sgT t p i) := sort_compact_is _
theorem sgT_iff {t : Lts} {p q : List Int} {i j : Nat} : sgT t p i = sgT t q j ↔ ∀ x, x ∈ rawG t p i ↔ x ∈ rawG t q j := by
 constructor
 ·intro h x
  rw [← (sgT_is t p i).mem, ← (sgT_is t q j).mem, h]
 ·intro h
  exact ((sgT_is t p i).congr h).unique (sgT_is t q j)
theorem code_inj {S l1 l2 b1 b2 : Int} (h1 : 0 ≤ b1) (h2 : b1 < S) (h3 : 0 ≤ b2) (h4 : b2 < S) (h : l1 * S + b1 = l2 * S + b2) : l1 = l2 ∧ b1 = b2 := by
 have hS : S ≠ 0 := by omega
 have e1 : (l1 * S + b1) / S = l1 := by rw [Int.add_comm, Int.add_mul_ediv_right _ _ hS, Int.ediv_eq_zero_of_lt h1 h2, Int.zero_add]
 have e2 : (l2 * S + b2) / S = l2 := by rw [Int.add_comm, Int.add_mul_ediv_right _ _ hS, Int.ediv_eq_zero_of_lt h3 h4, Int.zero_add]
 have : l1 = l2 := by rw [← e1, ← e2, h]
 subst this
 exact ⟨rfl, by omega⟩
/-- A partition of the states. -/
def InP (t : Lts) (p : List Int) : Prop := p.length = t.states.toNat ∧ ∀ x ∈ p, 0 ≤ x ∧ x < t.states
theorem InP.at {t : Lts} {p : List Int} (h : InP t p) {k : Int} (h0 : 0 ≤ k) (h1 : k < t.states) : 0 ≤ p.getD k.toNat 0 ∧ p.getD k.toNat 0 < t.states := by
 have hl : k.toNat < p.length := by rw [h.1]; omega
 rw [getD_eq hl]
 exact h.2 _ (List.getElem_mem _)
theorem out_edge {t : Lts} (hv : Valid t) {k : Int} {e : Edge} (h : e ∈ outOf t k) : EdgeOk t e := by
 obtain ⟨i, hi, rfl⟩ := List.mem_iff_getElem.1 (List.mem_filter.1 h).1
 exact hv.edge i hi
theorem out_src {t : Lts} {k : Int} {e : Edge} (h : e ∈ outOf t k) : e.src = k := by
 have := (List.mem_filter.1 h).2
 simpa using this
theorem raw_mem {t : Lts} {p : List Int} {i : Nat} {x : Int} : x ∈ rawG t p i ↔ ∃ e ∈ outOf t i, e.lab * t.states + p.getD e.dst.toNat 0 = x := List.mem_map
/-- An edge from b that goes, under the same label, into the same block. -/
def metB (t : Lts) (p : List Int) (e : Edge) (b : Int) : Bool := (outOf t b).any fun o => o.lab == e.lab && p.getD o.dst.toNat 0 == p.getD e.dst.toNat 0
def covB (t : Lts) (p : List Int) (a b : Int) : Bool := (outOf t a).all fun e => metB t p e b
theorem met_iff {t : Lts} (hv : Valid t) {p : List Int} (hp : InP t p) {e : Edge} (he : EdgeOk t e) {b : Nat} : metB t p e b = true ↔ e.lab * t.states + p.getD e.dst.toNat 0 ∈ rawG t p b := by
 unfold metB
 rw [List.any_eq_true, raw_mem]
 constructor
 ·rintro ⟨o, ho, h⟩
  simp only [Bool.and_eq_true, beq_iff_eq] at h
  exact ⟨o, ho, by rw [h.1, h.2]⟩
 ·rintro ⟨o, ho, h⟩
  have h1 := out_edge hv ho
  have h2 := hp.at h1.d0 h1.d1
  have h3 := hp.at he.d0 he.d1
  obtain ⟨e1, e2⟩ := code_inj h2.1 h2.2 h3.1 h3.2 h
  refine ⟨o, ho, ?_⟩
  rw [e1, e2]
  simp
theorem cov_iff {t : Lts} (hv : Valid t) {p : List Int} (hp : InP t p) {a b : Nat} : covB t p a b = true ↔ ∀ x ∈ rawG t p a, x ∈ rawG t p b := by
 unfold covB
 rw [List.all_eq_true]
 constructor
 ·rintro h x hx
  obtain ⟨e, he, rfl⟩ := raw_mem.1 hx
  exact (met_iff hv hp (out_edge hv he)).1 (h e he)
 ·intro h e he
  exact (met_iff hv hp (out_edge hv he)).2 (h _ (raw_mem.2 ⟨e, he, rfl⟩))
theorem sg_cov {t : Lts} (hv : Valid t) {p : List Int} (hp : InP t p) {a b : Nat} : sgT t p a = sgT t p b ↔ covB t p a b = true ∧ covB t p b a = true := by
 rw [sgT_iff, cov_iff hv hp, cov_iff hv hp]
 exact ⟨fun h => ⟨fun x => (h x).1, fun x => (h x).2⟩, fun h x => ⟨h.1 x, h.2 x⟩⟩
theorem sg_mono {t : Lts} (hv : Valid t) : MonoG (sgT t) t.states.toNat := by
 intro p q hpl hql hpr hqr hfine i j hi hj h
 have hS : ((t.states.toNat : Nat) : Int) = t.states := by have := hv.st0; omega
 have hp : InP t p := ⟨hpl, fun x hx => by have := hpr x hx; omega⟩
 have hq : InP t q := ⟨hql, fun x hx => by have := hqr x hx; omega⟩
 have key : ∀ i j : Nat, (∀ x ∈ rawG t q i, x ∈ rawG t q j) → ∀ x ∈ rawG t p i, x ∈ rawG t p j := by
  intro i j h x hx
  obtain ⟨e, he, rfl⟩ := raw_mem.1 hx
  obtain ⟨o, ho, h1⟩ := raw_mem.1 (h _ (raw_mem.2 ⟨e, he, rfl⟩))
  have ke := out_edge hv he
  have ko := out_edge hv ho
  have h2 := hq.at ke.d0 ke.d1
  have h3 := hq.at ko.d0 ko.d1
  obtain ⟨e1, e2⟩ := code_inj h3.1 h3.2 h2.1 h2.2 h1
  have := hfine o.dst.toNat e.dst.toNat (by have := ko.d0; have := ko.d1; omega) (by have := ke.d0; have := ke.d1; omega) e2
  exact raw_mem.2 ⟨o, ho, by rw [e1, this]⟩
 rw [sgT_iff] at h ⊢
 exact fun x => ⟨key i j (fun y => (h y).1) x, key j i (fun y => (h y).2) x⟩

/-- The partitions, round by round. -/
def lev (t : Lts) : Nat → List Int := partsG (sgT t) t.states.toNat
theorem lev_len (t : Lts) (r : Nat) : (lev t r).length = t.states.toNat := partsG_len _ _ r
theorem lev_in {t : Lts} (hv : Valid t) (r : Nat) : InP t (lev t r) := ⟨lev_len t r, fun x hx => by have := partsG_range (sgT t) r hx; have := hv.st0; omega⟩
theorem lev_zero (t : Lts) : lev t 0 = List.replicate t.states.toNat 0 := rfl
/-- The next round, as the reference makes it and as the program does. -/
theorem lev_ref (t : Lts) (r : Nat) : lev t (r + 1) = blocksL ((List.range t.states.toNat).map (sgT t (lev t r))) := rfl
theorem lev_imp {t : Lts} (hv : Valid t) (r : Nat) : blocksL ((List.range t.states.toNat).map fun i => (lev t r).getD i 0 :: sgT t (lev t r) i) = lev t (r + 1) := implStepG_eq (sg_mono hv) r
theorem lev_succ {t : Lts} {r i j : Nat} (hi : i < t.states.toNat) (hj : j < t.states.toNat) : (lev t (r + 1)).getD i 0 = (lev t (r + 1)).getD j 0 ↔ sgT t (lev t r) i = sgT t (lev t r) j := eqG_succ hi hj
/-- The round from which on nothing changes. -/
def lastR (t : Lts) : Nat := ((List.range t.states.toNat).find? fun r => lev t r == lev t (r + 1)).getD t.states.toNat
theorem last_ok {t : Lts} (hv : Valid t) : lastR t < t.states.toNat ∧ lev t (lastR t) = lev t (lastR t + 1) ∧ ∀ s, s < lastR t → lev t s ≠ lev t (s + 1) := by
 have hS : 0 < t.states.toNat := by have := hv.st0; omega
 cases hf : (List.range t.states.toNat).find? fun r => lev t r == lev t (r + 1) with
 | none =>
  exfalso
  rw [List.find?_eq_none] at hf
  have := roundsG_few (r := t.states.toNat) hS (sg_mono hv) fun s hs h => by
   have h1 := hf s (List.mem_range.2 hs)
   apply h1
   rw [beq_iff_eq]
   exact h
  omega
 | some r =>
  have hl : lastR t = r := by unfold lastR; rw [hf]; rfl
  rw [hl]
  rw [List.find?_range_eq_some] at hf
  obtain ⟨h1, h2, h3⟩ := hf
  refine ⟨List.mem_range.1 h2, by simpa using h1, fun s hs h => ?_⟩
  have h4 := h3 s hs
  rw [h] at h4
  simp at h4
def levs (t : Lts) : List (List Int) := (List.range (lastR t + 1)).map (lev t)

end Go.Proofs.YtjoacldbgnphkaaGreatDoor

namespace Go.Proofs.YtjoacldbgnphkaaGreatDoor
open Go Go.RowKit

theorem levs_len (t : Lts) : (levs t).length = lastR t + 1 := by simp [levs]
theorem levs_get {t : Lts} {k : Nat} (h : k < lastR t + 1) : (levs t)[k]? = some (lev t k) := by
 unfold levs
 rw [List.getElem?_map, List.getElem?_range h]
 rfl
/-- The first round in which two states are apart, 0 if there is none. -/
def sepR (t : Lts) (a b : Int) : Nat := ((List.range (lastR t + 1)).find? fun k => (lev t k).getD a.toNat 0 != (lev t k).getD b.toNat 0).getD 0
theorem lev_all (t : Lts) {i j : Nat} (hi : i < t.states.toNat) (hj : j < t.states.toNat) : (lev t 0).getD i 0 = (lev t 0).getD j 0 := by
 rw [lev_zero, List.getD_eq_getElem?_getD, List.getD_eq_getElem?_getD, List.getElem?_replicate, List.getElem?_replicate, if_pos hi, if_pos hj]
theorem sep_zero {t : Lts} {a b : Int} (ha : a.toNat < t.states.toNat) (hb : b.toNat < t.states.toNat) (h : sepR t a b = 0) : ∀ k, k ≤ lastR t → (lev t k).getD a.toNat 0 = (lev t k).getD b.toNat 0 := by
 unfold sepR at h
 cases hf : (List.range (lastR t + 1)).find? fun k => (lev t k).getD a.toNat 0 != (lev t k).getD b.toNat 0 with
 | none =>
  intro k hk
  rw [List.find?_eq_none] at hf
  have := hf k (List.mem_range.2 (by omega))
  simpa using this
 | some r =>
  rw [hf] at h
  have h0 : r = 0 := h
  subst h0
  rw [List.find?_range_eq_some] at hf
  have h1 := hf.1
  rw [lev_all t ha hb] at h1
  simp at h1
theorem sep_pos {t : Lts} {a b : Int} {d : Nat} (h : sepR t a b = d + 1) : d + 1 ≤ lastR t ∧ (lev t (d + 1)).getD a.toNat 0 ≠ (lev t (d + 1)).getD b.toNat 0 ∧ ∀ k, k ≤ d → (lev t k).getD a.toNat 0 = (lev t k).getD b.toNat 0 := by
 unfold sepR at h
 cases hf : (List.range (lastR t + 1)).find? fun k => (lev t k).getD a.toNat 0 != (lev t k).getD b.toNat 0 with
 | none => rw [hf] at h; cases h
 | some r =>
  rw [hf] at h
  have h0 : r = d + 1 := h
  subst h0
  rw [List.find?_range_eq_some] at hf
  obtain ⟨h1, h2, h3⟩ := hf
  refine ⟨by have := List.mem_range.1 h2; omega, by simpa using h1, fun k hk => ?_⟩
  have := h3 k (by omega)
  simpa using this
/-- States that are apart in a round. -/
theorem sep_le {t : Lts} {x y : Int} {k : Nat} (hx : x.toNat < t.states.toNat) (hy : y.toNat < t.states.toNat) (hk : k ≤ lastR t) (h : (lev t k).getD x.toNat 0 ≠ (lev t k).getD y.toNat 0) : 0 < sepR t x y ∧ sepR t x y ≤ k := by
 cases hs : sepR t x y with
 | zero => exact absurd (sep_zero hx hy hs k hk) h
 | succ d =>
  obtain ⟨-, -, h3⟩ := sep_pos hs
  refine ⟨Nat.succ_pos _, Nat.le_of_not_lt fun hlt => h (h3 k (by omega))⟩
theorem sep_comm (t : Lts) (a b : Int) : sepR t a b = sepR t b a := by
 unfold sepR
 congr 2
 funext k
 exact Bool.eq_iff_iff.2 ⟨fun h => by simp at h ⊢; exact fun e => h e.symm, fun h => by simp at h ⊢; exact fun e => h e.symm⟩
/-- The first edge from a that no edge from b meets. -/
def loneE (t : Lts) (p : List Int) (a b : Int) : Option Edge := (outOf t a).find? fun e => !metB t p e b
theorem lone_none {t : Lts} {p : List Int} {a b : Int} : loneE t p a b = none ↔ covB t p a b = true := by
 unfold loneE covB
 rw [List.find?_eq_none, List.all_eq_true]
 simp
theorem lone_some {t : Lts} {p : List Int} {a b : Int} {e : Edge} (h : loneE t p a b = some e) : e ∈ outOf t a ∧ metB t p e b = false := by
 unfold loneE at h
 exact ⟨List.mem_of_find?_eq_some h, by simpa using List.find?_some h⟩
/-- States that part in a round have an edge that is not met. -/
theorem lone_is {t : Lts} (hv : Valid t) {a b : Int} (ha : 0 ≤ a ∧ a < t.states) (hb : 0 ≤ b ∧ b < t.states) {d : Nat} (h : sepR t a b = d + 1) : loneE t (lev t d) a b ≠ none ∨ loneE t (lev t d) b a ≠ none := by
 obtain ⟨-, h2, -⟩ := sep_pos h
 rw [ne_eq, lev_succ (by omega) (by omega), sg_cov hv (lev_in hv d)] at h2
 have ea : ((a.toNat : Nat) : Int) = a := by omega
 have eb : ((b.toNat : Nat) : Int) = b := by omega
 rw [ea, eb, ← lone_none, ← lone_none] at h2
 exact Classical.not_and_iff_not_or_not.1 h2
/-- Where the edges from a state under a label end. -/
def endsG (t : Lts) (k l : Int) : List Int := ((outOf t k).filter fun o => o.lab == l).map Edge.dst
theorem ends_mem {t : Lts} {k l x : Int} : x ∈ endsG t k l ↔ ∃ o ∈ outOf t k, o.lab = l ∧ o.dst = x := by
 unfold endsG
 rw [List.mem_map]
 constructor
 ·rintro ⟨o, ho, rfl⟩
  rw [List.mem_filter, beq_iff_eq] at ho
  exact ⟨o, ho.1, ho.2, rfl⟩
 ·rintro ⟨o, ho, hl, rfl⟩
  exact ⟨o, List.mem_filter.2 ⟨ho, by simpa using hl⟩, rfl⟩
/-- The end of an edge that is not met, and the ends under its label, part earlier. -/
theorem sep_ends {t : Lts} (hv : Valid t) {a b : Int} {d : Nat} (hd : d ≤ lastR t) {e : Edge} (h : loneE t (lev t d) a b = some e) {y : Int} (hy : y ∈ endsG t b e.lab) : 0 < sepR t e.dst y ∧ sepR t e.dst y ≤ d := by
 obtain ⟨he, hm⟩ := lone_some h
 obtain ⟨o, ho, hl, rfl⟩ := ends_mem.1 hy
 have ke := out_edge hv he
 have ko := out_edge hv ho
 refine sep_le (by have := ke.d0; have := ke.d1; omega) (by have := ko.d0; have := ko.d1; omega) hd fun hq => ?_
 unfold metB at hm
 rw [List.any_eq_false] at hm
 have := hm o ho
 rw [hl, hq] at this
 simp at this

/-- A node: its kind and its label. -/
structure Nd where
 kind : Int
 label : ByteArray
deriving DecidableEq
def joinD (kind : Int) : List (List Nd) → List Nd
 | [] => []
 | f :: r => if r = [] then f else ⟨kind, ByteArray.empty⟩ :: (f ++ joinD kind r)
def diffL (fs : List (List Nd)) : List (List Nd) := fs.foldl (fun acc f => if f ∈ acc then acc else acc ++ [f]) []
def joinN (kind none : Int) (fs : List (List Nd)) : List Nd := if diffL fs = [] then [⟨none, ByteArray.empty⟩] else joinD kind (diffL fs)
/-- A modality over joined formulas; nothing where one of these is too long, or it is. -/
def buildN (kind join none : Int) (l : ByteArray) (fs : List (List Nd)) : List Nd :=
 if [] ∈ fs then [] else if 200 < (joinN join none fs).length + 1 then [] else ⟨kind, l⟩ :: joinN join none fs
def tellN (t : Lts) : Nat → Int → Int → List Nd
 | 0, _, _ => []
 | f + 1, a, b =>
  if sepR t a b = 0 then []
  else ((loneE t (lev t (sepR t a b - 1)) a b).map fun e => buildN 4 2 0 (labAt t e) ((endsG t b e.lab).map fun y => tellN t f e.dst y)).getD
   (((loneE t (lev t (sepR t a b - 1)) b a).map fun e => buildN 5 3 1 (labAt t e) ((endsG t a e.lab).map fun x => tellN t f x e.dst)).getD [])
theorem out_ok2 {t : Lts} (hv : Valid t) {k : Int} {e : Edge} (h : e ∈ outOf t k) : 0 ≤ e.dst ∧ e.dst < t.states := ⟨(out_edge hv h).d0, (out_edge hv h).d1⟩
theorem ends_in {t : Lts} (hv : Valid t) {k l x : Int} (h : x ∈ endsG t k l) : 0 ≤ x ∧ x < t.states := by
 obtain ⟨o, ho, -, rfl⟩ := ends_mem.1 h
 exact out_ok2 hv ho
/-- More fuel than rounds changes nothing. -/
theorem tell_fuel {t : Lts} (hv : Valid t) : ∀ (f g : Nat) (a b : Int), (0 ≤ a ∧ a < t.states) → (0 ≤ b ∧ b < t.states) → sepR t a b ≤ f → sepR t a b ≤ g → tellN t f a b = tellN t g a b
 | 0, 0, _, _, _, _, _, _ => rfl
 | 0, g + 1, a, b, _, _, h, _ => by
  have : sepR t a b = 0 := by omega
  show [] = tellN t (g + 1) a b
  unfold tellN
  rw [if_pos this]
 | f + 1, 0, a, b, _, _, _, h => by
  have : sepR t a b = 0 := by omega
  show tellN t (f + 1) a b = []
  unfold tellN
  rw [if_pos this]
 | f + 1, g + 1, a, b, ha, hb, hf, hg => by
  unfold tellN
  by_cases h0 : sepR t a b = 0
  ·rw [if_pos h0, if_pos h0]
  ·rw [if_neg h0, if_neg h0]
   obtain ⟨d, hd⟩ : ∃ d, sepR t a b = d + 1 := ⟨sepR t a b - 1, by omega⟩
   have hdl := (sep_pos hd).1
   rw [hd, Nat.add_sub_cancel]
   rw [hd] at hf hg
   have e1 : ∀ e, loneE t (lev t d) a b = some e → ((endsG t b e.lab).map fun y => tellN t f e.dst y) = (endsG t b e.lab).map fun y => tellN t g e.dst y := fun e he =>
    List.map_congr_left fun y hy => by
     have h1 := sep_ends hv (by omega) he hy
     exact tell_fuel hv f g _ _ (out_ok2 hv (lone_some he).1) (ends_in hv hy) (by omega) (by omega)
   have e2 : ∀ e, loneE t (lev t d) b a = some e → ((endsG t a e.lab).map fun x => tellN t f x e.dst) = (endsG t a e.lab).map fun x => tellN t g x e.dst := fun e he =>
    List.map_congr_left fun y hy => by
     have h1 := sep_ends hv (by omega) he hy
     rw [sep_comm] at h1
     exact tell_fuel hv f g _ _ (ends_in hv hy) (out_ok2 hv (lone_some he).1) (by omega) (by omega)
   cases h1 : loneE t (lev t d) a b with
   | some e => simp only [Option.map_some, Option.getD_some]; rw [e1 e h1]
   | none =>
    simp only [Option.map_none, Option.getD_none]
    cases h2 : loneE t (lev t d) b a with
    | some e => simp only [Option.map_some, Option.getD_some]; rw [e2 e h2]
    | none => rfl
/-- The formula of a pair. -/
def tellT (t : Lts) (a b : Int) : List Nd := tellN t (sepR t a b) a b
theorem tell_some {t : Lts} (hv : Valid t) {a b : Int} {d : Nat} (hd : sepR t a b = d + 1) {e : Edge} (he : loneE t (lev t d) a b = some e) :
  tellT t a b = buildN 4 2 0 (labAt t e) ((endsG t b e.lab).map fun y => tellT t e.dst y) := by
 have hg : tellT t a b = tellN t (d + 1) a b := by unfold tellT; rw [hd]
 rw [hg]
 conv => lhs; unfold tellN
 rw [if_neg (by omega), hd, Nat.add_sub_cancel, he]
 simp only [Option.map_some, Option.getD_some]
 congr 1
 refine List.map_congr_left fun y hy => ?_
 have h1 := sep_ends hv (by have := (sep_pos hd).1; omega) he hy
 exact tell_fuel hv d (sepR t e.dst y) _ _ (out_ok2 hv (lone_some he).1) (ends_in hv hy) (by omega) (Nat.le_refl _)
theorem tell_none {t : Lts} (hv : Valid t) {a b : Int} {d : Nat} (hd : sepR t a b = d + 1) (h0 : loneE t (lev t d) a b = none) {e : Edge} (he : loneE t (lev t d) b a = some e) :
  tellT t a b = buildN 5 3 1 (labAt t e) ((endsG t a e.lab).map fun x => tellT t x e.dst) := by
 have hg : tellT t a b = tellN t (d + 1) a b := by unfold tellT; rw [hd]
 rw [hg]
 conv => lhs; unfold tellN
 rw [if_neg (by omega), hd, Nat.add_sub_cancel, h0, he]
 simp only [Option.map_some, Option.getD_some, Option.map_none, Option.getD_none]
 congr 1
 refine List.map_congr_left fun y hy => ?_
 have h1 := sep_ends hv (by have := (sep_pos hd).1; omega) he hy
 rw [sep_comm] at h1
 exact tell_fuel hv d (sepR t y e.dst) _ _ (ends_in hv hy) (out_ok2 hv (lone_some he).1) (by omega) (Nat.le_refl _)
end Go.Proofs.YtjoacldbgnphkaaGreatDoor

namespace Go.Proofs.YtjoacldbgnphkaaGreatDoor
open Go Go.RowKit


theorem joinD_cons (kind : Int) (f : List Nd) {r : List (List Nd)} (h : r ≠ []) : joinD kind (f :: r) = ⟨kind, ByteArray.empty⟩ :: (f ++ joinD kind r) := by
 show (if r = [] then f else _) = _
 rw [if_neg h]
theorem joinD_one (kind : Int) (f : List Nd) : joinD kind [f] = f := by
 show (if ([] : List (List Nd)) = [] then f else _) = _
 rw [if_pos rfl]
/-- As the reference makes it: front to back. -/
def joinP (kind : Int) (L : List (List Nd)) : List Nd := L.flatMap fun f => ⟨kind, ByteArray.empty⟩ :: f
theorem joinP_snoc (kind : Int) (L : List (List Nd)) (x : List Nd) : joinP kind (L ++ [x]) = joinP kind L ++ (⟨kind, ByteArray.empty⟩ :: x) := by simp [joinP]
theorem joinD_snoc (kind : Int) (x : List Nd) : ∀ L : List (List Nd), joinD kind (L ++ [x]) = joinP kind L ++ x
 | [] => joinD_one kind x
 | f :: L => by
  rw [List.cons_append, joinD_cons kind f (by simp), joinD_snoc kind x L]
  simp [joinP]
def sumN (L : List (List Nd)) : Nat := (L.map fun f => f.length + 1).sum
theorem sumN_snoc (L : List (List Nd)) (x : List Nd) : sumN (L ++ [x]) = sumN L + (x.length + 1) := by simp [sumN]
theorem joinP_len (kind : Int) : ∀ L : List (List Nd), (joinP kind L).length = sumN L
 | [] => rfl
 | f :: L => by
  have ih := joinP_len kind L
  unfold joinP sumN at *
  simp [ih]
  omega
theorem joinD_len (kind : Int) {L : List (List Nd)} (h : L ≠ []) : (joinD kind L).length + 1 = sumN L := by
 obtain ⟨M, x, rfl⟩ : ∃ M x, L = M ++ [x] := ⟨L.dropLast, L.getLast h, (List.dropLast_concat_getLast h).symm⟩
 rw [joinD_snoc, sumN_snoc, List.length_append, joinP_len]
 omega
/-- Each formula once. -/
def addD (acc : List (List Nd)) (f : List Nd) : List (List Nd) := if f ∈ acc then acc else acc ++ [f]
theorem diffL_snoc (fs : List (List Nd)) (f : List Nd) : diffL (fs ++ [f]) = addD (diffL fs) f := by unfold diffL; rw [List.foldl_append]; rfl
theorem diffL_nil : diffL [] = [] := rfl
theorem diffL_mem : ∀ (fs : List (List Nd)) (f : List Nd), f ∈ diffL fs ↔ f ∈ fs := by
 have h : ∀ (m acc : List (List Nd)) (f : List Nd), f ∈ m.foldl (fun acc f => if f ∈ acc then acc else acc ++ [f]) acc ↔ f ∈ acc ∨ f ∈ m := by
  intro m
  induction m with
  | nil => intro acc f; simp
  | cons y m ih =>
   intro acc f
   rw [List.foldl_cons, ih]
   by_cases h : y ∈ acc
   ·rw [if_pos h, List.mem_cons]
    constructor
    ·rintro (h1 | h1)
     ·exact .inl h1
     ·exact .inr (.inr h1)
    ·rintro (h1 | rfl | h1)
     ·exact .inl h1
     ·exact .inl h
     ·exact .inr h1
   ·rw [if_neg h, List.mem_append, List.mem_singleton, List.mem_cons, or_assoc]
 intro fs f
 unfold diffL
 rw [h]
 simp
theorem diffL_empty {fs : List (List Nd)} : diffL fs = [] ↔ fs = [] := by
 constructor
 ·intro h
  cases fs with
  | nil => rfl
  | cons f r =>
   have := (diffL_mem (f :: r) f).2 (List.mem_cons_self ..)
   rw [h] at this
   cases this
 ·rintro rfl; rfl
/-- What is built, where none of the formulas is missing. -/
theorem build_ok {kind join none : Int} {l : ByteArray} {fs : List (List Nd)} (h : [] ∉ fs) (hne : fs ≠ []) : buildN kind join none l fs = if 200 < sumN (diffL fs) then [] else ⟨kind, l⟩ :: joinD join (diffL fs) := by
 have hd : diffL fs ≠ [] := fun e => hne (diffL_empty.1 e)
 unfold buildN joinN
 rw [if_neg h, if_neg hd, joinD_len join hd]
theorem build_none {kind join none : Int} {l : ByteArray} : buildN kind join none l [] = [⟨kind, l⟩, ⟨none, ByteArray.empty⟩] := by
 unfold buildN joinN
 rw [if_neg (by simp), if_pos diffL_nil, if_neg (by simp)]
theorem build_short {kind join none : Int} {l : ByteArray} (fs : List (List Nd)) : (buildN kind join none l fs).length ≤ 200 := by
 unfold buildN
 by_cases h1 : [] ∈ fs
 ·rw [if_pos h1]; simp
 ·rw [if_neg h1]
  by_cases h2 : 200 < (joinN join none fs).length + 1
  ·rw [if_pos h2]; simp
  ·rw [if_neg h2, List.length_cons]; omega
theorem tell_short (t : Lts) : ∀ (f : Nat) (a b : Int), (tellN t f a b).length ≤ 200
 | 0, _, _ => by simp [tellN]
 | f + 1, a, b => by
  unfold tellN
  by_cases h0 : sepR t a b = 0
  ·rw [if_pos h0]; simp
  ·rw [if_neg h0]
   cases loneE t (lev t (sepR t a b - 1)) a b with
   | some e => simp only [Option.map_some, Option.getD_some]; exact build_short _
   | none =>
    simp only [Option.map_none, Option.getD_none]
    cases loneE t (lev t (sepR t a b - 1)) b a with
    | some e => simp only [Option.map_some, Option.getD_some]; exact build_short _
    | none => simp
theorem tellT_short (t : Lts) (a b : Int) : (tellT t a b).length ≤ 200 := tell_short t _ a b

/-- The ends under a label, in order. -/
theorem ends_asc {t : Lts} (hv : Valid t) (k l : Int) : (endsG t k l).Pairwise (· < ·) := by
 have hr : t.edges.Pairwise fun a b => edgeLess a b = true := by
  rw [List.pairwise_iff_getElem]
  intro i j hi hj hij
  induction j with
  | zero => omega
  | succ j ih =>
   have h1 := hv.rise j hj
   rcases Nat.lt_or_ge i j with hlt | hge
   ·have h2 := ih (by omega) hlt
    rw [edgeLess_iff] at *
    omega
   ·obtain rfl : i = j := by omega
    exact h1
 unfold endsG outOf
 rw [List.pairwise_map, List.pairwise_filter, List.pairwise_filter]
 refine hr.imp fun {a b} h ha hb ka kb => ?_
 simp only [beq_iff_eq] at ha hb ka kb
 rw [edgeLess_iff] at h
 omega
theorem ends_follow {t : Lts} (hv : Valid t) (k : Int) {n : Nat} (hn : n < t.labels.length) : followL t [k] t.labels[n] = endsG t k n := by
 refine IsSet.unique (followL_is hv [k] hn) ⟨fun x => ?_, ends_asc hv k n⟩
 rw [ends_mem]
 unfold behindP
 constructor
 ·rintro ⟨o, ho, hl, rfl⟩
  exact ⟨o, (List.mem_filter.1 ho).1, hl, by rw [out_src ho]; simp, rfl⟩
 ·rintro ⟨o, ho, hl, hs, rfl⟩
  exact ⟨o, List.mem_filter.2 ⟨ho, by simpa using hs⟩, hl, rfl⟩

end Go.Proofs.YtjoacldbgnphkaaGreatDoor

namespace Go.Proofs.YtjoacldbgnphkaaGreatDoor
open Go Go.RowKit

def szS (ss : List ByteArray) (left : Int) : Int :=
 match ss with
 | [] => left
 | s :: r => if left - s.size < 0 then -1 else szS r (left - s.size)

theorem szS_lt (ss : List ByteArray) (left : Int) (h : 0 ≤ left) : -1 ≤ szS ss left ∧ szS ss left ≤ left := by
 induction ss generalizing left with
 | nil => simp [szS]; omega
 | cons s r ih =>
  unfold szS
  split
  ·omega
  ·have := ih (left - s.size) (by omega); omega

/-- What szStringS returns. -/
def szSS (ss : List ByteArray) (left : Int) : Int := if left - ss.length < 0 then -1 else szS ss (left - ss.length)
theorem szSS_neg {ss : List ByteArray} {left : Int} (h : left - ss.length < 0) : szSS ss left = -1 := by unfold szSS; rw [if_pos h]
theorem szSS_pos {ss : List ByteArray} {left : Int} (h : ¬ left - ss.length < 0) : szSS ss left = szS ss (left - ss.length) := by unfold szSS; rw [if_neg h]
def szN (n : Nat) (left : Int) : Int := if left - n < 0 then -1 else left - n
theorem szN_neg {n : Nat} {left : Int} (h : left - n < 0) : szN n left = -1 := by unfold szN; rw [if_pos h]
theorem szN_pos {n : Nat} {left : Int} (h : ¬ left - n < 0) : szN n left = left - n := by unfold szN; rw [if_neg h]

set_option maxHeartbeats 400000 in
theorem szStringS_any (v : Value) (lo : Nat) (ss : List ByteArray) (left : Int) (w : World)
   (h1 : 0 ≤ left) (h2 : left ≤ 1048576) (hs : StrsOk ss) (hv : SliceK 1 encS lo w v ss) :
  Calls Tryz.prog 16 #[v, .int .i64 left] w fun e w' => e = .returned (.int .i64 (szSS ss left)) ∧ w = w' := by
 have hS := Lib.hid hs
 clear hs
 obtain ⟨a, cap, rfl, hn, hcap, hr⟩ := hv
 by_cases hl : left - ss.length < 0
 ·go_enter Tryz.func16, Tryz.ntmps16
  go_wp2
  go_ret
  exact ⟨ret_int (szSS_neg hl).symm, rfl⟩
 ·go_enter Tryz.func16, Tryz.ntmps16
  go_wp2
  go_loop [1, 5] (fun t i => ∃ k : Nat, ∃ l : Int, k ≤ ss.length ∧ i = .int .i64 k ∧ t = .int .i64 l ∧ 0 ≤ l ∧ l ≤ 1048576 ∧ szS (ss.drop k) l = szS ss (left - ss.length)) (fun _ i => ss.length - (intOf i).toNat)
  case atStart => exact ⟨0, _, Nat.zero_le _, rfl, rfl, by omega, by omega, rfl⟩
  case round =>
   obtain ⟨k, l, hk, rfl, rfl, hl0, hl1, hs⟩ := hrel
   have hs' := Lib.hid hs
   clear hs
   by_cases hlt : k < ss.length
   ·have hsk := hS.out _ (List.getElem_mem hlt)
    obtain ⟨b, off, rfl, -, -, hck⟩ := hr.one hlt
    simp only [encS, List.getElem?_cons_zero] at hck
    clear hr
    have hd : Hid (szS (ss.drop k) l = if l - (ss[k]).size < 0 then -1 else szS (ss.drop (k+1)) (l - (ss[k]).size)) := by
     unfold Hid; rw [List.drop_eq_getElem_cons hlt, szS]
    by_cases hz : l - (ss[k]).size < 0
    ·go_wp2
     go_ret
     refine ⟨?_, rfl⟩
     exact ret_int (by rw [szSS_pos (by omega), ← hs'.out, hd.out, if_pos (by omega)])
    ·go_wp2
     go_round
     case rel => exact ⟨k+1, _, by omega, by go_num, rfl, by omega, by omega, by rw [← hs'.out, hd.out, if_neg (by omega)]⟩
     case measure => simp [intOf]; omega
   ·clear hr
    go_wp2
    go_ret
    refine ⟨?_, rfl⟩
    have : k = ss.length := by omega
    exact ret_int (by rw [szSS_pos (by omega), ← hs'.out]; simp [this, szS])

theorem szEdgeS_any (a : Option Addr) (cap n : Nat) (left : Int) (w : World) (h1 : 0 ≤ left) (h2 : left ≤ 1048576) (hn : n ≤ cap) (hcap : cap ≤ 9223372036854775807) :
  Calls Tryz.prog 17 #[.slice a n cap, .int .i64 left] w fun e w' => e = .returned (.int .i64 (szN n left)) ∧ w = w' := by
 by_cases hl : left - n < 0
 ·go_enter Tryz.func17, Tryz.ntmps17
  go_wp2
  go_ret
  exact ⟨ret_int (szN_neg hl).symm, rfl⟩
 ·go_enter Tryz.func17, Tryz.ntmps17
  go_wp2
  go_ret
  exact ⟨ret_int (szN_pos (by omega)).symm, rfl⟩

/-- What szLts returns. -/
def szL (t : Lts) (left : Int) : Int :=
 if szSS t.labels left < 0 then -1
 else if szN t.edges.length (szSS t.labels left) < 0 then -1
 else szN t.edges.length (szSS t.labels left)

theorem szSS_le (ss : List ByteArray) (left : Int) (h : 0 ≤ left) : -1 ≤ szSS ss left ∧ szSS ss left ≤ left := by
 unfold szSS
 split
 ·omega
 ·have := szS_lt ss (left - ss.length) (by omega); omega

set_option maxHeartbeats 400000 in
theorem szLts_any (v : Value) (lo : Nat) (t : Lts) (left : Int) (w : World)
   (h1 : 0 ≤ left) (h2 : left ≤ 1048576) (hs : StrsOk t.labels) (hv : LtsAt lo w v t) :
  Calls Tryz.prog 5 #[v, .int .i64 left] w
   fun e w' => e = .returned (.int .i64 (szL t left)) ∧ Below w.heap.size w w' := by
 have hb := szSS_le t.labels left h1
 have hS := Lib.hid hs
 clear hs
 obtain ⟨lv, ev, rfl, hl, ae, ce, rfl, hn, hcap, hr⟩ := hv
 go_enter Tryz.func5, Tryz.ntmps5
 go_wp2_with fail
 refine (szStringS_any _ _ _ _ _ h1 h2 hS.out (hl.below ((Below.refl _ w).alloc (Nat.le_refl _) _))).mono ?_
 clear hl hr
 rintro e w' ⟨rfl, rfl⟩
 have hf : Hid (szL t left = if szSS t.labels left < 0 then -1 else if szN t.edges.length (szSS t.labels left) < 0 then -1 else szN t.edges.length (szSS t.labels left)) := rfl
 generalize szSS t.labels left = q at *
 by_cases hl : q < 0
 ·go_wp2_with fail
  go_ret
  exact ⟨ret_int (by rw [hf.out, if_pos hl]), (Below.refl _ _).alloc (Nat.le_refl _) _⟩
 ·go_wp2_with fail
  refine (szEdgeS_any _ _ _ _ _ (by omega) (by omega) hn hcap).mono ?_
  rintro e w' ⟨rfl, rfl⟩
  generalize szN t.edges.length q = q2 at *
  by_cases hl2 : q2 < 0
  ·go_wp2_with fail
   go_ret
   exact ⟨ret_int (by rw [hf.out, if_neg (by omega), if_pos (by omega)]), (Below.refl _ _).alloc (Nat.le_refl _) _⟩
  ·go_wp2_with fail
   go_ret
   exact ⟨ret_int (by rw [hf.out, if_neg (by omega), if_neg (by omega)]), (Below.refl _ _).alloc (Nat.le_refl _) _⟩

set_option maxHeartbeats 400000 in
theorem eqStringS_same (va vb : Value) (lo lo' : Nat) (xs : List ByteArray) (w : World) (hva : SliceK 1 encS lo w va xs) (hvb : SliceK 1 encS lo' w vb xs) :
  Calls Tryz.prog 28 #[va, vb] w fun e w' => e = .returned (.bool true) ∧ Below w.heap.size w w' := by
 obtain ⟨a, ca, rfl, hna, hca, ha⟩ := hva
 obtain ⟨b, cb, rfl, hnb, hcb, hb⟩ := hvb
 go_enter Tryz.func28, Tryz.ntmps28
 go_wp2
 go_loopw [5] (fun i wr => ∃ k : Nat, k ≤ xs.length ∧ i = .int .i64 k ∧ Below w.heap.size w wr) (fun i _ => xs.length - (intOf i).toNat)
 case atStart => exact ⟨0, Nat.zero_le _, rfl, Below.refl _ _⟩
 case round =>
  obtain ⟨k, hk, rfl, hbl⟩ := hrel
  by_cases hlt : k < xs.length
  ·obtain ⟨b1, o1, rfl, -, h1, c1⟩ := ha.one hlt
   obtain ⟨b2, o2, rfl, -, h2, c2⟩ := hb.one hlt
   simp only [encS, List.getElem?_cons_zero] at c1 c2
   replace c1 := keeps hbl h1 c1
   replace c2 := keeps hbl h2 c2
   clear ha hb
   go_wp2
   go_quiet (fail)
   go_wp2
   go_roundw
   case rel => exact ⟨k + 1, by omega, by go_num, drews hbl _⟩
   case measure => simp [intOf]; omega
  ·clear ha hb
   go_wp2
   go_ret
   exact ⟨rfl, hbl⟩

set_option maxHeartbeats 400000 in
theorem eqEdge_same (x y z : Int) (w : World) :
  Calls Tryz.prog 51 #[.agg #[.int .i64 x, .int .i64 y, .int .i64 z], .agg #[.int .i64 x, .int .i64 y, .int .i64 z]] w fun e w' => e = .returned (.bool true) ∧ Below w.heap.size w w' := by
 go_enter Tryz.func51, Tryz.ntmps51
 go_wp2
 go_ret
 exact ⟨rfl, ((Below.refl _ _).alloc (Nat.le_refl _) _).alloc (by simp) _⟩

set_option maxHeartbeats 400000 in
theorem eqEdgeS_same (va vb : Value) (lo lo' : Nat) (xs : List Edge) (w : World) (hva : SliceK 3 encE lo w va xs) (hvb : SliceK 3 encE lo' w vb xs) :
  Calls Tryz.prog 29 #[va, vb] w fun e w' => e = .returned (.bool true) ∧ Below w.heap.size w w' := by
 obtain ⟨a, ca, rfl, hna, hca, ha⟩ := hva
 obtain ⟨b, cb, rfl, hnb, hcb, hb⟩ := hvb
 go_enter Tryz.func29, Tryz.ntmps29
 go_wp2
 go_loopw [5] (fun i wr => ∃ k : Nat, k ≤ xs.length ∧ i = .int .i64 k ∧ Below w.heap.size w wr) (fun i _ => xs.length - (intOf i).toNat)
 case atStart => exact ⟨0, Nat.zero_le _, rfl, Below.refl _ _⟩
 case round =>
  obtain ⟨k, hk, rfl, hbl⟩ := hrel
  by_cases hlt : k < xs.length
  ·obtain ⟨b1, o1, rfl, -, h1, c1, c2, c3⟩ := (ha.below hbl).edge hlt
   obtain ⟨b2, o2, rfl, -, h2, c4, c5, c6⟩ := (hb.below hbl).edge hlt
   replace c1 := later_cell h1 c1
   replace c2 := later_cell h1 c2
   replace c3 := later_cell h1 c3
   replace c4 := later_cell h2 c4
   replace c5 := later_cell h2 c5
   replace c6 := later_cell h2 c6
   clear ha hb
   go_wp2
   refine wp_region_later (by kernel_rfl) (by kernel_rfl) ?_
   repeat (go_big_quiet_step ((go_at_call 51; exact later_call (eqEdge_same _ _ _ _))))
   refine wpQuiet_nil ?_
   intro _ hw9
   obtain ⟨nl, hw8⟩ := hw9
   subst hw8
   go_wp2
   go_roundw
   case rel => exact ⟨k + 1, by omega, by go_num, hbl.trans (nl.h.mono hbl.size)⟩
   case measure => simp [intOf]; omega
  ·clear ha hb
   go_wp2
   go_ret
   exact ⟨rfl, hbl⟩

set_option maxHeartbeats 400000 in
theorem eqLts_same (va vb : Value) (lo lo' : Nat) (t : Lts) (w : World) (hva : LtsAt lo w va t) (hvb : LtsAt lo' w vb t) :
  Calls Tryz.prog 10 #[va, vb] w fun e w' => e = .returned (.bool true) ∧ Below w.heap.size w w' := by
 obtain ⟨la, ea, rfl, h1, h2⟩ := hva
 obtain ⟨lb, eb, rfl, h3, h4⟩ := hvb
 have hw0 : ∀ o1 o2, Below w.heap.size w ((w.alloc o1).alloc o2) := fun _ _ => ((Below.refl _ _).alloc (Nat.le_refl _) _).alloc (by simp) _
 have H0 := Lib.hid hw0
 have H1 := Lib.hid h1
 have H2 := Lib.hid h2
 have H3 := Lib.hid h3
 have H4 := Lib.hid h4
 clear hw0
 obtain ⟨_, _, rfl, -⟩ := h1
 obtain ⟨_, _, rfl, -⟩ := h2
 obtain ⟨_, _, rfl, -⟩ := h3
 obtain ⟨_, _, rfl, -⟩ := h4
 go_enter Tryz.func10, Tryz.ntmps10
 go_wp2_with fail
 refine (eqStringS_same _ _ _ _ _ _ (SliceK.below H1.out (H0.out _ _)) (SliceK.below H3.out (H0.out _ _))).mono ?_
 rintro e w1 ⟨rfl, hb1⟩
 obtain ⟨hc1, -⟩ := both hb1
 have hz := hb1.size
 simp only [World.size_alloc] at hz
 go_wp2_with fail
 refine (eqEdgeS_same _ _ _ _ _ _ (SliceK.below H2.out ((H0.out _ _).trans (hb1.mono (by simp; omega)))) (SliceK.below H4.out ((H0.out _ _).trans (hb1.mono (by simp; omega))))).mono ?_
 rintro e w2 ⟨rfl, hb2⟩
 go_wp2_with fail
 go_ret
 exact ⟨rfl, (H0.out _ _).trans ((hb1.mono (by simp; omega)).trans (hb2.mono (by omega)))⟩

end Go.Proofs.YtjoacldbgnphkaaGreatDoor

namespace Go.Proofs.YtjoacldbgnphkaaGreatDoor
open Go Go.RowKit

theorem info_string : (Tryz.prog.info? 9).map (fun i => (i.zero, i.size, i.bytes)) = some (some (.string ⟨#[]⟩), 1, 16) := by kernel_rfl
theorem info_edge : (Tryz.prog.info? 66).map (fun i => (i.zero, i.size, i.bytes)) = some (some (.agg #[.int .i64 0, .int .i64 0, .int .i64 0]), 3, 24) := by kernel_rfl

def MadeStrs (w : World) (ss : List ByteArray) (e : Ending) (w' : World) : Prop :=
 e = .returned (.slice (some ⟨w.heap.size, 0, none⟩) ss.length ss.length) ∧ Below w.heap.size w w' ∧ w.heap.size < w'.heap.size ∧ w'.ownsRow w.heap.size 9 1 (.slice (some ⟨w.heap.size, 0, none⟩) ss.length ss.length) ss.length (ss.map .string)

set_option maxHeartbeats 400000 in
theorem toStringS_any (v : Value) (lo : Nat) (ss : List ByteArray) (w : World) (hn : ss.length ≤ 1048576) (hv : SliceK 1 encS lo w v ss) :
  Calls Tryz.prog 23 #[v] w (MadeStrs w ss) := by
 obtain ⟨a, ca, rfl, hna, hca, ha⟩ := hv
 obtain ⟨i0, hi, hz0, hz1, hz2⟩ := info_parts info_string
 go_enter Tryz.func23, Tryz.ntmps23
 go_wp2_with (at_make; refine wpList_make_full _ rfl _ _ 22 rfl w.heap.size 9 i0 _ 1 Tryz.underlying22 hi hz0 hz1 .i64 .i64 _ _ ss.length rfl rfl rfl rfl ?_ ?_ ?_ ?_)
 ·rw [hz2]; omega
 ·simp [maxLen]; omega
 ·exact Nat.le_refl _
 ·intro w1 ho hg
  rw [toList_madeCells_one] at ho
  have hb1 : Below w.heap.size w w1 := (Below.refl _ w).grown hg (Nat.le_refl _) (fun _ h => by cases h)
  clear hi hz0 hz1 hz2 i0
  have HO := Lib.hid ho
  clear ho hg
  go_wp2
  go_loopw [4] (fun i wr => ∃ k : Nat, k ≤ ss.length ∧ i = .int .i64 k ∧ Below w.heap.size w wr ∧ wr.ownsRow w.heap.size 9 1 (.slice (some ⟨w.heap.size, 0, none⟩) ss.length ss.length) ss.length ((ss.take k).map .string ++ List.replicate (ss.length - k) (.string ⟨#[]⟩))) (fun i _ => ss.length - (intOf i).toNat)
  case atStart => exact ⟨0, Nat.zero_le _, rfl, hb1, by simpa using HO.out⟩
  case round =>
   obtain ⟨k, hk, rfl, hbl, ho⟩ := hrel
   clear HO hb1
   by_cases hlt : k < ss.length
   ·obtain ⟨b1, o1, rfl, -, h1, c1⟩ := (ha.below hbl).one hlt
    simp only [encS, List.getElem?_cons_zero] at c1
    have c2 := ho.cellAt k (by omega)
    rw [filled_get _ _ _ _ hlt] at c2
    have c3 := ho.frozenAt k
    have ho2 := ho.stored k (.string ss[k])
    rw [filled_set _ _ _ _ hlt] at ho2
    have HO := Lib.hid ho2
    clear ho ho2 ha
    go_wp2
    go_roundw
    case rel => exact ⟨k + 1, by omega, by go_num, hbl.setCell (by exact Nat.le_refl _) _, HO.out.1⟩
    case measure => simp [intOf]; omega
   ·clear ha
    go_wp2
    go_ret
    have hke : k = ss.length := by omega
    subst hke
    exact ⟨rfl, hbl, (ho.lt _ rfl).2, by simpa using ho⟩

def RetEdge (w : World) (x y z : Int) (e : Ending) (w' : World) : Prop := e = .returned (.agg #[.int .i64 x, .int .i64 y, .int .i64 z]) ∧ Below w.heap.size w w'

set_option maxHeartbeats 400000 in
theorem toEdge_any (x y z : Int) (w : World) : Calls Tryz.prog 41 #[.agg #[.int .i64 x, .int .i64 y, .int .i64 z]] w (RetEdge w x y z) := by
 go_enter Tryz.func41, Tryz.ntmps41
 go_wp2
 refine bodyPost_ret (v := .agg #[.int .i64 x, .int .i64 y, .int .i64 z]) (by simp [results, Tryz.results41, go_sem]) rfl ⟨rfl, ?_⟩
 repeat (first | exact Below.refl _ _ | refine Below.setCell ?_ (by simp) _ | refine Below.alloc ?_ (by simp; try omega) _)

def MadeEdges (w : World) (es : List Edge) (e : Ending) (w' : World) : Prop :=
 e = .returned (.slice (some ⟨w.heap.size, 0, none⟩) es.length es.length) ∧ Below w.heap.size w w' ∧ w.heap.size < w'.heap.size ∧ w'.ownsRow w.heap.size 66 3 (.slice (some ⟨w.heap.size, 0, none⟩) es.length es.length) es.length (es.flatMap encE)

set_option maxHeartbeats 1000000 in
theorem toEdgeS_any (v : Value) (lo : Nat) (es : List Edge) (w : World) (hn : es.length ≤ 1048576) (hv : SliceK 3 encE lo w v es) :
  Calls Tryz.prog 24 #[v] w (MadeEdges w es) := by
 obtain ⟨a, ca, rfl, hna, hca, ha⟩ := hv
 obtain ⟨i0, hi, hz0, hz1, hz2⟩ := info_parts info_edge
 go_enter Tryz.func24, Tryz.ntmps24
 go_wp2_with (at_make; refine wpList_make_full _ rfl _ _ 30 rfl w.heap.size 66 i0 _ 3 Tryz.underlying30 hi hz0 hz1 .i64 .i64 _ _ es.length rfl rfl rfl rfl ?_ ?_ ?_ ?_)
 ·rw [hz2]; omega
 ·simp [maxLen]; omega
 ·exact Nat.le_refl _
 ·intro w1 ho hg
  have hb1 : Below w.heap.size w w1 := (Below.refl _ w).grown hg (Nat.le_refl _) (fun _ h => by cases h)
  have ho1 : w1.ownsRow w.heap.size 66 3 (.slice (some ⟨w.heap.size, 0, none⟩) es.length es.length) es.length (List.replicate (es.length * 3) (.int .i64 0)) := by
   have : (madeCells #[.int .i64 0, .int .i64 0, .int .i64 0] (es.length * 3)).toList = List.replicate (es.length * 3) (Value.int .i64 0) := by
    apply List.ext_getElem?
    intro j
    by_cases hj : j < es.length * 3
    ·have h3 : j % 3 < 3 := Nat.mod_lt _ (by omega)
     simp only [madeCells, Array.toList_map, Array.toList_range, List.getElem?_map, List.getElem?_range hj, List.getElem?_replicate, if_pos hj, Option.map_some]
     show some (#[Value.int IntKind.i64 0, Value.int IntKind.i64 0, Value.int IntKind.i64 0][j % 3]!) = _
     generalize j % 3 = q at h3
     match q, h3 with
     | 0, _ => rfl
     | 1, _ => rfl
     | 2, _ => rfl
    ·simp [madeCells, hj]
   rw [this] at ho
   exact ho
  clear hi hz0 hz1 hz2 i0
  have HO := Lib.hid ho1
  clear ho hg ho1
  go_wp2
  go_loopw [4] (fun i wr => ∃ k : Nat, k ≤ es.length ∧ i = .int .i64 k ∧ Below w.heap.size w wr ∧ w.heap.size < wr.heap.size ∧ wr.ownsRow w.heap.size 66 3 (.slice (some ⟨w.heap.size, 0, none⟩) es.length es.length) es.length ((es.take k).flatMap encE ++ List.replicate ((es.length - k) * 3) (.int .i64 0))) (fun i _ => es.length - (intOf i).toNat)
  case atStart => exact ⟨0, Nat.zero_le _, rfl, hb1, (HO.out.lt _ rfl).2, by simpa using HO.out⟩
  case round =>
   obtain ⟨k, hk, rfl, hbl, hsz, ho⟩ := hrel
   clear HO hb1
   by_cases hlt : k < es.length
   ·obtain ⟨b1, o1, rfl, -, h1, c1, c2, c3⟩ := (ha.below hbl).edge hlt
    have HO := Lib.hid ho
    clear ho ha
    go_wp2_with fail
    refine (toEdge_any _ _ _ _).mono ?_
    rintro e w2 ⟨rfl, hb2⟩
    have ho := owns_below HO.out hb2
    clear c1 c2 c3
    have d0 := (ho.cellAt (k * 3) (by omega)).trans (filledE_get _ _ _ 0 hlt (by omega))
    have s0 := (ho.stored (k * 3) (.int .i64 es[k].src)).1
    have d1 := s0.cellAt (k * 3 + 1) (by omega)
    rw [List.getElem?_set_ne (by omega), filledE_get _ _ _ _ hlt (by omega)] at d1
    have s1 := (s0.stored (k * 3 + 1) (.int .i64 es[k].lab)).1
    have d2 := s1.cellAt (k * 3 + 2) (by omega)
    rw [List.getElem?_set_ne (by omega), List.getElem?_set_ne (by omega), filledE_get _ _ _ _ hlt (by omega)] at d2
    have g1 := ho.cellAt (k * 3 + 1) (by omega)
    rw [filledE_get _ _ _ _ hlt (by omega)] at g1
    have g2 := ho.cellAt (k * 3 + 2) (by omega)
    rw [filledE_get _ _ _ _ hlt (by omega)] at g2
    have f0 := ho.frozenAt (k * 3)
    have f3 := ho.frozenAt (k * 3 + 1)
    have f4 := ho.frozenAt (k * 3 + 2)
    have f1 := s0.frozenAt (k * 3 + 1)
    have f2 := s1.frozenAt (k * 3 + 2)
    have ho2 := (s1.stored (k * 3 + 2) (.int .i64 es[k].dst)).1
    rw [filledE_set _ _ _ hlt] at ho2
    clear s0 s1
    have HO2 := Lib.hid ho2
    have hsz2 := hb2.size
    clear ho ho2 HO
    go_wp2
    go_roundw
    case rel => exact ⟨k + 1, by omega, by go_num, (((hbl.trans (hb2.mono hbl.size)).setCell (by exact Nat.le_refl _) _).setCell (by exact Nat.le_refl _) _).setCell (by exact Nat.le_refl _) _, by simp; omega, HO2.out⟩
    case measure => simp [intOf]; omega
   ·clear ha
    go_wp2
    go_ret
    have hke : k = es.length := by omega
    subst hke
    exact ⟨rfl, hbl, (ho.lt _ rfl).2, by simpa using ho⟩

/-- A copy of a system, in memory of the call's own: its labels lie in one new block, its edges in a later one. -/
def MadeLts (w : World) (t : Lts) (e : Ending) (w' : World) : Prop :=
 ∃ b1 b2, e = .returned (.agg #[.int .i64 t.states, .int .i64 t.initial, .slice (some ⟨b1, 0, none⟩) t.labels.length t.labels.length, .slice (some ⟨b2, 0, none⟩) t.edges.length t.edges.length]) ∧ Below w.heap.size w w' ∧ w.heap.size ≤ b1 ∧ b1 < b2 ∧ b2 < w'.heap.size
  ∧ w'.ownsRow w.heap.size 9 1 (.slice (some ⟨b1, 0, none⟩) t.labels.length t.labels.length) t.labels.length (t.labels.map .string) ∧ w'.ownsRow b2 66 3 (.slice (some ⟨b2, 0, none⟩) t.edges.length t.edges.length) t.edges.length (t.edges.flatMap encE)

set_option maxHeartbeats 1000000 in
theorem toLts_any (v : Value) (lo : Nat) (t : Lts) (w : World) (hl : t.labels.length ≤ 1048576) (he : t.edges.length ≤ 1048576) (hv : LtsAt lo w v t) :
  Calls Tryz.prog 7 #[v] w (MadeLts w t) := by
 obtain ⟨lv, ev, rfl, h1, h2⟩ := hv
 have H1 := Lib.hid h1
 have H2 := Lib.hid h2
 obtain ⟨_, _, rfl, -⟩ := h1
 obtain ⟨_, _, rfl, -⟩ := h2
 have H0 : Hid (∀ o1 o2 o3, Below w.heap.size w (((w.alloc o1).alloc o2).alloc o3)) := fun _ _ _ => (((Below.refl _ _).alloc (Nat.le_refl _) _).alloc (by simp) _).alloc (by simp; omega) _
 go_enter Tryz.func7, Tryz.ntmps7
 go_wp2_with fail
 refine (toStringS_any _ _ _ _ hl (SliceK.below H1.out (H0.out _ _ _))).mono ?_
 rintro e w1 ⟨rfl, hb1, hs1, ho1⟩
 have B2 := Lib.hid ((Blk.new ((w.alloc _).alloc _) [.int .i64 t.states, .int .i64 t.initial, .slice none 0 0, .slice none 0 0] 32).below hb1)
 have B1 := Lib.hid (((Blk.new (w.alloc _) [.int .i64 0, .int .i64 0, .slice none 0 0, .slice none 0 0] 32).alloc _).below hb1)
 have B0 := Lib.hid ((((Blk.new w [.int .i64 t.states, .int .i64 t.initial, _, _] 25).alloc _).alloc _).below hb1)
 have hz := hb1.size
 simp only [World.size_alloc] at hz hs1 B1 B2 B0
 have HB1 := Lib.hid ((H0.out _ _ _).trans (hb1.mono (B' := w.heap.size) (by simp; omega)))
 have HO1 := Lib.hid ho1
 clear hb1 ho1
 have b3 := B0.out.cell 3 rfl
 have c2 := B2.out.cell 2 rfl
 have f2 := B2.out.frozen 2
 simp only [World.size_alloc] at HO1
 go_wp2_with fail
 have HB2 := Lib.hid (HB1.out.setCell (p := ⟨w.heap.size + 1 + 1, 2, none⟩) (by simp; omega) (.slice (some ⟨w.heap.size + 1 + 1 + 1, 0, none⟩) t.labels.length t.labels.length))
 refine (toEdgeS_any _ _ _ _ he (SliceK.below H2.out HB2.out)).mono ?_
 rintro e w2 ⟨rfl, hb2, hs2, ho2⟩
 have C2 := Lib.hid ((B2.out.set 2 (.slice (some ⟨w.heap.size + 1 + 1 + 1, 0, none⟩) t.labels.length t.labels.length)).below hb2)
 have C1 := Lib.hid ((B1.out.setOther ⟨w.heap.size + 1 + 1, 2, none⟩ (.slice (some ⟨w.heap.size + 1 + 1 + 1, 0, none⟩) t.labels.length t.labels.length) (by simp)).below hb2)
 have HB3 := Lib.hid (HB2.out.trans (hb2.mono (B' := w.heap.size) (by simp; omega)))
 have HO1' := Lib.hid (owns_below (owns_setOther HO1.out ⟨w.heap.size + 1 + 1, 2, none⟩ (.slice (some ⟨w.heap.size + 1 + 1 + 1, 0, none⟩) t.labels.length t.labels.length) (by simp [Value.ownBlock])) hb2)
 have HO2 := Lib.hid ho2
 simp only [World.size_setCell] at hs2 HO2
 clear hb2 ho2 c2 f2 B1 B2 HB1 HO1 b3 B0
 have d0 := C2.out.cell 0 rfl
 have d1 := C2.out.cell 1 rfl
 have d2 := C2.out.cell 2 rfl
 have d3 := C2.out.cell 3 rfl
 have f3 := C2.out.frozen 3
 have e0 := C1.out.cell 0 rfl
 have e1 := C1.out.cell 1 rfl
 have e2 := C1.out.cell 2 rfl
 have e3 := C1.out.cell 3 rfl
 have g0 := C1.out.frozen 0
 have g1 := C1.out.frozen 1
 have g2 := C1.out.frozen 2
 have g3 := C1.out.frozen 3
 simp only [World.size_setCell]
 go_wp2_with fail
 refine bodyPost_ret (v := .agg #[.int .i64 t.states, .int .i64 t.initial, .slice (some ⟨w.heap.size + 1 + 1 + 1, 0, none⟩) t.labels.length t.labels.length, .slice (some ⟨w1.heap.size, 0, none⟩) t.edges.length t.edges.length])
  (by simp [results, Tryz.results7, go_sem, e0, e1, e2, e3]) rfl ⟨w.heap.size + 1 + 1 + 1, w1.heap.size, rfl, ?_, by omega, by omega, by simp; omega, ?_, ?_⟩
 ·exact ((((HB3.out.setCell (by simp; omega) _).setCell (by simp) _).setCell (by simp) _).setCell (by simp) _).setCell (by simp) _
 ·obtain ⟨q1, ⟨q2, q3⟩ | ⟨q4, q5, q6, q7, q8, q9⟩⟩ := (owns_setOther (owns_setOther (owns_setOther (owns_setOther (owns_setOther HO1'.out ⟨w.heap.size + 1 + 1, 3, none⟩ (.slice (some ⟨w1.heap.size, 0, none⟩) t.edges.length t.edges.length) (by simp [Value.ownBlock]; try omega)) ⟨w.heap.size + 1, 0, none⟩ (.int .i64 t.states) (by simp [Value.ownBlock]; try omega)) ⟨w.heap.size + 1, 1, none⟩ (.int .i64 t.initial) (by simp [Value.ownBlock]; try omega)) ⟨w.heap.size + 1, 2, none⟩ (.slice (some ⟨w.heap.size + 1 + 1 + 1, 0, none⟩) t.labels.length t.labels.length) (by simp [Value.ownBlock]; try omega)) ⟨w.heap.size + 1, 3, none⟩ (.slice (some ⟨w1.heap.size, 0, none⟩) t.edges.length t.edges.length) (by simp [Value.ownBlock]; try omega))
  ·simp at q2
  ·exact ⟨q1, .inr ⟨q4, q5, q6, q7, by omega, q9⟩⟩
 ·exact owns_setOther (owns_setOther (owns_setOther (owns_setOther (owns_setOther HO2.out _ _ (by simp [Value.ownBlock]; try omega)) _ _ (by simp [Value.ownBlock]; try omega)) _ _ (by simp [Value.ownBlock]; try omega)) _ _ (by simp [Value.ownBlock]; try omega)) _ _ (by simp [Value.ownBlock]; try omega)

end Go.Proofs.YtjoacldbgnphkaaGreatDoor

namespace Go.Proofs.YtjoacldbgnphkaaGreatDoor
open Go Go.RowKit

def SomeText (w : World) (e : Ending) (w' : World) : Prop := ∃ s, e = .returned (.string s) ∧ Below w.heap.size w w'

/-- A text out of one digit's byte. -/
theorem digit_text (w : World) (n : Int) (_h0 : 0 ≤ n) :
  (convert 88 9 (.slice (some ⟨w.heap.size, 0, none⟩) 1 1)).run Tryz.prog (w.alloc (.cells #[.int .u8 (48 + n % 10)] 5)) = .ok (.string ⟨#[UInt8.ofNat (48 + n % 10).toNat]⟩) (w.alloc (.cells #[.int .u8 (48 + n % 10)] 5)) := by
 refine run_convert_bytes_back (P := Tryz.prog) _ 88 9 5 ⟨w.heap.size, 0, none⟩ 1 [UInt8.ofNat (48 + n % 10).toNat] Tryz.underlying88 Tryz.underlying5 Tryz.underlying9 ?_
 intro j hj
 obtain rfl : j = 0 := by simpa using hj
 simp [Addr.add]
 omega

set_option maxRecDepth 100000 in
set_option maxHeartbeats 400000 in
theorem markText_any (k : Int) (w : World) (h1 : 0 ≤ k) (h2 : k ≤ 1000000000) : Calls Tryz.prog 32 #[.int .i64 k] w (SomeText w) := by
 by_cases h0 : k ≤ 0
 ·go_enter Tryz.func32, Tryz.ntmps32
  go_wp2
  go_ret
  exact ⟨_, rfl, Below.refl _ _⟩
 ·go_enter Tryz.func32, Tryz.ntmps32
  go_wp2
  go_loopw [0, 3] (fun q s wr => ∃ (n : Int) (t : ByteArray), 0 ≤ n ∧ t.size + n ≤ 1000000000 ∧ q = .int .i64 n ∧ s = .string t ∧ Below w.heap.size w wr) (fun q _ _ => (intOf q).toNat)
  case atStart => exact ⟨_, _, by omega, by show ((0 : Nat) : Int) + k ≤ _; omega, rfl, rfl, Below.refl _ _⟩
  case round =>
   obtain ⟨n, t, hn, hn2, rfl, rfl, hbl⟩ := hrel
   by_cases hp : 0 < n
   ·have kc := digit_text wr n hn
    go_wp2
    go_roundw
    case rel =>
     have hz : (ByteArray.mk #[UInt8.ofNat (48 + n % 10).toNat] ++ t).size = 1 + t.size := by rw [ByteArray.size_append]; rfl
     exact ⟨_, _, by omega, by rw [hz]; omega, rfl, rfl, hbl.alloc hbl.size _⟩
    case measure => simp [intOf]; omega
   ·go_wp2
    go_ret
    exact ⟨_, rfl, hbl⟩



/-- What a function that marks a slice does: it returns the next mark, and turns no block but the slice's own. -/
def Marked (w : World) (v : Value) (r : Int) (C : World → Prop) (e : Ending) (w' : World) : Prop := e = .returned (.int .i64 r) ∧ w.grownBy w' v.ownBlock ∧ C w'
def MarkedIn (lo hi : Nat) (w : World) (r : Int) (e : Ending) (w' : World) : Prop := e = .returned (.int .i64 r) ∧ Turns lo hi w w'

end Go.Proofs.YtjoacldbgnphkaaGreatDoor

namespace Go.Proofs.YtjoacldbgnphkaaGreatDoor
open Go Go.RowKit


def mdig : Nat → Int → ByteArray → ByteArray
 | 0, _, t => t
 | f + 1, n, t => if 0 < n then mdig f (n / 10) (⟨#[UInt8.ofNat (48 + n % 10).toNat]⟩ ++ t) else t
/-- The text of a mark. -/
def mtxt (k : Int) : ByteArray := if k ≤ 0 then ⟨#[109, 48]⟩ else ⟨#[109]⟩ ++ mdig 10 k ⟨#[]⟩
theorem mdig_stop (f : Nat) {n : Int} (t : ByteArray) (h : ¬ 0 < n) : mdig f n t = t := by
 cases f with
 | zero => rfl
 | succ f => rw [mdig, if_neg h]

set_option maxRecDepth 100000 in
set_option maxHeartbeats 400000 in
theorem markText_is (k : Int) (w : World) (h1 : 0 ≤ k) (h2 : k ≤ 1000000000) : Calls Tryz.prog 32 #[.int .i64 k] w fun e w' => e = .returned (.string (mtxt k)) ∧ Below w.heap.size w w' := by
 obtain ⟨R, hR⟩ : ∃ R, R = mtxt k := ⟨_, rfl⟩
 rw [← hR]
 by_cases h0 : k ≤ 0
 ·unfold mtxt at hR
  rw [if_pos h0] at hR
  subst hR
  go_enter Tryz.func32, Tryz.ntmps32
  go_wp2
  go_ret
  exact ⟨rfl, Below.refl _ _⟩
 ·unfold mtxt at hR
  rw [if_neg h0] at hR
  obtain ⟨D, hD⟩ : ∃ D, D = mdig 10 k ⟨#[]⟩ := ⟨_, rfl⟩
  rw [← hD] at hR
  have HD := Lib.hid hD
  have HR := Lib.hid hR
  clear hD hR
  go_enter Tryz.func32, Tryz.ntmps32
  go_wp2
  go_loopw [0, 3] (fun q s wr => ∃ (n : Int) (t : ByteArray) (f : Nat), 0 ≤ n ∧ t.size + n ≤ 1000000000 ∧ n < (10 : Int) ^ f ∧ mdig f n t = D ∧ q = .int .i64 n ∧ s = .string t ∧ Below w.heap.size w wr) (fun q _ _ => (intOf q).toNat)
  case atStart => exact ⟨k, ⟨#[]⟩, 10, by omega, by show ((0 : Nat) : Int) + k ≤ _; omega, by show k < 10000000000; omega, HD.out.symm, rfl, rfl, Below.refl _ _⟩
  case round =>
   obtain ⟨n, t, f, hn, hn2, hf, hd, rfl, rfl, hbl⟩ := hrel
   have HDD := Lib.hid hd
   have HF := Lib.hid hf
   clear hd hf
   by_cases hp : 0 < n
   ·have kc := digit_text wr n hn
    go_wp2
    go_roundw
    case rel =>
     have hz : (ByteArray.mk #[UInt8.ofNat (48 + n % 10).toNat] ++ t).size = 1 + t.size := by rw [ByteArray.size_append]; rfl
     have hf := HF.out
     cases f with
     | zero => exfalso; rw [Int.pow_zero] at hf; omega
     | succ f =>
      have hd := HDD.out
      rw [mdig, if_pos hp] at hd
      refine ⟨_, _, f, by omega, by rw [hz]; omega, ?_, hd, rfl, rfl, hbl.alloc hbl.size _⟩
      rw [Int.pow_succ] at hf
      omega
    case measure => simp [intOf]; omega
   ·have HE : Hid (t = D) := by have := HDD.out; rw [mdig_stop f t hp] at this; exact this
    go_wp2
    go_ret
    exact ⟨by rw [HR.out, HE.out]; rfl, hbl⟩

end Go.Proofs.YtjoacldbgnphkaaGreatDoor
