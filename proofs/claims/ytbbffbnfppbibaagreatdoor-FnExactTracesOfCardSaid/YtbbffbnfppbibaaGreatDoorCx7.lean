/-
  What the implementation's functions on numbers' texts compute: strconv by the shelf's contracts.
  A plant, a supervisor and a requirement: the triples of states that are reached, those from which a marked one is reached, what makes a plant valid, when a supervisor controls it; how a plant lies in memory. Plain laws; no program in sight.
-/
import Derived.Test.YtbbffbnfppbibaaGreatDoorCx4
import Derived.Test.YtbbffbnfppbibaaGreatDoorCx6
import Derived.WalkSmall
import Derived.Lib.AppendIntMem
import Derived.Test.YtbbffbnfppbibaaGreatDoorCx5
namespace Go.Proofs.YtbbffbnfppbibaaGreatDoor
open Go Go.RowKit

/-- What the library's own variables hold. -/
structure Glob (w : World) : Prop where
  max : ∃ m, w.cell? ⟨0, 0, none⟩ = some (.int .i64 m)
  syn : ∃ ev, w.cell? ⟨2, 0, none⟩ = some ev ∧ (ev = .nilIface ∨ ∃ te pe, ev = .iface te pe)
  rng : ∃ ev, w.cell? ⟨3, 0, none⟩ = some ev ∧ (ev = .nilIface ∨ ∃ te pe, ev = .iface te pe)
  tab : Lib.TabIs Tryz.prog w "internal/strconv.uint64pow10" .u64 Lib.pow10Tab

theorem Glob.below {w w' : World} (h : Glob w) (hb : Below w.heap.size w w') : Glob w' := by
  obtain ⟨⟨m, h1⟩, ⟨e1, h2, h2'⟩, ⟨e2, h3, h3'⟩, h4⟩ := h
  have hg : Tryz.prog.globalNamed "internal/strconv.uint64pow10" = some 1 := by kernel_rfl
  have hlt : 1 < w.heap.size := by
    have h5 := h4
    unfold Lib.TabIs World.var? at h5
    rw [hg] at h5
    simp only [Option.bind_some] at h5
    rcases Nat.lt_or_ge 1 w.heap.size with h | h
    · exact h
    · rw [Array.getElem?_eq_none h] at h5; simp at h5
  refine ⟨⟨m, keeps hb (World.block_lt_of_cell? w _ h1) h1⟩, ⟨e1, keeps hb (World.block_lt_of_cell? w _ h2) h2, h2'⟩, ⟨e2, keeps hb (World.block_lt_of_cell? w _ h3) h3, h3'⟩, ?_⟩
  exact var?_below hb hg hlt h4

theorem Decimal_any (n : Int) (w : World) (h0 : -9223372036854775808 ≤ n) (h1 : n ≤ 9223372036854775807) (g : Glob w) :
    Calls Tryz.prog 103 #[.int .i64 n] w fun e w' => e = .returned (.string ⟨(Lib.itoa n).toArray⟩) ∧ Below w.heap.size w w' := by
  have G := Lib.hid g.tab
  have H0 := Lib.hid h0
  have H1 := Lib.hid h1
  clear g h0 h1
  go_enter Tryz.func103, Tryz.ntmps103
  go_wp2_with fail
  refine (Tryz.strconv_FormatInt_10 n H0.out H1.out _ G.out).mono ?_
  rintro e w' ⟨rfl, k, os, rfl⟩
  have HB : Hid (Below w.heap.size w (Go.Sort.grow (w.drewN k) os)) := Lib.below_grow _ w (Nat.le_refl _) k os
  go_wp2_with fail
  go_ret
  exact ⟨rfl, HB.out⟩

/-- What ReadDecimal reads. -/
def readDec (l : List UInt8) : Option Int :=
  if 18 < (Lib.trimPrefix l [45]).length then none
  else match Lib.parseIntB 64 l with
    | .ok n => if Lib.itoa n = l then some n else none
    | _ => none

/-- ReadDecimal's answer. -/
def RetDec (l : List UInt8) (w : World) (e : Ending) (w' : World) : Prop := e = .returned (.tuple #[.int .i64 ((readDec l).getD 0), .bool (readDec l).isSome]) ∧ Below w.heap.size w w'

theorem ReadDecimal_any (s : ByteArray) (w : World) (hs : s.size ≤ 1073741824) (g : Glob w) : Calls Tryz.prog 152 #[.string s] w (RetDec s.data.toList w) := by
  have G := Lib.hid g
  clear g
  by_cases h18 : 18 < (Lib.trimPrefix s.data.toList [45]).length
  · have HF : Hid (readDec s.data.toList = none) := by unfold Hid readDec; rw [if_pos h18]
    have HL := Lib.hid h18
    go_enter Tryz.func152, Tryz.ntmps152
    go_wp2_with fail
    refine (Tryz.strings_TrimPrefix s ⟨#[45]⟩ _).mono ?_
    rintro e w' ⟨rfl, rfl⟩
    have h18' : 18 < ((Lib.trimPrefix s.data.toList [45]).length : Int) := by omega
    clear h18
    go_wp2_with fail
    go_ret2
    unfold RetDec
    rw [HF.out]
    exact ⟨rfl, Below.refl _ _⟩
  · have h18' : ¬ 18 < ((Lib.trimPrefix s.data.toList [45]).length : Int) := by omega
    have HR : Hid (readDec s.data.toList = match Lib.parseIntB 64 s.data.toList with
      | .ok n => if Lib.itoa n = s.data.toList then some n else none
      | _ => none) := by unfold Hid readDec; rw [if_neg h18]
    clear h18
    rcases hp : Lib.parseIntB 64 s.data.toList with v | _ | _
    · have HP := Lib.hid hp
      have hbd := Lib.parseIntB_bounds hp
      have HB1 : Hid (-9223372036854775808 ≤ v) := by have := hbd.1; unfold Hid; simpa using this
      have HB2 : Hid (v ≤ 9223372036854775807) := by have := hbd.2; unfold Hid; simp at this; omega
      rw [hp] at HR
      clear hp hbd
      go_enter Tryz.func152, Tryz.ntmps152
      go_wp2_with fail
      refine (Tryz.strings_TrimPrefix s ⟨#[45]⟩ _).mono ?_
      rintro e w' ⟨rfl, rfl⟩
      go_wp2_with fail
      refine (Tryz.strconv_ParseInt_10_at64_ok s (by omega) v HP.out _).mono ?_
      rintro e w1 ⟨rfl, hw1⟩
      have HB3 : Hid (Below w'.heap.size w' w1) := by
        rcases hw1 with rfl | ⟨t, rfl⟩
        · exact Below.refl _ _
        · exact Lib.bytesWorld_below _ _ _
      clear hw1
      go_wp2_with fail
      refine (Decimal_any v _ HB1.out HB2.out (G.out.below HB3.out)).mono ?_
      rintro e w2 ⟨rfl, hb2⟩
      have HB4 := Lib.hid hb2
      clear hb2
      by_cases hq : Lib.itoa v = s.data.toList
      · have HF : Hid (readDec s.data.toList = some v) := by unfold Hid; rw [HR.out, if_pos hq]
        go_wp2_with fail
        go_ret2
        unfold RetDec
        rw [HF.out]
        exact ⟨rfl, HB3.out.trans (HB4.out.mono HB3.out.size)⟩
      · have HF : Hid (readDec s.data.toList = none) := by unfold Hid; rw [HR.out, if_neg hq]
        have hq' : (!Lib.itoa v == s.toList) = true := by rw [Lib.toList_data]; simpa using hq
        go_wp2_with fail
        go_ret2
        unfold RetDec
        rw [HF.out]
        exact ⟨rfl, HB3.out.trans (HB4.out.mono HB3.out.size)⟩
    · have HP := Lib.hid hp
      rw [hp] at HR
      clear hp
      obtain ⟨ev, hv, hev⟩ := G.out.syn
      have HV := Lib.hid hv
      have HE := Lib.hid hev
      clear hv hev
      go_enter Tryz.func152, Tryz.ntmps152
      go_wp2_with fail
      refine (Tryz.strings_TrimPrefix s ⟨#[45]⟩ _).mono ?_
      rintro e w' ⟨rfl, rfl⟩
      go_wp2_with fail
      refine (Any.strconv_ParseInt_10_at64_syntax Tryz.laysC174 s (by omega) HP.out ev _ HV.out HE.out).mono ?_
      rintro e w1 ⟨N, rfl, -, -, hb⟩
      have HB3 := Lib.hid hb
      clear hb
      go_wp2_with fail
      go_ret2
      unfold RetDec
      rw [HR.out]
      exact ⟨rfl, HB3.out⟩
    · have HP := Lib.hid hp
      rw [hp] at HR
      clear hp
      obtain ⟨ev, hv, hev⟩ := G.out.rng
      have HV := Lib.hid hv
      have HE := Lib.hid hev
      clear hv hev
      go_enter Tryz.func152, Tryz.ntmps152
      go_wp2_with fail
      refine (Tryz.strings_TrimPrefix s ⟨#[45]⟩ _).mono ?_
      rintro e w' ⟨rfl, rfl⟩
      go_wp2_with fail
      refine (Tryz.strconv_ParseInt_10_at64_range s (by omega) HP.out ev _ HV.out HE.out).mono ?_
      rintro e w1 ⟨N, rfl, -, -, hb⟩
      have HB3 := Lib.hid hb
      clear hb
      go_wp2_with fail
      go_ret2
      unfold RetDec
      rw [HR.out]
      exact ⟨rfl, HB3.out⟩

end Go.Proofs.YtbbffbnfppbibaaGreatDoor

namespace Go.Proofs.YtbbffbnfppbibaaGreatDoor
open Go Go.RowKit

/-! A plant, a supervisor and a requirement: the triples of states that are reached, and those from which a marked one is reached. Plain definitions; no program in sight. -/

structure Tri where
  x : Int
  y : Int
  z : Int
  deriving DecidableEq

def labIn (t : Lts) (l : ByteArray) : Bool := t.labels.any fun s => s.toList == l.toList
/-- Does a system let a label go along? And the state that it is in then. -/
def alongB (t : Lts) (k : Int) (l : ByteArray) : Bool := !labIn t l || decide (0 ≤ goTo t k l)
def alongV (t : Lts) (k : Int) (l : ByteArray) : Int := if labIn t l then goTo t k l else k

structure Net where
  rows : List Tri
  edges : List (Nat × Nat)

def place (rows : List Tri) (r : Tri) : Nat := rows.findIdx fun q => q == r
def addRow (rows : List Tri) (r : Tri) : List Tri := if place rows r < rows.length then rows else rows ++ [r]

/-- One edge of the plant, from the triple number n on. -/
def edgeStep (p s r : Lts) (ctl : ByteArray → Bool) (n : Nat) (cur : Tri) (st : Net) (e : Edge) : Option Net :=
  if alongB s cur.y (labAt p e) = true then
    if alongB r cur.z (labAt p e) = true then
      some ⟨addRow st.rows ⟨e.dst, alongV s cur.y (labAt p e), alongV r cur.z (labAt p e)⟩, st.edges ++ [(n, place st.rows ⟨e.dst, alongV s cur.y (labAt p e), alongV r cur.z (labAt p e)⟩)]⟩
    else none
  else if ctl (labAt p e) = true then some st else none
/-- All edges of a list, or none where one fails. -/
def edgesStep (p s r : Lts) (ctl : ByteArray → Bool) (n : Nat) (cur : Tri) : List Edge → Net → Option Net
  | [], st => some st
  | e :: l, st => (edgeStep p s r ctl n cur st e).bind (edgesStep p s r ctl n cur l)
def expand (p s r : Lts) (ctl : ByteArray → Bool) (n : Nat) (st : Net) : Option Net :=
  match st.rows[n]? with
  | none => some st
  | some cur => edgesStep p s r ctl n cur (outOf p cur.x) st
def stateAt (p s r : Lts) (ctl : ByteArray → Bool) : Nat → Option Net
  | 0 => some ⟨[⟨p.initial, s.initial, r.initial⟩], []⟩
  | n + 1 => (stateAt p s r ctl n).bind (expand p s r ctl n)

/-- The search has come to triple number n, and not to an end before. -/
def Come (p s r : Lts) (ctl : ByteArray → Bool) (n : Nat) (st : Net) : Prop := stateAt p s r ctl n = some st ∧ ∀ k st', k < n → stateAt p s r ctl k = some st' → k < st'.rows.length
/-- The search fails at triple number n. -/
def FailAt (p s r : Lts) (ctl : ByteArray → Bool) (n : Nat) : Prop := ∃ st, Come p s r ctl n st ∧ n < st.rows.length ∧ expand p s r ctl n st = none
/-- The search has found all. -/
def FoundAll (p s r : Lts) (ctl : ByteArray → Bool) (st : Net) : Prop := ∃ n, Come p s r ctl n st ∧ st.rows.length = n

theorem stateAt_none {p s r : Lts} {ctl : ByteArray → Bool} {n : Nat} (h : stateAt p s r ctl n = none) (k : Nat) : stateAt p s r ctl (n + k) = none := by
  induction k with
  | zero => exact h
  | succ k ih => rw [← Nat.add_assoc, stateAt, ih]; rfl
theorem Come.zero (p s r : Lts) (ctl : ByteArray → Bool) : Come p s r ctl 0 ⟨[⟨p.initial, s.initial, r.initial⟩], []⟩ := ⟨rfl, fun _ _ h => by omega⟩
theorem Come.succ {p s r : Lts} {ctl : ByteArray → Bool} {n : Nat} {st st' : Net} (h : Come p s r ctl n st) (hn : n < st.rows.length) (he : expand p s r ctl n st = some st') : Come p s r ctl (n + 1) st' := by
  refine ⟨by rw [stateAt, h.1]; exact he, fun k sk hk hs => ?_⟩
  by_cases e : k = n
  · subst e
    rw [h.1] at hs
    cases hs
    exact hn
  · exact h.2 k sk (by omega) hs
theorem FoundAll.unique {p s r : Lts} {ctl : ByteArray → Bool} {a b : Net} (ha : FoundAll p s r ctl a) (hb : FoundAll p s r ctl b) : a = b := by
  obtain ⟨m, hm, lm⟩ := ha
  obtain ⟨n, hn, ln⟩ := hb
  rcases Nat.lt_trichotomy m n with h | h | h
  · have := hn.2 m a h hm.1; omega
  · subst h
    have := hm.1.symm.trans hn.1
    cases this
    rfl
  · have := hm.2 n b h hn.1; omega
theorem FoundAll.not_fail {p s r : Lts} {ctl : ByteArray → Bool} {a : Net} (ha : FoundAll p s r ctl a) (n : Nat) : ¬ FailAt p s r ctl n := by
  rintro ⟨st, hc, hlt, he⟩
  obtain ⟨m, hm, lm⟩ := ha
  rcases Nat.lt_trichotomy m n with h | h | h
  · have := hc.2 m a h hm.1; omega
  · subst h
    have := hm.1.symm.trans hc.1
    cases this
    omega
  · have h1 : stateAt p s r ctl (n + 1) = none := by rw [stateAt, hc.1]; exact he
    have h2 := stateAt_none h1 (m - (n + 1))
    rw [show n + 1 + (m - (n + 1)) = m from by omega, hm.1] at h2
    cases h2

/-- From a row edges lead to a marked one. -/
inductive Co (edges : List (Nat × Nat)) (mk : Nat → Bool) : Nat → Prop
  | here {i : Nat} (h : mk i = true) : Co edges mk i
  | step {a b : Nat} (h : (a, b) ∈ edges) (hb : Co edges mk b) : Co edges mk a

theorem Co.closed {edges : List (Nat × Nat)} {mk : Nat → Bool} {good : Nat → Prop} (h1 : ∀ i, mk i = true → good i) (h2 : ∀ a b, (a, b) ∈ edges → good b → good a) {i : Nat} (h : Co edges mk i) : good i := by
  induction h with
  | here h => exact h1 _ h
  | step h _ ih => exact h2 _ _ h ih

/-- Numbers below n, no two the same: at most n. -/
theorem nodup_lt : ∀ (n : Nat) (l : List Nat), l.Nodup → (∀ x ∈ l, x < n) → l.length ≤ n
  | 0, l, _, h => by
    cases l with
    | nil => simp
    | cons a r => exact absurd (h a (by simp)) (by omega)
  | n + 1, l, hd, h => by
    have h1 := nodup_lt n (l.filter fun x => x != n) (hd.filter _) (fun x hx => by
      rw [List.mem_filter] at hx
      have := h x hx.1
      have h2 : x ≠ n := by simpa using hx.2
      omega)
    have h2 : l.length ≤ (l.filter fun x => x != n).length + 1 := by
      clear h1 h
      induction l with
      | nil => simp
      | cons a r ih =>
        rw [List.nodup_cons] at hd
        by_cases e : a = n
        · subst e
          have : r.filter (fun x => x != a) = r := by
            rw [List.filter_eq_self]
            intro x hx
            have : x ≠ a := fun e => hd.1 (e ▸ hx)
            simpa using this
          simp [this]
        · have := ih hd.2
          simp [e]
          omega
    omega

def InBox (q : Tri) : Prop := (0 ≤ q.x ∧ q.x < 40) ∧ (0 ≤ q.y ∧ q.y < 40) ∧ (0 ≤ q.z ∧ q.z < 40)
def codeT (q : Tri) : Nat := ((q.x * 40 + q.y) * 40 + q.z).toNat
theorem codeT_lt {q : Tri} (h : InBox q) : codeT q < 64000 := by unfold codeT; unfold InBox at h; omega
theorem codeT_inj {a b : Tri} (ha : InBox a) (hb : InBox b) (h : codeT a = codeT b) : a = b := by
  obtain ⟨x, y, z⟩ := a
  obtain ⟨u, v, w⟩ := b
  unfold codeT at h
  unfold InBox at ha hb
  simp only at *
  have h1 : z = w := by omega
  have h2 : y = v := by omega
  have h3 : x = u := by omega
  rw [h1, h2, h3]
theorem rows_bound {l : List Tri} (hd : l.Nodup) (h : ∀ q ∈ l, InBox q) : l.length ≤ 64000 := by
  have h1 : (l.map codeT).Nodup := by
    rw [List.nodup_iff_pairwise_ne, List.pairwise_map]
    refine List.Pairwise.imp_of_mem ?_ (List.nodup_iff_pairwise_ne.1 hd)
    intro a b ha hb hne e
    exact hne (codeT_inj (h a ha) (h b hb) e)
  have := nodup_lt 64000 (l.map codeT) h1 (fun x hx => by
    obtain ⟨q, hq, rfl⟩ := List.mem_map.1 hx
    exact codeT_lt (h q hq))
  simpa using this


/-! From which rows edges lead to a marked one: by sweeps over the edges, and by a queue. Plain laws. -/

def falses (l : List Bool) : Nat := l.countP (fun b => !b)
theorem falses_le (l : List Bool) : falses l ≤ l.length := List.countP_le_length
theorem falses_set : ∀ {l : List Bool} {i : Nat}, l[i]? = some false → falses (l.set i true) + 1 = falses l
  | [], i, h => by simp at h
  | b :: l, 0, h => by
    simp only [List.getElem?_cons_zero, Option.some.injEq] at h
    subst h
    simp [falses]
  | b :: l, i + 1, h => by
    simp only [List.getElem?_cons_succ] at h
    have := falses_set h
    unfold falses at *
    rw [List.set_cons_succ, List.countP_cons, List.countP_cons]
    omega

/-- The rows known so far are right, and the marked ones are known. -/
structure CoOk (edges : List (Nat × Nat)) (mk : Nat → Bool) (good : List Bool) : Prop where
  sound : ∀ i, good[i]? = some true → Co edges mk i
  marked : ∀ i, mk i = true → good[i]? = some true

def CoDone (edges : List (Nat × Nat)) (good : List Bool) : Prop := ∀ a b, (a, b) ∈ edges → good[b]? = some true → good[a]? = some true

theorem CoOk.iff {edges : List (Nat × Nat)} {mk : Nat → Bool} {good : List Bool} (h : CoOk edges mk good) (hd : CoDone edges good) (i : Nat) : good[i]? = some true ↔ Co edges mk i :=
  ⟨h.sound i, fun hc => hc.closed (good := fun i => good[i]? = some true) h.marked hd⟩

theorem set_true_get {good : List Bool} {a i : Nat} (ha : a < good.length) : (good.set a true)[i]? = some true ↔ i = a ∨ good[i]? = some true := by
  by_cases e : i = a
  · subst e
    rw [List.getElem?_set_self ha]
    simp
  · rw [List.getElem?_set_ne (Ne.symm e)]
    simp [e]

theorem CoOk.set {edges : List (Nat × Nat)} {mk : Nat → Bool} {good : List Bool} (h : CoOk edges mk good) {a b : Nat} (he : (a, b) ∈ edges) (hb : good[b]? = some true) (ha : a < good.length) : CoOk edges mk (good.set a true) where
  sound i hi := by
    rcases (set_true_get ha).1 hi with rfl | hi
    · exact .step he (h.sound b hb)
    · exact h.sound i hi
  marked i hi := (set_true_get ha).2 (.inr (h.marked i hi))

/-- One sweep over the edges, up to the edge number k. -/
structure Sweep (edges : List (Nat × Nat)) (mk : Nat → Bool) (good0 good : List Bool) (k : Nat) (more : Bool) : Prop where
  ok : CoOk edges mk good
  len : good.length = good0.length
  le : falses good ≤ falses good0
  no : more = false → good = good0 ∧ ∀ i (h : i < edges.length), i < k → good[edges[i].2]? = some true → good[edges[i].1]? = some true
  yes : more = true → falses good < falses good0

theorem Sweep.start {edges : List (Nat × Nat)} {mk : Nat → Bool} {good : List Bool} (h : CoOk edges mk good) : Sweep edges mk good good 0 false :=
  ⟨h, rfl, Nat.le_refl _, fun _ => ⟨rfl, fun _ _ h => absurd h (by omega)⟩, fun h => by cases h⟩
theorem Sweep.turn {edges : List (Nat × Nat)} {mk : Nat → Bool} {good0 good : List Bool} {k : Nat} {more : Bool} (h : Sweep edges mk good0 good k more) (hk : k < edges.length) (h2 : good[edges[k].2]? = some true) (h1 : good[edges[k].1]? = some false) :
    Sweep edges mk good0 (good.set edges[k].1 true) (k + 1) true where
  ok := h.ok.set (a := edges[k].1) (b := edges[k].2) (by exact List.getElem_mem hk) h2 (List.getElem?_eq_some_iff.1 h1).1
  len := by rw [List.length_set]; exact h.len
  le := by have := falses_set h1; have := h.le; omega
  no := fun e => by cases e
  yes := fun _ => by have := falses_set h1; have := h.le; omega
theorem Sweep.skip {edges : List (Nat × Nat)} {mk : Nat → Bool} {good0 good : List Bool} {k : Nat} {more : Bool} (h : Sweep edges mk good0 good k more) (hk : k < edges.length) (h1 : good[edges[k].2]? = some true → good[edges[k].1]? = some true) :
    Sweep edges mk good0 good (k + 1) more where
  ok := h.ok
  len := h.len
  le := h.le
  no := fun e => ⟨(h.no e).1, fun i hi hlt => by
    by_cases e1 : i = k
    · subst e1; exact h1
    · exact (h.no e).2 i hi (by omega)⟩
  yes := h.yes
theorem Sweep.done {edges : List (Nat × Nat)} {mk : Nat → Bool} {good0 good : List Bool} (h : Sweep edges mk good0 good edges.length false) : CoDone edges good := by
  intro a b hm hb
  obtain ⟨i, hi, e⟩ := List.mem_iff_getElem.1 hm
  have := (h.no rfl).2 i hi hi
  rw [e] at this
  exact this hb

/-- The rows from which an edge leads to row n. -/
def backOf (edges : List (Nat × Nat)) (n : Nat) : List Nat := (edges.filter fun e => e.2 == n).map (·.1)
theorem mem_backOf {edges : List (Nat × Nat)} {n a : Nat} : a ∈ backOf edges n ↔ (a, n) ∈ edges := by
  unfold backOf
  simp only [List.mem_map, List.mem_filter, beq_iff_eq]
  constructor
  · rintro ⟨⟨x, y⟩, ⟨h1, h2⟩, h3⟩
    simp only at h2 h3
    subst h2 h3
    exact h1
  · exact fun h => ⟨(a, n), ⟨h, rfl⟩, rfl⟩
theorem backOf_append (edges : List (Nat × Nat)) (a b n : Nat) : backOf (edges ++ [(a, b)]) n = if b = n then backOf edges n ++ [a] else backOf edges n := by
  unfold backOf
  rw [List.filter_append, List.map_append]
  by_cases e : b = n
  · simp [e]
  · simp [e]

/-- The queue: what is known and not in it has been followed back; of row i only the first j rows. -/
structure Queue (edges : List (Nat × Nat)) (mk : Nat → Bool) (good : List Bool) (todo : List Nat) (i j : Nat) : Prop where
  ok : CoOk edges mk good
  known : ∀ b ∈ todo, good[b]? = some true
  back : ∀ a b, (a, b) ∈ edges → good[b]? = some true → b ∉ todo → (b = i → a ∈ (backOf edges i).take j) → good[a]? = some true

theorem Queue.done {edges : List (Nat × Nat)} {mk : Nat → Bool} {good : List Bool} {i : Nat} (h : Queue edges mk good [] i (backOf edges i).length) : CoDone edges good :=
  fun a b he hb => h.back a b he hb (by simp) (fun e => by rw [List.take_length]; exact mem_backOf.2 (e ▸ he))
theorem Queue.pop {edges : List (Nat × Nat)} {mk : Nat → Bool} {good : List Bool} {i n : Nat} {todo : List Nat} (h : Queue edges mk good (n :: todo) i (backOf edges i).length) : Queue edges mk good todo n 0 where
  ok := h.ok
  known b hb := h.known b (by simp [hb])
  back a b he hb hn hi := by
    by_cases e : b = n
    · have := hi e
      simp at this
    · exact h.back a b he hb (by simp [e, hn]) (fun e => by rw [List.take_length]; exact mem_backOf.2 (e ▸ he))
theorem take_succ_mem {l : List Nat} {j a : Nat} (hj : j < l.length) (h : a ∈ l.take (j + 1)) : a ∈ l.take j ∨ a = l[j] := by
  rw [List.take_succ_eq_append_getElem hj, List.mem_append, List.mem_singleton] at h
  exact h
theorem Queue.skip {edges : List (Nat × Nat)} {mk : Nat → Bool} {good : List Bool} {i j : Nat} {todo : List Nat} (h : Queue edges mk good todo i j) (hj : j < (backOf edges i).length) (hg : good[(backOf edges i)[j]]? = some true) : Queue edges mk good todo i (j + 1) where
  ok := h.ok
  known := h.known
  back a b he hb hn hi := by
    by_cases e : b = i
    · rcases take_succ_mem hj (hi e) with h1 | h1
      · exact h.back a b he hb hn (fun _ => h1)
      · rw [h1]; exact hg
    · exact h.back a b he hb hn (fun e' => absurd e' e)
theorem Queue.push {edges : List (Nat × Nat)} {mk : Nat → Bool} {good : List Bool} {i j : Nat} {todo : List Nat} (h : Queue edges mk good todo i j) (hj : j < (backOf edges i).length) (hi : good[i]? = some true) (hg : good[(backOf edges i)[j]]? = some false) :
    Queue edges mk (good.set (backOf edges i)[j] true) (todo ++ [(backOf edges i)[j]]) i (j + 1) where
  ok := h.ok.set (mem_backOf.1 (List.getElem_mem hj)) hi (List.getElem?_eq_some_iff.1 hg).1
  known b hb := by
    rw [List.mem_append, List.mem_singleton] at hb
    exact (set_true_get (List.getElem?_eq_some_iff.1 hg).1).2 (hb.elim (fun h' => .inr (h.known b h')) .inl)
  back a b he hb hn hc := by
    rw [List.mem_append, List.mem_singleton, not_or] at hn
    have hl := (List.getElem?_eq_some_iff.1 hg).1
    rcases (set_true_get hl).1 hb with h1 | h1
    · exact absurd h1 hn.2
    · refine (set_true_get hl).2 ?_
      by_cases e : b = i
      · rcases take_succ_mem hj (hc e) with h2 | h2
        · exact .inr (h.back a b he h1 hn.1 (fun _ => h2))
        · exact .inl h2
      · exact .inr (h.back a b he h1 hn.1 (fun e' => absurd e' e))


/-! Plants: what makes one valid; which labels are controlled; when a supervisor controls one. Plain definitions; no program in sight. -/

structure Plant where
  sys : Lts
  marks : List Int
  names : List ByteArray

/-- Numbers that rise, from 0 up to below n. -/
structure Rises (l : List Int) (n : Int) : Prop where
  low : ∀ i (h : i < l.length), 0 ≤ l[i]
  high : ∀ i (h : i < l.length), l[i] < n
  rise : ∀ i (h : i + 1 < l.length), l[i] < l[i + 1]
/-- At most twelve names of actions that rise. -/
structure NamesOk (l : List ByteArray) : Prop where
  most : l.length ≤ 12
  action : ∀ i (h : i < l.length), isAction l[i].data.toList = true
  rise : ∀ i (h : i + 1 < l.length), strLess l[i] l[i + 1] = true
structure Free (t : Lts) : Prop where
  valid : Valid t
  single : Single t
structure PlantOk (p : Plant) : Prop where
  free : Free p.sys
  marks : Rises p.marks p.sys.states
  names : NamesOk p.names

/-- The name of a label. -/
def labName (l : ByteArray) : List UInt8 := l.data.toList.take (openAt l.data.toList)
def ctlOf (p : Plant) (l : ByteArray) : Bool := p.names.any fun s => s.data.toList == labName l
def markOf (p : Plant) (rows : List Tri) (i : Nat) : Bool :=
  match rows[i]? with
  | none => false
  | some q => p.marks.contains q.x

/-- The supervisor s controls the plant for the requirement r. -/
def Controls (p : Plant) (r s : Lts) : Prop := ∃ st, FoundAll p.sys s r (ctlOf p) st ∧ ∀ i, i < st.rows.length → Co st.edges (markOf p st.rows) i
def Supervises (p : Plant) (r s : Lts) : Prop := PlantOk p ∧ Free r ∧ Free s ∧ Controls p r s

theorem Controls.not_fail {p : Plant} {r s : Lts} {n : Nat} (h : FailAt p.sys s r (ctlOf p) n) : ¬ Controls p r s := fun ⟨_, hf, _⟩ => hf.not_fail n h
theorem Controls.iff {p : Plant} {r s : Lts} {st : Net} (h : FoundAll p.sys s r (ctlOf p) st) : Controls p r s ↔ ∀ i, i < st.rows.length → Co st.edges (markOf p st.rows) i :=
  ⟨fun ⟨st', hf, ha⟩ => by rw [h.unique hf]; exact ha, fun ha => ⟨st, h, ha⟩⟩
/-- What both texts know in the end: good holds of all rows exactly if the supervisor controls. -/
theorem controls_good {p : Plant} {r s : Lts} {st : Net} {good : List Bool} (h : FoundAll p.sys s r (ctlOf p) st) (hl : good.length = st.rows.length) (hc : CoOk st.edges (markOf p st.rows) good) (hd : CoDone st.edges good) :
    Controls p r s ↔ ∀ i (h : i < good.length), good[i] = true := by
  rw [Controls.iff h]
  constructor
  · intro ha i hi
    have := (hc.iff hd i).2 (ha i (by omega))
    rw [List.getElem?_eq_getElem hi] at this
    exact Option.some.inj this
  · intro ha i hi
    refine (hc.iff hd i).1 ?_
    rw [List.getElem?_eq_getElem (by omega)]
    exact congrArg some (ha i (by omega))

/-! ### what holds on the way of the search -/
theorem place_le (rows : List Tri) (q : Tri) : place rows q ≤ rows.length := by unfold place; exact List.findIdx_le_length
theorem place_lt {rows : List Tri} {q : Tri} : place rows q < rows.length ↔ q ∈ rows := by
  unfold place
  rw [List.findIdx_lt_length]
  simp
theorem place_get {rows : List Tri} {q : Tri} (h : place rows q < rows.length) : rows[place rows q] = q := by
  have := List.findIdx_getElem (p := fun q' => q' == q) (xs := rows) (w := h)
  exact eq_of_beq this
theorem addRow_old {rows : List Tri} {q : Tri} (h : q ∈ rows) : addRow rows q = rows := by unfold addRow; rw [if_pos (place_lt.2 h)]
theorem addRow_new {rows : List Tri} {q : Tri} (h : q ∉ rows) : addRow rows q = rows ++ [q] ∧ place rows q = rows.length := by
  have h1 : ¬ place rows q < rows.length := fun h' => h (place_lt.1 h')
  have := place_le rows q
  exact ⟨by unfold addRow; rw [if_neg h1], by omega⟩

/-- The rows are within the three systems and no two are the same; the edges lead between rows. -/
structure NetOk (p s r : Lts) (st : Net) : Prop where
  pos : 0 < st.rows.length
  nodup : st.rows.Nodup
  inside : ∀ q ∈ st.rows, (0 ≤ q.x ∧ q.x < p.states) ∧ (0 ≤ q.y ∧ q.y < s.states) ∧ (0 ≤ q.z ∧ q.z < r.states)
  ends : ∀ e ∈ st.edges, e.1 < st.rows.length ∧ e.2 < st.rows.length

theorem NetOk.few {p s r : Lts} {st : Net} (h : NetOk p s r st) (hp : Valid p) (hs : Valid s) (hr : Valid r) : st.rows.length ≤ 64000 :=
  rows_bound h.nodup fun q hq => by
    have h1 := h.inside q hq
    have h2 := hp.st1
    have h3 := hs.st1
    have h4 := hr.st1
    unfold InBox
    omega

theorem NetOk.zero {p s r : Lts} (hp : Valid p) (hs : Valid s) (hr : Valid r) : NetOk p s r ⟨[⟨p.initial, s.initial, r.initial⟩], []⟩ where
  pos := by simp
  nodup := by simp
  inside q hq := by
    rw [List.mem_singleton] at hq
    subst hq
    exact ⟨⟨hp.in0, hp.in1⟩, ⟨hs.in0, hs.in1⟩, hr.in0, hr.in1⟩
  ends e he := by simp at he

theorem alongV_in {t : Lts} (ht : Valid t) {k : Int} (h0 : 0 ≤ k) (h1 : k < t.states) {l : ByteArray} (h : alongB t k l = true) : 0 ≤ alongV t k l ∧ alongV t k l < t.states := by
  unfold alongB at h
  unfold alongV
  cases hl : labIn t l with
  | false => rw [if_neg (by simp)]; exact ⟨h0, h1⟩
  | true =>
    rw [if_pos rfl]
    rw [hl] at h
    exact ⟨by simpa using h, (goTo_range ht k l).2⟩

theorem NetOk.edge {p s r : Lts} {ctl : ByteArray → Bool} {n : Nat} {cur : Tri} {st st' : Net} {e : Edge} (h : NetOk p s r st) (hp : Valid p) (hs : Valid s) (hr : Valid r) (hn : n < st.rows.length) (hc : cur ∈ st.rows) (he : e ∈ p.edges)
    (hst : edgeStep p s r ctl n cur st e = some st') : NetOk p s r st' ∧ st.rows.length ≤ st'.rows.length ∧ st'.edges.length ≤ st.edges.length + 1 := by
  unfold edgeStep at hst
  by_cases h1 : alongB s cur.y (labAt p e) = true
  · rw [if_pos h1] at hst
    by_cases h2 : alongB r cur.z (labAt p e) = true
    · rw [if_pos h2] at hst
      obtain ⟨i, hi, rfl⟩ := List.mem_iff_getElem.1 he
      have hin := h.inside cur hc
      have hd := hp.edge i hi
      have a1 := alongV_in hs hin.2.1.1 hin.2.1.2 h1
      have a2 := alongV_in hr hin.2.2.1 hin.2.2.2 h2
      have b1 := hd.d0
      have b2 := hd.d1
      generalize hq : (⟨p.edges[i].dst, alongV s cur.y (labAt p p.edges[i]), alongV r cur.z (labAt p p.edges[i])⟩ : Tri) = q at hst
      have hqi : (0 ≤ q.x ∧ q.x < p.states) ∧ (0 ≤ q.y ∧ q.y < s.states) ∧ (0 ≤ q.z ∧ q.z < r.states) := by subst hq; exact ⟨⟨b1, b2⟩, a1, a2⟩
      cases hst
      by_cases hm : q ∈ st.rows
      · refine ⟨⟨?_, ?_, ?_, ?_⟩, ?_, by simp⟩ <;> simp only [addRow_old hm]
        · exact h.pos
        · exact h.nodup
        · exact h.inside
        · intro e' he'
          rw [List.mem_append, List.mem_singleton] at he'
          rcases he' with he' | rfl
          · exact h.ends e' he'
          · exact ⟨hn, place_lt.2 hm⟩
        · exact Nat.le_refl _
      · obtain ⟨k1, k2⟩ := addRow_new hm
        refine ⟨⟨?_, ?_, ?_, ?_⟩, ?_, by simp⟩ <;> simp only [k1, k2, List.length_append, List.length_singleton]
        · omega
        · rw [List.nodup_append]
          refine ⟨h.nodup, by simp, ?_⟩
          intro a ha b hb
          rw [List.mem_singleton] at hb
          subst hb
          exact fun e => hm (e ▸ ha)
        · intro q' hq'
          rw [List.mem_append, List.mem_singleton] at hq'
          rcases hq' with hq' | rfl
          · exact h.inside q' hq'
          · exact hqi
        · intro e' he'
          rw [List.mem_append, List.mem_singleton] at he'
          rcases he' with he' | rfl
          · have := h.ends e' he'
            omega
          · exact ⟨by simp only; omega, by simp⟩
        · omega
    · rw [if_neg h2] at hst
      cases hst
  · rw [if_neg h1] at hst
    by_cases h2 : ctl (labAt p e) = true
    · rw [if_pos h2] at hst
      cases hst
      exact ⟨h, Nat.le_refl _, by omega⟩
    · rw [if_neg h2] at hst
      cases hst


/-! The search over triples, edge for edge: how far it has come, and what holds there. Plain laws. -/

section
variable {p s r : Lts} {ctl : ByteArray → Bool}

theorem edgesStep_append (n : Nat) (cur : Tri) : ∀ (a b : List Edge) (st : Net), edgesStep p s r ctl n cur (a ++ b) st = (edgesStep p s r ctl n cur a st).bind (edgesStep p s r ctl n cur b)
  | [], _, _ => rfl
  | e :: a, b, st => by
    rw [List.cons_append, edgesStep, edgesStep]
    cases h : edgeStep p s r ctl n cur st e with
    | none => rfl
    | some st1 => exact edgesStep_append n cur a b st1

/-- At the edge number j of the triple number n: the net st there. -/
structure Mid (p s r : Lts) (ctl : ByteArray → Bool) (n : Nat) (cur : Tri) (j : Nat) (st : Net) : Prop where
  ok : NetOk p s r st
  lt : n < st.rows.length
  here : st.rows[n]? = some cur
  few : st.edges.length ≤ n * 300 + j
  from0 : ∃ st0, Come p s r ctl n st0 ∧ n < st0.rows.length ∧ st0.rows[n]? = some cur ∧ edgesStep p s r ctl n cur ((outOf p cur.x).take j) st0 = some st

/-- Between two triples. -/
structure At (p s r : Lts) (ctl : ByteArray → Bool) (n : Nat) (st : Net) : Prop where
  ok : NetOk p s r st
  le : n ≤ st.rows.length
  few : st.edges.length ≤ n * 300
  come : Come p s r ctl n st

theorem At.zero (hp : Valid p) (hs : Valid s) (hr : Valid r) : At p s r ctl 0 ⟨[⟨p.initial, s.initial, r.initial⟩], []⟩ := ⟨NetOk.zero hp hs hr, by simp, by simp, Come.zero p s r ctl⟩
set_option maxRecDepth 100000 in
theorem At.mid {n : Nat} {st : Net} (h : At p s r ctl n st) (hn : n < st.rows.length) : Mid p s r ctl n st.rows[n] 0 st :=
  ⟨h.ok, hn, List.getElem?_eq_getElem hn, h.few, st, h.come, hn, List.getElem?_eq_getElem hn, rfl⟩

theorem edgeStep_rows {n : Nat} {cur : Tri} {st st' : Net} {e : Edge} (h : edgeStep p s r ctl n cur st e = some st') : ∀ i, i < st.rows.length → st'.rows[i]? = st.rows[i]? := by
  intro i hi
  unfold edgeStep at h
  split at h
  · split at h
    · cases h
      simp only
      unfold addRow
      split
      · rfl
      · rw [List.getElem?_append_left hi]
    · cases h
  · split at h
    · cases h; rfl
    · cases h

theorem Mid.next {n j : Nat} {cur : Tri} {st st' : Net} (h : Mid p s r ctl n cur j st) (hp : Valid p) (hs : Valid s) (hr : Valid r) (hj : j < (outOf p cur.x).length) (he : edgeStep p s r ctl n cur st (outOf p cur.x)[j] = some st') : Mid p s r ctl n cur (j + 1) st' := by
  obtain ⟨st0, h1, h2, h3, h4⟩ := h.from0
  have hm : (outOf p cur.x)[j] ∈ p.edges := (List.mem_filter.1 (List.getElem_mem hj)).1
  obtain ⟨k1, k2, k3⟩ := h.ok.edge hp hs hr h.lt (List.mem_of_getElem? h.here) hm he
  refine ⟨k1, by have := h.lt; omega, by rw [edgeStep_rows he n h.lt]; exact h.here, by have := h.few; omega, st0, h1, h2, h3, ?_⟩
  rw [List.take_succ_eq_append_getElem hj, edgesStep_append, h4]
  simp only [Option.bind_some, edgesStep, he]
theorem Mid.fail {n j : Nat} {cur : Tri} {st : Net} (h : Mid p s r ctl n cur j st) (hj : j < (outOf p cur.x).length) (he : edgeStep p s r ctl n cur st (outOf p cur.x)[j] = none) : FailAt p s r ctl n := by
  obtain ⟨st0, h1, h2, h3, h4⟩ := h.from0
  refine ⟨st0, h1, h2, ?_⟩
  unfold expand
  rw [h3]
  simp only
  have : outOf p cur.x = (outOf p cur.x).take j ++ (outOf p cur.x)[j] :: (outOf p cur.x).drop (j + 1) := by
    rw [← List.drop_eq_getElem_cons hj, List.take_append_drop]
  rw [this, edgesStep_append, h4]
  simp only [Option.bind_some, edgesStep, he, Option.bind_none]
theorem out_few (hp : Valid p) (k : Int) : (outOf p k).length ≤ 300 := Nat.le_trans (List.length_filter_le _ _) hp.most
theorem Mid.done {n : Nat} {cur : Tri} {st : Net} (h : Mid p s r ctl n cur (outOf p cur.x).length st) (hp : Valid p) : At p s r ctl (n + 1) st := by
  obtain ⟨st0, h1, h2, h3, h4⟩ := h.from0
  rw [List.take_length] at h4
  refine ⟨h.ok, h.lt, ?_, h1.succ h2 ?_⟩
  · have := h.few
    have := out_few hp cur.x
    omega
  · unfold expand
    rw [h3]
    exact h4
theorem At.found {n : Nat} {st : Net} (h : At p s r ctl n st) (hn : ¬ n < st.rows.length) : FoundAll p s r ctl st := ⟨n, h.come, by have := h.le; omega⟩
end


/-! How a plant lies in memory. -/

/-- A pointer to a plant: its system first, then its two slices. -/
def PlantPtr (lo : Nat) (w : World) (b : Nat) (p : Plant) : Prop :=
  ∃ mv nv, LtsPtr lo w b p.sys ∧ w.cell? ⟨b, 4, none⟩ = some mv ∧ w.cell? ⟨b, 5, none⟩ = some nv ∧ SliceK 1 encI lo w mv p.marks ∧ SliceK 1 encS lo w nv p.names

theorem PlantPtr.below {lo : Nat} {w w' : World} {b : Nat} {p : Plant} (h : PlantPtr lo w b p) (hb : Below w.heap.size w w') : PlantPtr lo w' b p := by
  obtain ⟨mv, nv, h1, h2, h3, h4, h5⟩ := h
  have h6 : b < w.heap.size := by obtain ⟨_, _, h, _⟩ := h1; exact h
  exact ⟨mv, nv, h1.below hb, keeps hb h6 h2, keeps hb h6 h3, h4.below hb, h5.below hb⟩

/-- The value of a plant (a struct of six cells). -/
def PlantAt (lo : Nat) (w : World) (v : Value) (p : Plant) : Prop :=
  ∃ lv ev mv nv, v = .agg #[.int .i64 p.sys.states, .int .i64 p.sys.initial, lv, ev, mv, nv] ∧ SliceK 1 encS lo w lv p.sys.labels ∧ SliceK 3 encE lo w ev p.sys.edges ∧ SliceK 1 encI lo w mv p.marks ∧ SliceK 1 encS lo w nv p.names

theorem PlantAt.below {lo : Nat} {w w' : World} {v : Value} {p : Plant} (h : PlantAt lo w v p) (hb : Below w.heap.size w w') : PlantAt lo w' v p := by
  obtain ⟨lv, ev, mv, nv, h1, h2, h3, h4, h5⟩ := h
  exact ⟨lv, ev, mv, nv, h1, h2.below hb, h3.below hb, h4.below hb, h5.below hb⟩

/-- A plant's slices. -/
structure PlantIn (lo : Nat) (w : World) (lv ev mv nv : Value) (p : Plant) : Prop where
  labels : SliceK 1 encS lo w lv p.sys.labels
  edges : SliceK 3 encE lo w ev p.sys.edges
  marks : SliceK 1 encI lo w mv p.marks
  names : SliceK 1 encS lo w nv p.names
theorem PlantIn.below {lo : Nat} {w w' : World} {lv ev mv nv : Value} {p : Plant} (h : PlantIn lo w lv ev mv nv p) (hb : Below w.heap.size w w') : PlantIn lo w' lv ev mv nv p := ⟨h.labels.below hb, h.edges.below hb, h.marks.below hb, h.names.below hb⟩
/-- A system's slices. -/
structure LtsIn (lo : Nat) (w : World) (lv ev : Value) (t : Lts) : Prop where
  labels : SliceK 1 encS lo w lv t.labels
  edges : SliceK 3 encE lo w ev t.edges
theorem LtsIn.below {lo : Nat} {w w' : World} {lv ev : Value} {t : Lts} (h : LtsIn lo w lv ev t) (hb : Below w.heap.size w w') : LtsIn lo w' lv ev t := ⟨h.labels.below hb, h.edges.below hb⟩
theorem LtsIn.ptr {lo : Nat} {w : World} {lv ev : Value} {t : Lts} {b : Nat} {ty : TypeId} (h : LtsIn lo w lv ev t) (hb : Blk w b [.int .i64 t.states, .int .i64 t.initial, lv, ev] ty) : LtsPtr lo w b t :=
  ⟨lv, ev, hb.lt, hb.cell 0 rfl, hb.cell 1 rfl, hb.cell 2 rfl, hb.cell 3 rfl, h.labels, h.edges⟩
theorem PlantIn.ptr {lo : Nat} {w : World} {lv ev mv nv : Value} {p : Plant} {b : Nat} {ty : TypeId} (h : PlantIn lo w lv ev mv nv p) (hb : Blk w b [.int .i64 p.sys.states, .int .i64 p.sys.initial, lv, ev, mv, nv] ty) : PlantPtr lo w b p :=
  ⟨mv, nv, ⟨lv, ev, hb.lt, hb.cell 0 rfl, hb.cell 1 rfl, hb.cell 2 rfl, hb.cell 3 rfl, h.labels, h.edges⟩, hb.cell 4 rfl, hb.cell 5 rfl, h.marks, h.names⟩

end Go.Proofs.YtbbffbnfppbibaaGreatDoor
