/-
  A map that numbers its keys in the order in which they came.
  Keys of lists of numbers, an edge as an arc.
  How the explorer of sets lies in the program's memory; keys of sets.
  Rows as keys of a map.
  What the explorer's find computes: the place of a set among the rows, a new row for a new set.
  The program's search for the first trace: plain bounds, and how its queue lies in memory.
  The states of the deterministic system in the order found, and the first word that leads to each. Plain.
  What states offer, stable states, and where one system does not refine another one. Plain.
  The states behind a trace, and their place among the sets of the deterministic system; the first label that can and cannot follow. Plain.
-/
import Derived.Test.YthofaoabgbgbdaaGreatDoorG1
import Derived.Maps.OwnOps
import Derived.Test.YthofaoabgbgbdaaGreatDoorG8
import Derived.Test.YthofaoabgbgbdaaGreatDoorG14
import Derived.Test.YthofaoabgbgbdaaGreatDoorG10
import Derived.Test.YthofaoabgbgbdaaGreatDoorG12
import Derived.Test.YthofaoabgbgbdaaGreatDoorG7
import Derived.Lib.ItoaNum
import Derived.Lib.ItoaLen
import Derived.Deep.RegionLaw
import Derived.Deep.AppendLies
namespace Go.Proofs.YthofaoabgbgbdaaGreatDoor
open Go Go.RowKit Go.ChangeMaps Go.MapKept
open Go.Maps (Keyed)

/-- The block of a map whose i-th key leads to i. -/
def NumMap (q : IntKind) (w : World) (b : Nat) (ks : List Value) : Prop := w.heap[b]? = some (.map (ks.mapIdx fun i k => (⟨k, .int q i, i⟩ : MapEntry)).toArray ks.length)

theorem NumMap.made (q : IntKind) (w : World) : NumMap q (w.alloc (.map #[] 0)) w.heap.size [] := (MapKept.heap_alloc w _).1

theorem NumMap.kept {q : IntKind} {w w' : World} {b : Nat} {ks : List Value} {row : Option Nat} (h : NumMap q w b ks) (hg : w.grownBy w' row) (hne : some b ≠ row) : NumMap q w' b ks :=
 (hg.block b (Array.getElem?_eq_some_iff.1 h).1 hne).trans h

theorem NumMap.below {q : IntKind} {w w' : World} {b : Nat} {ks : List Value} (h : NumMap q w b ks) (hb : Below w.heap.size w w') : NumMap q w' b ks :=
 (hb.block b (Array.getElem?_eq_some_iff.1 h).1).trans h

theorem entry_key {q : IntKind} {ks : List Value} {e : MapEntry} (h : e ∈ (ks.mapIdx fun i k => (⟨k, .int q i, i⟩ : MapEntry)).toArray.toList) : e.key ∈ ks := by
 simp only [List.mem_mapIdx] at h
 obtain ⟨i, hi, rfl⟩ := h
 exact List.getElem_mem hi

theorem nodup_get {α : Type} {l : List α} (hd : l.Nodup) {i j : Nat} (hi : i < l.length) (hj : j < l.length) (h : l[i] = l[j]) : i = j := by
 have hp := List.pairwise_iff_getElem.1 hd
 rcases Nat.lt_trichotomy i j with h1 | h1 | h1
 ·exact absurd h (hp i j hi hj h1)
 ·exact h1
 ·exact absurd h.symm (hp j i hj hi h1)

section
variable {P : Program} {k t e : TypeId} {q : IntKind} {w : World} {b : Nat} {ks : List Value}

theorem NumMap.found (h : NumMap q w b ks) (K : Keyed P k) (ht : P.underlying t = some (.map k e)) (hks : ∀ v ∈ ks, ∃ l, keyOf P k v = some l) (hd : ks.Nodup) {i : Nat} (hi : i < ks.length) :
  (Instr.lookup t (.map (some b)) ks[i] true).run P w = .ok (.tuple #[.int q i, .bool true]) w := by
 obtain ⟨kl, hkey⟩ := hks _ (List.getElem_mem hi)
 rcases K.find w hkey (ks.mapIdx fun i k => (⟨k, .int q i, i⟩ : MapEntry)).toArray.toList (fun x hx => hks _ (entry_key hx)) with ⟨_, h2⟩ | ⟨j, e0, h1, h2, h3⟩
 ·exfalso
  refine h2 ⟨ks[i], .int q i, i⟩ ?_ rfl
  simp only [List.mem_mapIdx]
  exact ⟨i, hi, rfl⟩
 ·simp only [List.getElem?_mapIdx, Option.map_eq_some_iff] at h2
  obtain ⟨k', hk', rfl⟩ := h2
  obtain ⟨hj, hk'⟩ := List.getElem?_eq_some_iff.1 hk'
  simp only at h3
  have e1 : j = i := nodup_get hd hj hi (hk'.trans h3)
  subst e1
  have hb : w.heap[b]? = some (.map (ks.mapIdx fun i k => (⟨k, .int q i, i⟩ : MapEntry)).toArray ks.length) := h
  simp only at h1
  simp [Instr.lookup, run_underlying ht, MapKept.run_getObj_map hb, K.check w _ hkey, h1, Result.andThen]

theorem NumMap.missing (h : NumMap q w b ks) (K : Keyed P k) (ht : P.underlying t = some (.map k e)) (hks : ∀ v ∈ ks, ∃ l, keyOf P k v = some l) (hz : (zeroValue e).run P w = .ok (.int q 0) w) {key : Value} {kl : Lit} (hkey : keyOf P k key = some kl) (hn : key ∉ ks) :
  (Instr.lookup t (.map (some b)) key true).run P w = .ok (.tuple #[.int q 0, .bool false]) w := by
 rcases K.find w hkey (ks.mapIdx fun i k => (⟨k, .int q i, i⟩ : MapEntry)).toArray.toList (fun x hx => hks _ (entry_key hx)) with ⟨h1, _⟩ | ⟨j, e0, _, h2, h3⟩
 ·have hb : w.heap[b]? = some (.map (ks.mapIdx fun i k => (⟨k, .int q i, i⟩ : MapEntry)).toArray ks.length) := h
  simp only at h1
  simp [Instr.lookup, run_underlying ht, MapKept.run_getObj_map hb, K.check w _ hkey, h1, hz, Result.andThen]
 ·exact absurd (h3 ▸ entry_key (List.mem_of_getElem? h2)) hn

theorem NumMap.store (h : NumMap q w b ks) (K : Keyed P k) (ht : P.underlying t = some (.map k e)) (hks : ∀ v ∈ ks, ∃ l, keyOf P k v = some l) {key : Value} {kl : Lit} (hkey : keyOf P k key = some kl) (hn : key ∉ ks) (hroom : ks.length < maxLen) :
  ∃ w', (Instr.mapUpdate t (.map (some b)) key (.int q ks.length)).run P w = .ok () w' ∧ NumMap q w' b (ks ++ [key]) ∧ w.grownBy w' (some b) := by
 have hb : w.heap[b]? = some (.map (ks.mapIdx fun i k => (⟨k, .int q i, i⟩ : MapEntry)).toArray ks.length) := h
 have e1 : ((ks ++ [key]).mapIdx fun i k => (⟨k, .int q i, i⟩ : MapEntry)).toArray = (ks.mapIdx fun i k => (⟨k, .int q i, i⟩ : MapEntry)).toArray.push ⟨key, .int q ks.length, ks.length⟩ := by
  rw [List.mapIdx_append]
  simp
 rcases K.find w hkey (ks.mapIdx fun i k => (⟨k, .int q i, i⟩ : MapEntry)).toArray.toList (fun x hx => hks _ (entry_key hx)) with ⟨h1, _⟩ | ⟨j, e0, _, h2, h3⟩
 ·refine ⟨setBlock w b (.map ((ks.mapIdx fun i k => (⟨k, .int q i, i⟩ : MapEntry)).toArray.push ⟨key, .int q ks.length, ks.length⟩) (ks.length + 1)), ?_, ?_, ?_⟩
  ·simp only at h1
   have hr : ks.length < 9223372036854775807 := hroom
   simp [Instr.mapUpdate, run_underlying ht, MapKept.run_getObj_map hb, K.check w false hkey, h1, MapKept.run_setObj_map _ hb, Result.andThen, setBlock]
  ·unfold NumMap
   rw [e1, List.length_append, List.length_singleton]
   exact heap_setBlock_same hb _
  ·exact ⟨rfl, rfl, rfl, by simp [setBlock], fun i _ hi => heap_setBlock_other hb _ (fun e => hi (by rw [e]))⟩
 ·exact absurd (h3 ▸ entry_key (List.mem_of_getElem? h2)) hn

end
end Go.Proofs.YthofaoabgbgbdaaGreatDoor

namespace Go.Proofs.YthofaoabgbgbdaaGreatDoor
open Go Go.RowKit

open Go.Maps (Keyed)

/-- The key of a set: its numbers in decimal with commas between. -/
def keyT (r : List Int) : ByteArray := ⟨(Lib.join ((wordsOf r).map (·.data.toList)) [44]).toArray⟩
def keyV (r : List Int) : Value := .string (keyT r)
theorem split_join (c : UInt8) : ∀ ws : List (List UInt8), ws ≠ [] → (∀ w ∈ ws, ∀ x ∈ w, (x == c) = false) → splitAt c (Lib.join ws [c]) = ws
 | [], h, _ => absurd rfl h
 | [a], _, h => by
  rw [show Lib.join [a] [c] = a from by simp [Lib.join]]
  exact splitAt_none (h a (by simp))
 | a :: b :: r, _, h => by
  rw [show Lib.join (a :: b :: r) [c] = a ++ c :: Lib.join (b :: r) [c] from by simp [Lib.join], splitAt_hit (h a (by simp)), split_join c (b :: r) (by simp) (fun w hw => h w (List.mem_cons_of_mem _ hw))]
theorem digit_44 : digit 44 = false := by decide
theorem words_clean {r : List Int} (h : ∀ x ∈ r, 0 ≤ x) : ∀ w ∈ (wordsOf r).map (·.data.toList), ∀ x ∈ w, (x == 44) = false := by
 intro w hw x hx
 unfold wordsOf at hw
 rw [List.map_map, List.mem_map] at hw
 obtain ⟨n, hn, rfl⟩ := hw
 have h0 := h n hn
 obtain ⟨m, rfl⟩ : ∃ m : Nat, n = (m : Int) := ⟨n.toNat, by omega⟩
 simp only [Function.comp, itoa_eq] at hx
 have hd := List.all_eq_true.1 (decDigits_digit m) x (by simpa using hx)
 cases he : (x == 44) with
 | false => rfl
 | true =>
  rw [beq_iff_eq] at he
  subst he
  rw [digit_44] at hd
  cases hd
theorem val_decDigits : ∀ m : Nat, valFrom 0 (Lib.decDigits m) = m := by
 intro m
 induction m using Nat.strongRecOn with
 | _ m ih =>
  by_cases h : m < 10
  ·rw [Lib.decDigits_one h, valFrom_cons, valFrom_nil]
   have : (UInt8.ofNat (48 + m)).toNat = 48 + m := by rw [UInt8.toNat_ofNat']; omega
   omega
  ·have h1 : m = 10 * (m / 10) + m % 10 := by omega
   conv => lhs; rw [h1]
   rw [decDigits_step (m / 10) (m % 10) (by omega) (by omega), valFrom_append, ih (m / 10) (by omega), valFrom_cons, valFrom_nil]
   have : (UInt8.ofNat (48 + m % 10)).toNat = 48 + m % 10 := by rw [UInt8.toNat_ofNat']; omega
   omega
theorem decDigits_inj {m n : Nat} (h : Lib.decDigits m = Lib.decDigits n) : m = n := by
 rw [← val_decDigits m, h, val_decDigits]
theorem join_len (c : UInt8) : ∀ ws : List (List UInt8), (∀ w ∈ ws, w.length ≤ 21) → (Lib.join ws [c]).length ≤ 22 * ws.length
 | [], _ => by simp [Lib.join]
 | [a], h => by
  have := h a (by simp)
  simp [Lib.join]
  omega
 | a :: b :: r, h => by
  have h1 := h a (by simp)
  have h2 := join_len c (b :: r) (fun w hw => h w (List.mem_cons_of_mem _ hw))
  rw [show Lib.join (a :: b :: r) [c] = a ++ c :: Lib.join (b :: r) [c] from by simp [Lib.join], List.length_append, List.length_cons]
  simp only [List.length_cons] at h2 ⊢
  omega
theorem keyT_len {r : List Int} (h : ∀ x ∈ r, -9223372036854775808 ≤ x ∧ x ≤ 9223372036854775807) : (Lib.join ((wordsOf r).map (·.data.toList)) [44]).length ≤ 22 * r.length := by
 have h1 := join_len 44 ((wordsOf r).map (·.data.toList)) (fun w hw => by
  unfold wordsOf at hw
  rw [List.map_map, List.mem_map] at hw
  obtain ⟨n, hn, rfl⟩ := hw
  simpa [Function.comp] using Lib.itoa_length_le n (h n hn).1 (h n hn).2)
 simpa [wordsOf] using h1
theorem keyT_size {r : List Int} (h : ∀ x ∈ r, -9223372036854775808 ≤ x ∧ x ≤ 9223372036854775807) : (keyT r).size ≤ 22 * r.length := by
 have := keyT_len h
 rw [← len_data]
 simpa [keyT] using this
theorem keyT_inj {a b : List Int} (ha : a ≠ []) (hb : b ≠ []) (pa : ∀ x ∈ a, 0 ≤ x) (pb : ∀ x ∈ b, 0 ≤ x) (h : keyT a = keyT b) : a = b := by
 have h1 : Lib.join ((wordsOf a).map (·.data.toList)) [44] = Lib.join ((wordsOf b).map (·.data.toList)) [44] := by
  have := congrArg (fun s : ByteArray => s.data.toList) h
  simpa [keyT] using this
 have h2 := split_join 44 _ (by simp [wordsOf]; exact ha) (words_clean pa)
 rw [h1, split_join 44 _ (by simp [wordsOf]; exact hb) (words_clean pb)] at h2
 unfold wordsOf at h2
 rw [List.map_map, List.map_map] at h2
 apply List.ext_getElem
 ·have := congrArg List.length h2
  simpa using this.symm
 ·intro i hi hj
  have h3 : (b.map fun n => Lib.itoa n)[i]? = (a.map fun n => Lib.itoa n)[i]? := by
   have := congrArg (fun l => l[i]?) h2
   simpa [Function.comp_def] using this
  rw [List.getElem?_map, List.getElem?_map, List.getElem?_eq_getElem hi, List.getElem?_eq_getElem hj] at h3
  simp only [Option.map_some, Option.some.injEq] at h3
  have h4 := pa _ (List.getElem_mem hi)
  have h5 := pb _ (List.getElem_mem hj)
  obtain ⟨m, hm⟩ : ∃ m : Nat, a[i] = (m : Int) := ⟨a[i].toNat, by omega⟩
  obtain ⟨n, hn⟩ : ∃ n : Nat, b[i] = (n : Int) := ⟨b[i].toNat, by omega⟩
  rw [hm, hn, itoa_eq, itoa_eq] at h3
  rw [hm, hn, decDigits_inj h3]

theorem keyedS : Keyed Tryz.prog 9 := Go.Maps.string_keyed Tryz.underlying9
theorem keyOfS (b : ByteArray) (h : b.size ≤ 1048576) : ∃ l, keyOf Tryz.prog 9 (.string b) = some l := ⟨.string b.data.toList, by
 have h2 : b.size ≤ maxLen := by unfold maxLen; omega
 simp [keyOf, mapKey, Tryz.underlying9, h2]⟩
theorem underMapS : Tryz.prog.underlying 121 = some (.map 9 2) := Tryz.underlying121
theorem zeroI64 (w : World) : (zeroValue 2).run Tryz.prog w = .ok (.int .i64 0) w := by kernel_rfl

/-- An arc: an edge with its label as a text. -/
def encA (t : Lts) (e : Edge) : List Value := [.int .i64 e.src, .string (labAt t e), .int .i64 e.dst]
/-- One row more, which lies elsewhere than the rows that are there. -/
theorem OwnIntss.pushB {eo ei lo B2 : Nat} {w w' : World} {v v' rv : Value} {vs : List Value} {xss : List (List Int)} {xs : List Int} (he : eo ≠ ei) (h : OwnIntss eo ei lo w v vs xss) (hlow : ∀ (i : Nat) (h : i < vs.length) b, vs[i].ownBlock = some b → b < B2)
  (hr : w.ownsRow B2 ei 1 rv xs.length (xs.map (Value.int .i64))) (hlo : lo ≤ B2) (hg : w.grownBy w' v.ownBlock) (hv : w'.ownsRow lo eo 1 v' (vs.length + 1) (vs ++ [rv])) : OwnIntss eo ei lo w' v' (vs ++ [rv]) (xss ++ [xs]) := by
 obtain ⟨h1, h2, h3, h4, h5⟩ := h
 have hrow : ∀ (i : Nat) (h : i < vs.length) (h' : i < xss.length), w'.ownsRow lo ei 1 vs[i] xss[i].length (xss[i].map (Value.int .i64)) := fun i hi hi' => (h3 i hi hi').kept hg (h5 i hi)
 have hnew : w'.ownsRow lo ei 1 rv xs.length (xs.map (Value.int .i64)) := (own_lower hr hlo).kept hg (own_types hr h2 (fun e => he e.symm))
 have hall : ∀ (i : Nat) (h : i < (vs ++ [rv]).length) (h' : i < (xss ++ [xs]).length), w'.ownsRow lo ei 1 (vs ++ [rv])[i] (xss ++ [xs])[i].length ((xss ++ [xs])[i].map (Value.int .i64)) := fun i hi hi' => by
  by_cases hlt : i < vs.length
  ·rw [List.getElem_append_left hlt]
   simp only [List.getElem_append_left (show i < xss.length by omega)]
   exact hrow i hlt (by omega)
  ·have e : i = vs.length := by simp at hi; omega
   subst e
   simp only [List.getElem_concat_length]
   have : (xss ++ [xs])[vs.length] = xs := by simp [h1]
   rw [this]
   exact hnew
 refine ⟨by simp [h1], by simpa using hv, hall, fun i j hi hj hij => ?_, fun i hi => own_types (hall i hi (by simp at hi ⊢; omega)) hv (fun e => he e.symm)⟩
 have hnb : ∀ b, rv.ownBlock = some b → B2 ≤ b := fun b e => (hr.lt b e).1
 by_cases h1' : i < vs.length <;> by_cases h2' : j < vs.length
 ·rw [List.getElem_append_left h1', List.getElem_append_left h2']
  exact h4 i j h1' h2' hij
 ·have e : j = vs.length := by simp at hj; omega
  subst e
  rw [List.getElem_append_left h1', List.getElem_concat_length rfl]
  cases hb1 : vs[i].ownBlock with
  | none => exact .inl rfl
  | some b => exact .inr fun e => by have := hlow i h1' b hb1; have := hnb b e.symm; omega
 ·have e : i = vs.length := by simp at hi; omega
  subst e
  rw [List.getElem_append_left h2', List.getElem_concat_length rfl]
  cases hb1 : rv.ownBlock with
  | none => exact .inl rfl
  | some b => exact .inr fun e => by have := hlow j h2' b e.symm; have := hnb b hb1; omega
 ·simp at hi hj; omega

end Go.Proofs.YthofaoabgbgbdaaGreatDoor

namespace Go.Proofs.YthofaoabgbgbdaaGreatDoor
open Go Go.RowKit

/-- The explorer: its four fields, the variable that holds its address, the loop's variable. -/
structure ExpAt (B xb mb pb ib rb : Nat) (on : Bool) (i : Nat) (t : Lts) (st : DNet) (sv av : Value) (vs : List Value) (w : World) : Prop where
 base : B ≤ xb
 mbase : B ≤ mb
 pbase : B ≤ pb
 ibase : B ≤ ib
 rbase : B ≤ rb
 box : Blk w xb [sv, .map (some mb), av, .func (.func 46) #[] #[]] 123
 ptr : Blk w pb [.pointer (some ⟨xb, 0, none⟩)] 120
 idx : on = true → Blk w ib [.int .i64 i] 3
 res : Blk w rb [.int .i64 0, .int .i64 0, .slice none 0 0, .slice none 0 0] 27
 rows : OwnIntss 34 2 B w sv vs st.rows
 map : NumMap .i64 w mb (st.rows.map keyV)
 arcs : w.ownsRow B 125 3 av st.edges.length (st.edges.flatMap (encA t))
theorem ExpAt.below {on : Bool} {B xb mb pb ib rb i : Nat} {t : Lts} {st : DNet} {sv av : Value} {vs : List Value} {w w' : World} (h : ExpAt B xb mb pb ib rb on i t st sv av vs w) (hb : Below w.heap.size w w') : ExpAt B xb mb pb ib rb on i t st sv av vs w' :=
 ⟨h.base, h.mbase, h.pbase, h.ibase, h.rbase, h.box.below hb, h.ptr.below hb, fun ho => (h.idx ho).below hb, h.res.below hb, h.rows.below hb, h.map.below hb, owns_below h.arcs hb⟩

end Go.Proofs.YthofaoabgbgbdaaGreatDoor

namespace Go.Proofs.YthofaoabgbgbdaaGreatDoor
open Go Go.RowKit

theorem blk_map_ne' {w : World} {b : Nat} {cs : List Value} {t : TypeId} (h : Blk w b cs t) {m : Nat} {es : Array MapEntry} {c : Nat} (hm : w.heap[m]? = some (.map es c)) : b ≠ m := by
 intro e
 subst e
 unfold Blk at h
 rw [h] at hm
 cases hm
theorem blk_own_ne' {w : World} {b : Nat} {cs : List Value} {t : TypeId} (h : Blk w b cs t) {base e size n : Nat} {v : Value} {xs : List Value} (ho : w.ownsRow base e size v n xs) (he : e ≠ t) : some b ≠ v.ownBlock := by
 rcases own_type_ne ho (show w.heap[b]? = some (.cells cs.toArray t (0, 0)) from h) he with h | h
 ·rw [h]; simp
 ·exact fun e => h e.symm
theorem blk_blk_ne {w : World} {b c : Nat} {cs ds : List Value} {t u : TypeId} (h : Blk w b cs t) (k : Blk w c ds u) (he : t ≠ u) : b ≠ c := by
 intro e
 subst e
 unfold Blk at h k
 rw [h] at k
 simp only [Option.some.injEq, Obj.cells.injEq] at k
 exact he k.2.1

/-- A set that can be a row: not empty, its numbers small. -/
structure RowOk (r : List Int) : Prop where
 ne : r ≠ []
 len : r.length ≤ 40
 low : ∀ x ∈ r, 0 ≤ x ∧ x < 40
theorem RowOk.i64 {r : List Int} (h : RowOk r) : ∀ x ∈ r, -9223372036854775808 ≤ x ∧ x ≤ 9223372036854775807 := fun x hx => by have := h.low x hx; omega
theorem RowOk.size {r : List Int} (h : RowOk r) : (keyT r).size ≤ 1048576 := by have := keyT_size h.i64; have := h.len; omega
theorem RowOk.key {r : List Int} (h : RowOk r) : ∃ l, keyOf Tryz.prog 9 (keyV r) = some l := keyOfS _ h.size
theorem RowOk.inj {a b : List Int} (ha : RowOk a) (hb : RowOk b) (h : keyV a = keyV b) : a = b :=
 keyT_inj ha.ne hb.ne (fun x hx => (ha.low x hx).1) (fun x hx => (hb.low x hx).1) (by unfold keyV at h; exact Value.string.inj h)
theorem keysV_nodup {rows : List (List Int)} (hd : rows.Nodup) (ho : ∀ r ∈ rows, RowOk r) : (rows.map keyV).Nodup := by
 rw [List.nodup_iff_pairwise_ne, List.pairwise_map]
 refine List.Pairwise.imp_of_mem ?_ (List.nodup_iff_pairwise_ne.1 hd)
 intro a b ha hb hne e
 exact hne ((ho a ha).inj (ho b hb) e)

theorem info_intsF : (Tryz.prog.info? 34).map (fun i => (i.zero, i.size, i.bytes)) = some (some (.slice none 0 0), 1, 24) := by kernel_rfl

end Go.Proofs.YthofaoabgbgbdaaGreatDoor

namespace Go.Proofs.YthofaoabgbgbdaaGreatDoor
open Go Go.RowKit

theorem keyfn_any (lo : Nat) (rv : Value) (r : List Int) (w : World) (hr : RowOk r) (hs : SliceK 1 encI lo w rv r) (g : Glob w) :
  Calls Tryz.prog 46 #[rv] w fun e w' => e = .returned (keyV r) ∧ Below w.heap.size w w' := by
 have HJ := Lib.hid (joined_any rv ⟨#[44]⟩ lo r w (by have := hr.len; omega) (fun i hi => hr.i64 _ (List.getElem_mem hi)) hs g (by
  have h1 := keyT_len hr.i64
  have h2 := hr.len
  show (Lib.join ((wordsOf r).map (·.data.toList)) [44]).length ≤ 1073741824
  omega))
 clear hs g
 go_enter Tryz.func46, Tryz.ntmps46
 go_wp2_with fail
 refine Calls.mono HJ.out ?_
 rintro e w1 ⟨rfl, hb⟩
 have HB := Lib.hid hb
 clear hb HJ
 go_wp2
 go_ret
 exact ⟨rfl, HB.out⟩

/-- After the map and the list have grown. -/
theorem ExpAt.grow {on : Bool} {B xb mb pb ib rb i B2 : Nat} {t : Lts} {st : DNet} {sv av sv' rv : Value} {vs : List Value} {r : List Int} {w1 w2 w3 w4 : World} (h : ExpAt B xb mb pb ib rb on i t st sv av vs w1) (hg2 : w1.grownBy w2 (some mb)) (hm2 : NumMap .i64 w2 mb (st.rows.map keyV ++ [keyV r]))
  (hb3 : Below w2.heap.size w2 w3) (hg4 : w3.grownBy w4 sv.ownBlock) (ho4 : w4.ownsRow B 34 1 sv' (vs.length + 1) (vs ++ [rv])) (hlow : ∀ (i : Nat) (h : i < vs.length) b, vs[i].ownBlock = some b → b < B2) (hB2 : B ≤ B2)
  (hr : w1.ownsRow B2 2 1 rv r.length (r.map (Value.int .i64))) :
  ExpAt B xb mb pb ib rb on i t ⟨st.rows ++ [r], st.edges⟩ sv' av (vs ++ [rv]) (w4.setCell ⟨xb, 0, none⟩ sv') := by
 have mblk : w1.heap[mb]? = some (.map (((st.rows.map keyV).mapIdx fun i k => (⟨k, .int .i64 i, i⟩ : MapEntry)).toArray) (st.rows.map keyV).length) := h.map
 have X2 := (h.box.below (Below.refl _ _)) 
 have X2 : Blk w2 xb _ _ := (hg2.block xb h.box.lt (fun e => blk_map_ne' h.box mblk (Option.some.inj e))).trans h.box
 have P2 : Blk w2 pb _ _ := (hg2.block pb h.ptr.lt (fun e => blk_map_ne' h.ptr mblk (Option.some.inj e))).trans h.ptr
 have I2 := fun (ho : on = true) => (show Blk w2 ib [.int .i64 i] 3 from (hg2.block ib (h.idx ho).lt (fun e => blk_map_ne' (h.idx ho) mblk (Option.some.inj e))).trans (h.idx ho))
 have S2 : Blk w2 rb _ _ := (hg2.block rb h.res.lt (fun e => blk_map_ne' h.res mblk (Option.some.inj e))).trans h.res
 have R2 := h.rows.kept hg2 (own_map_ne h.rows.2.1 mblk) (fun j hj => own_map_ne (h.rows.2.2.1 j hj (by rw [← h.rows.1]; exact hj)) mblk)
 have A2 := h.arcs.kept hg2 (own_map_ne h.arcs mblk)
 have V2 := hr.kept hg2 (own_map_ne hr mblk)
 have X3 := X2.below hb3
 have P3 := P2.below hb3
 have I3 := fun ho => (I2 ho).below hb3
 have S3 := S2.below hb3
 have R3 := R2.below hb3
 have A3 := owns_below A2 hb3
 have V3 := owns_below V2 hb3
 have M3 := hm2.below hb3
 have X4 : Blk w4 xb _ _ := (hg4.block xb X3.lt (blk_own_ne' X3 R3.2.1 (by decide))).trans X3
 have P4 : Blk w4 pb _ _ := (hg4.block pb P3.lt (blk_own_ne' P3 R3.2.1 (by decide))).trans P3
 have I4 := fun (ho : on = true) => (show Blk w4 ib [.int .i64 i] 3 from (hg4.block ib (I3 ho).lt (blk_own_ne' (I3 ho) R3.2.1 (by decide))).trans (I3 ho))
 have S4 : Blk w4 rb _ _ := (hg4.block rb S3.lt (blk_own_ne' S3 R3.2.1 (by decide))).trans S3
 have M4 := M3.kept hg4 (fun e => by
  rcases own_map_ne R3.2.1 M3 with h | h
  ·rw [h] at e; cases e
  ·exact h e.symm)
 have A4 := A3.kept hg4 (own_types A3 R3.2.1 (by decide))
 have R4 := OwnIntss.pushB (by decide) R3 hlow V3 hB2 hg4 ho4
 have hs := grown_setCell w4 ⟨xb, 0, none⟩ sv'
 refine ⟨h.base, h.mbase, h.pbase, h.ibase, h.rbase, X4.set 0 sv', P4.setOther _ _ (blk_blk_ne P4 X4 (by decide)), (fun ho => (I4 ho).setOther _ _ (blk_blk_ne (I4 ho) X4 (by decide))), S4.setOther _ _ (blk_blk_ne S4 X4 (by decide)), ?_, ?_, ?_⟩
 ·exact R4.kept hs (own_type_ne R4.2.1 X4 (by decide)) (fun j hj => own_type_ne (R4.2.2.1 j hj (by rw [← R4.1]; exact hj)) X4 (by decide))
 ·have := M4.kept hs (fun e => blk_map_ne' X4 M4 (Option.some.inj e).symm)
  simpa using this
 ·exact A4.kept hs (own_type_ne A4 X4 (by decide))

set_option maxRecDepth 100000 in
set_option maxHeartbeats 2000000 in
theorem findS_old (B xb mb pb ib rb : Nat) (on : Bool) (i B2 : Nat) (t : Lts) (st : DNet) (sv av rv : Value) (vs : List Value) (r : List Int) (w : World) (h : ExpAt B xb mb pb ib rb on i t st sv av vs w) (hd : st.rows.Nodup) (hok : ∀ r ∈ st.rows, RowOk r) (hr : RowOk r)
  (hv : w.ownsRow B2 2 1 rv r.length (r.map (Value.int .i64))) (hm : r ∈ st.rows) (g : Glob w) :
  Calls Tryz.prog 86 #[.pointer (some ⟨xb, 0, none⟩), rv] w fun e w' => e = .returned (.int .i64 (dplace st.rows r)) ∧ Below w.heap.size w w' := by
 have hpl := dplace_lt.2 hm
 have hpk : dplace st.rows r < (st.rows.map keyV).length := by rw [List.length_map]; exact hpl
 have HL := Lib.hid (fun (w' : World) (hm : NumMap .i64 w' mb (st.rows.map keyV)) => hm.found keyedS underMapS (fun v hv => by obtain ⟨q', hq', rfl⟩ := List.mem_map.1 hv; exact (hok q' hq').key) (keysV_nodup hd hok) hpk)
 have hk3 : (st.rows.map keyV)[dplace st.rows r] = keyV r := by rw [List.getElem_map, dplace_get hpl]
 rw [hk3] at HL
 obtain ⟨n, hn⟩ : ∃ n, n = dplace st.rows r := ⟨_, rfl⟩
 rw [← hn] at HL
 have HN := Lib.hid hn
 have HK := Lib.hid (keyfn_any B2 rv r w hr (SliceK.of_owns (enc := encI) encI_len rfl (by rw [flat_encI]; exact hv)) g)
 have HE := Lib.hid h
 have x3 := h.box.cell 3 rfl
 have hxl := h.box.lt
 clear h hd hok hr hv hm g hpl hpk hk3 hn
 go_enter Tryz.func86, Tryz.ntmps86
 go_wp2_with fail
 refine Calls.mono HK.out ?_
 rintro e w1 ⟨rfl, hb1⟩
 have HB1 := Lib.hid hb1
 have x1 := (HE.out.below hb1).box.cell 1 rfl
 have hlk := HL.out w1 (HE.out.map.below hb1)
 unfold keyV at hlk ⊢
 clear hb1 HK x3
 go_wp2
 go_ret
 exact ⟨by rw [← HN.out]; rfl, HB1.out⟩

set_option maxRecDepth 100000 in
set_option maxHeartbeats 4000000 in
theorem findS_new (B xb mb pb ib rb : Nat) (on : Bool) (i B2 : Nat) (t : Lts) (st : DNet) (sv av rv : Value) (vs : List Value) (r : List Int) (w : World) (hB : B ≤ w.heap.size) (h : ExpAt B xb mb pb ib rb on i t st sv av vs w) (_hd : st.rows.Nodup) (hok : ∀ r ∈ st.rows, RowOk r) (hr : RowOk r)
  (hlow : ∀ (i : Nat) (h : i < vs.length) b, vs[i].ownBlock = some b → b < B2) (hB2 : B ≤ B2) (hv : w.ownsRow B2 2 1 rv r.length (r.map (Value.int .i64))) (hm : r ∉ st.rows) (hfew : st.rows.length ≤ 1000) (g : Glob w) :
  Calls Tryz.prog 86 #[.pointer (some ⟨xb, 0, none⟩), rv] w fun e w' => e = .returned (.int .i64 st.rows.length) ∧ Below B w w' ∧ ∃ sv', ExpAt B xb mb pb ib rb on i t ⟨st.rows ++ [r], st.edges⟩ sv' av (vs ++ [rv]) w' := by
 have hks : ∀ v ∈ st.rows.map keyV, ∃ l, keyOf Tryz.prog 9 v = some l := fun v hv => by obtain ⟨q', hq', rfl⟩ := List.mem_map.1 hv; exact (hok q' hq').key
 obtain ⟨kl, hkl⟩ := hr.key
 have hkn : keyV r ∉ st.rows.map keyV := fun hmm => by obtain ⟨q', hq', e⟩ := List.mem_map.1 hmm; rw [(hok q' hq').inj hr e] at hq'; exact hm hq'
 have HL := Lib.hid (fun (w' : World) (hm : NumMap .i64 w' mb (st.rows.map keyV)) => hm.missing keyedS underMapS hks (zeroI64 w') hkl hkn)
 have HU := Lib.hid (fun (w' : World) (hm : NumMap .i64 w' mb (st.rows.map keyV)) => hm.store keyedS underMapS hks hkl hkn (by rw [List.length_map]; unfold maxLen; omega))
 rw [List.length_map] at HU
 have HK := Lib.hid (keyfn_any B2 rv r w hr (SliceK.of_owns (enc := encI) encI_len rfl (by rw [flat_encI]; exact hv)) g)
 have HE := Lib.hid h
 have HV := Lib.hid hv
 have HLOW := Lib.hid hlow
 have x3 := h.box.cell 3 rfl
 have hxl := h.box.lt
 have hvl : vs.length = st.rows.length := h.rows.1
 obtain ⟨a0, c0, rfl, -, -⟩ := owns_slice h.rows.2.1
 obtain ⟨ar, cr, rfl, -, -⟩ := owns_slice hv
 obtain ⟨N, hN⟩ : ∃ N, N = st.rows.length := ⟨_, rfl⟩
 rw [← hN] at HU hfew hvl
 rw [hvl] at HE
 have HNN := Lib.hid hN
 obtain ⟨RL, hRL⟩ : ∃ RL, RL = r.length := ⟨_, rfl⟩
 rw [← hRL] at HV HK
 rw [← hRL]
 have HRL := Lib.hid hRL
 have HBB := Lib.hid hB
 obtain ⟨i0, hi, hz0, hz1, hz2⟩ := info_parts info_intsF
 clear h _hd hok hr hv hm g hN hks hkl hkn hlow hRL hB
 go_enter Tryz.func86, Tryz.ntmps86
 go_wp2_with fail
 refine Calls.mono HK.out ?_
 rintro e w1 ⟨rfl, hb1⟩
 have HB1 := Lib.hid (Below.mono hb1 HBB.out)
 have HE1 := Lib.hid (HE.out.below hb1)
 have HV1 := Lib.hid (owns_below HV.out hb1)
 have x1 := HE1.out.box.cell 1 rfl
 have x0 := HE1.out.box.cell 0 rfl
 have hlk := HL.out w1 HE1.out.map
 obtain ⟨w2, hup, hm2, hg2⟩ := HU.out w1 HE1.out.map
 unfold keyV at hlk hup ⊢
 have hs1 : B ≤ w1.heap.size := Nat.le_trans HBB.out hb1.size
 clear hb1 HK x3 HE HV
 have mblk : w1.heap[mb]? = some (.map (((st.rows.map keyV).mapIdx fun i k => (⟨k, .int .i64 i, i⟩ : MapEntry)).toArray) (st.rows.map keyV).length) := HE1.out.map
 have X2 : Hid (Blk w2 xb _ _) := (hg2.block xb HE1.out.box.lt (fun e => blk_map_ne' HE1.out.box mblk (Option.some.inj e))).trans HE1.out.box
 have R2 := Lib.hid (HE1.out.rows.2.1.kept hg2 (own_map_ne HE1.out.rows.2.1 mblk))
 rw [hvl] at R2
 have HG2 := Lib.hid hg2
 have HM2 := Lib.hid hm2
 have HB2 := Lib.hid (HB1.out.grown hg2 hs1 (fun k e => by cases e; exact HE1.out.mbase))
 have y0 := X2.out.cell 0 rfl
 have hs2 : B ≤ w2.heap.size := Nat.le_trans hs1 hg2.size
 have hx2 := X2.out.lt
 clear hg2 hm2 mblk
 go_wp2_with (at_builtin; refine wpList_append_own_at _ rfl _ _ 31 rfl B 34 i0 (.slice none 0 0) 1 24 Tryz.underlying31 hi hz0 hz1 hz2 rfl (by decide) _ _ _ rfl (R2.out.alloc _) ⟨w2.heap.size, 0, none⟩ 1 1 [.slice ar RL cr] rfl rfl ?c1 ?c2 ?c3 ?c4 ?c5 ?_)
 case c1 => exact (cell_one_new _ _ _)
 case c2 => first | rfl | (intro u hu; simp at hu; subst hu; rfl)
 case c3 => first | omega | (simp [maxLen]; omega)
 case c4 => first | omega | (simp; omega)
 case c5 => first | omega | (simp; omega)
 intro v4 w4 ho4 hg4 _ _
 obtain ⟨a4, c4, rfl, -, -⟩ := owns_slice ho4
 have hal : Below w2.heap.size w2 (w2.alloc (.cells #[.slice ar RL cr] 34)) := (Below.refl _ _).alloc (Nat.le_refl _) _
 have HF := Lib.hid (ExpAt.grow (B2 := B2) (r := r) HE1.out HG2.out HM2.out hal hg4 (by rw [hvl]; exact ho4) HLOW.out hB2 (by rw [← HRL.out]; exact HV1.out))
 have hne : some xb ≠ (Value.slice a0 N c0).ownBlock := blk_own_ne' X2.out R2.out (by decide)
 have hsv : w4.heap.size ≥ w2.heap.size := by have h1 := hal.size; have h2 := hg4.size; omega
 have z0 : w4.cell? ⟨xb, 0, none⟩ = some (.slice a0 N c0) := (hg4.cell_far ⟨xb, 0, none⟩ (by simp; omega) hne).trans (keeps hal hx2 y0)
 have z1 : w4.frozen? ⟨xb, 0, none⟩ = false := (hg4.frozen_far ⟨xb, 0, none⟩ (by simp; omega) hne).trans ((hal.frozen (p := ⟨xb, 0, none⟩) hx2).trans (X2.out.frozen 0))
 have HB4 : Hid (Below B w w4) := (HB2.out.trans (hal.mono hs2)).grown hg4 (by simp; omega) (fun b e => (R2.out.lt b e).1)
 clear ho4 hg4 hal hup y0 x0 x1 hlk
 go_wp2
 go_ret
 refine ⟨by rw [← HNN.out]; rfl, HB4.out.setCell HE1.out.base _, _, HF.out⟩

end Go.Proofs.YthofaoabgbgbdaaGreatDoor

namespace Go.Proofs.YthofaoabgbgbdaaGreatDoor
open Go Go.RowKit

/-- What the program passes over. -/
def deadB (p : Int × Int) : Prop := p.1 < 0 ∧ p.2 < 0
theorem deadB_step (x y : Lts) (L : List ByteArray) (s : Int × Int) (a : Nat) (h : deadB s) : deadB (goBoth x y L s a) := by
 refine ⟨?_, ?_⟩
 ·show goTo x s.1 _ < 0
  rw [goTo_neg h.1]; decide
 ·show goTo y s.2 _ < 0
  rw [goTo_neg h.2]; decide
/-- What is looked for, at a state that is not passed over. -/
def liveF (F : Int × Int → Prop) (p : Int × Int) : Prop := ¬ deadB p ∧ F p
theorem liveF_not {F : Int × Int → Prop} (s : Int × Int) (h : deadB s) : ¬ liveF F s := fun k => k.1 h

/-- A pair's place among the pairs. -/
def pairNo (p : Int × Int) : Nat := ((p.1 + 1) * 41 + (p.2 + 1)).toNat
theorem QSt.few {x y : Lts} {L : List ByteArray} {m : Nat} {F : Int × Int → Prop} {N Q : List (List Nat)} (hx : Valid x) (hy : Valid y) (h : QSt ((0 : Int), (0 : Int)) (goBoth x y L) m deadB F N Q) : N.length ≤ 1681 := by
 have hp : ∀ u, (-1 ≤ (difS x y L u).1 ∧ (difS x y L u).1 < 40) ∧ -1 ≤ (difS x y L u).2 ∧ (difS x y L u).2 < 40 := fun u => by
  have h2 := difS_range hx hy L u
  have h3 := hx.st1
  have h4 := hy.st1
  exact ⟨⟨h2.1.2, by omega⟩, h2.2.2, by omega⟩
 have h1 : (N.map fun u => pairNo (difS x y L u)).Nodup := by
  have hn := h.nodup
  rw [List.nodup_iff_pairwise_ne, List.pairwise_map] at hn ⊢
  refine hn.imp ?_
  intro a b hne e
  have h1 := hp a
  have h2 := hp b
  refine hne ?_
  show difS x y L a = difS x y L b
  unfold pairNo at e
  have e1 : (difS x y L a).1 = (difS x y L b).1 := by omega
  have e2 : (difS x y L a).2 = (difS x y L b).2 := by omega
  exact Prod.ext e1 e2
 have := nodup_lt 1681 _ h1 (fun z hz => by
  obtain ⟨u, hu, rfl⟩ := List.mem_map.1 hz
  have := hp u
  unfold pairNo
  omega)
 rwa [List.length_map] at this

/-- The queue, plainly: words of what is seen, words to come; none longer than there are seen. -/
structure FSt (x y : Lts) (L : List ByteArray) (m : Nat) (F : Int × Int → Prop) (seen Q : List (List Nat)) : Prop where
 st : QSt ((0 : Int), (0 : Int)) (goBoth x y L) m deadB (liveF F) seen Q
 long : ∀ u ∈ Q, u.length ≤ seen.length
 few : Q.length ≤ 1 + m * seen.length
theorem FSt.start (x y : Lts) (L : List ByteArray) (m : Nat) (F : Int × Int → Prop) : FSt x y L m F [] [[]] :=
 ⟨QSt.start _ _, fun u hu => by rw [List.mem_singleton] at hu; subst hu; simp, by simp⟩
theorem FSt.skip {x y : Lts} {L : List ByteArray} {m : Nat} {F : Int × Int → Prop} {seen Q : List (List Nat)} {u : List Nat} (h : FSt x y L m F seen (u :: Q)) (hu : deadB (difS x y L u) ∨ ∃ v ∈ seen, difS x y L v = difS x y L u) : FSt x y L m F seen Q :=
 ⟨h.st.skip hu, fun v hv => h.long v (List.mem_cons_of_mem _ hv), by have := h.few; simp only [List.length_cons] at this; omega⟩
theorem FSt.take {x y : Lts} {L : List ByteArray} {m : Nat} {F : Int × Int → Prop} {seen Q : List (List Nat)} {u : List Nat} (h : FSt x y L m F seen (u :: Q)) (ha : ¬ deadB (difS x y L u)) (hn : ∀ v ∈ seen, difS x y L v ≠ difS x y L u) (hF : ¬ F (difS x y L u)) :
  FSt x y L m F (seen ++ [u]) (Q ++ (List.range m).map (· :: u)) := by
 refine ⟨h.st.take ha hn (fun k => hF k.2), fun v hv => ?_, ?_⟩
 ·rw [List.length_append, List.length_singleton]
  rcases List.mem_append.1 hv with hv | hv
  ·have := h.long v (List.mem_cons_of_mem _ hv); omega
  ·obtain ⟨a, -, rfl⟩ := List.mem_map.1 hv
   have := h.long u (by simp)
   rw [List.length_cons]; omega
 ·have := h.few
  rw [List.length_append, List.length_append, List.length_map, List.length_range, List.length_singleton, Nat.mul_add, Nat.mul_one]
  simp only [List.length_cons] at this
  omega

/-- What is returned: the first word's trace, and whether there is one. -/
def FirstIs (x y : Lts) (L : List ByteArray) (F : Int × Int → Prop) (r : Bool) (xs : List ByteArray) : Prop :=
 xs.length ≤ 2000 ∧ ((NoWord ((0 : Int), (0 : Int)) (goBoth x y L) (L.length - 1) (liveF F) ∧ r = false ∧ xs = []) ∨ ∃ u, Least ((0 : Int), (0 : Int)) (goBoth x y L) (L.length - 1) (liveF F) u ∧ r = true ∧ xs = txtsOf L u)
theorem FSt.least {x y : Lts} {L : List ByteArray} {F : Int × Int → Prop} {seen Q : List (List Nat)} {u : List Nat} (hx : Valid x) (hy : Valid y) (h : FSt x y L (L.length - 1) F seen (u :: Q)) (ha : ¬ deadB (difS x y L u)) (hF : F (difS x y L u)) : FirstIs x y L F true (txtsOf L u) := by
 refine ⟨?_, .inr ⟨u, h.st.least (deadB_step x y L) liveF_not ⟨ha, hF⟩, rfl, rfl⟩⟩
 have h1 := h.st.few hx hy
 have h2 := h.long u (by simp)
 simp only [txtsOf, List.length_map, List.length_reverse]
 omega
theorem FSt.none {x y : Lts} {L : List ByteArray} {F : Int × Int → Prop} {seen : List (List Nat)} (h : FSt x y L (L.length - 1) F seen []) : FirstIs x y L F false [] :=
 ⟨by simp, .inl ⟨h.st.none (deadB_step x y L) liveF_not, rfl, rfl⟩⟩

/-- A word of the queue: its two states, its trace. -/
def encQ (x y : Lts) (L : List ByteArray) (p : List Nat × Value) : List Value := [.int .i64 (difS x y L p.1).1, .int .i64 (difS x y L p.1).2, p.2]
theorem encQ_len (x y : Lts) (L : List ByteArray) (p : List Nat × Value) : (encQ x y L p).length = 3 := rfl
theorem flat_len3 (x y : Lts) (L : List ByteArray) (ns : List (List Nat × Value)) : (ns.flatMap (encQ x y L)).length = ns.length * 3 := by
 induction ns with
 | nil => rfl
 | cons a r ih => rw [List.flatMap_cons, List.length_append, ih, encQ_len, List.length_cons]; omega
structure OwnQ (B : Nat) (w : World) (x y : Lts) (L : List ByteArray) (v : Value) (ns : List (List Nat × Value)) : Prop where
 all : TailK w B 114 3 v ns.length (ns.flatMap (encQ x y L))
 rows : ∀ p ∈ ns, w.ownsRow B 9 1 p.2 p.1.length (txts (txtsOf L p.1))
theorem OwnQ.below {B : Nat} {w w' : World} {x y : Lts} {L : List ByteArray} {v : Value} {ns : List (List Nat × Value)} (h : OwnQ B w x y L v ns) (hb : Below w.heap.size w w') : OwnQ B w' x y L v ns :=
 ⟨h.all.below hb, fun p hp => owns_below (h.rows p hp) hb⟩
theorem TailK.type_far {w : World} {base base2 size size2 e e2 n n2 : Nat} {v v2 : Value} {xs xs2 : List Value} (h : TailK w base e size v n xs) (ho : w.ownsRow base2 e2 size2 v2 n2 xs2) (he : e2 ≠ e) : v2.ownBlock = none ∨ v2.ownBlock ≠ v.ownBlock := by
 rcases h.2 with ⟨rfl, -⟩ | ⟨g, o, cap, cur, rfl, -, hg, -⟩
 ·cases hb : v2.ownBlock with
  | none => exact .inl rfl
  | some b => exact .inr (by simp [Value.ownBlock])
 ·exact own_type_far ho hg he
theorem TailK.blk_far {w : World} {base size e n b t : Nat} {v : Value} {xs cs : List Value} (h : TailK w base e size v n xs) (hb : Blk w b cs t) (he : t ≠ e) : some b ≠ v.ownBlock := by
 rcases h.2 with ⟨rfl, -⟩ | ⟨g, o, cap, cur, rfl, -, hg, -⟩
 ·simp [Value.ownBlock]
 ·intro e1
  simp only [Value.ownBlock, Option.some.injEq] at e1
  subst e1
  have := hb
  unfold Blk at this
  rw [this] at hg
  simp only [Option.some.injEq, Obj.cells.injEq] at hg
  exact he hg.2.1
theorem TailK.map_far {w : World} {base size e n b c : Nat} {v : Value} {xs : List Value} {es : Array MapEntry} (h : TailK w base e size v n xs) (hb : w.heap[b]? = some (.map es c)) : some b ≠ v.ownBlock := by
 rcases h.2 with ⟨rfl, -⟩ | ⟨g, o, cap, cur, rfl, -, hg, -⟩
 ·simp [Value.ownBlock]
 ·intro e1
  simp only [Value.ownBlock, Option.some.injEq] at e1
  subst e1
  rw [hb] at hg
  cases hg
/-- The queue's first word, in the cells. -/
theorem OwnQ.head {B : Nat} {w : World} {x y : Lts} {L : List ByteArray} {v : Value} {p : List Nat × Value} {ns : List (List Nat × Value)} (h : OwnQ B w x y L v (p :: ns)) :
  ∃ g o cap, v = .slice (some ⟨g, o, none⟩) (ns.length + 1) cap ∧ B ≤ g ∧ g < w.heap.size ∧ ns.length + 1 ≤ cap ∧ cap ≤ maxLen ∧ w.cell? ⟨g, o, none⟩ = some (.int .i64 (difS x y L p.1).1) ∧ w.cell? ⟨g, o + 1, none⟩ = some (.int .i64 (difS x y L p.1).2) ∧ w.cell? ⟨g, o + 2, none⟩ = some p.2
   ∧ OwnQ B w x y L (.slice (some ⟨g, o + 3, none⟩) ns.length (cap - 1)) ns ∧ (cap = 1 → OwnQ B w x y L (.slice (some ⟨g, o, none⟩) ns.length 0) ns) := by
 have ha := h.all
 rw [List.length_cons] at ha
 obtain ⟨g, o, cap, rfl, h1, h2, h3, h4, h5⟩ := ha.head
 have hl : 3 ≤ ((p :: ns).flatMap (encQ x y L)).length := by rw [flat_len3, List.length_cons]; omega
 have c0 := h5 0 (by omega)
 have c1 := h5 1 (by omega)
 have c2 := h5 2 (by omega)
 have hp := ha.pop
 rw [List.flatMap_cons, List.drop_left' (encQ_len x y L p)] at hp
 refine ⟨g, o, cap, rfl, h1, h2, h3, h4, by first | (have h := c0; rw [List.flatMap_cons] at h; exact h) | exact c0, by first | (have h := c1; rw [List.flatMap_cons] at h; exact h) | exact c1, by first | (have h := c2; rw [List.flatMap_cons] at h; exact h) | exact c2, ⟨hp, fun q hq => h.rows q (List.mem_cons_of_mem _ hq)⟩, fun hc => ?_⟩
 have hn : ns = [] := List.eq_nil_of_length_eq_zero (by omega)
 subst hn
 exact ⟨hp.empty o (by omega), fun q hq => by cases hq⟩
theorem OwnQ.form {B : Nat} {w : World} {x y : Lts} {L : List ByteArray} {v : Value} {ns : List (List Nat × Value)} (h : OwnQ B w x y L v ns) : ∃ a c, v = .slice a ns.length c := by
 rcases h.all.2 with ⟨rfl, e⟩ | ⟨g, o, cap, cur, rfl, -⟩
 ·exact ⟨none, 0, by rw [e]⟩
 ·exact ⟨_, _, rfl⟩
/-- Another row was written. -/
theorem OwnQ.kept {B : Nat} {w w' : World} {x y : Lts} {L : List ByteArray} {v : Value} {ns : List (List Nat × Value)} {row : Option Nat} (h : OwnQ B w x y L v ns) (hg : w.grownBy w' row) (h1 : v.ownBlock = none ∨ v.ownBlock ≠ row) (h2 : ∀ p ∈ ns, p.2.ownBlock = none ∨ p.2.ownBlock ≠ row) : OwnQ B w' x y L v ns :=
 ⟨h.all.kept hg h1, fun p hp => (h.rows p hp).kept hg (h2 p hp)⟩
/-- The map was written. -/
theorem OwnQ.map {B : Nat} {w w' : World} {x y : Lts} {L : List ByteArray} {v : Value} {ns : List (List Nat × Value)} {b c : Nat} {es : Array MapEntry} (h : OwnQ B w x y L v ns) (hb : w.heap[b]? = some (.map es c)) (hg : w.grownBy w' (some b)) : OwnQ B w' x y L v ns := by
 refine h.kept hg ?_ fun p hp => own_map_ne (h.rows p hp) hb
 cases hv : v.ownBlock with
 | none => exact .inl rfl
 | some g => exact .inr fun e => h.all.map_far hb (by rw [hv, e])
/-- One word more. -/
theorem OwnQ.push {B : Nat} {w wA w6 : World} {x y : Lts} {L : List ByteArray} {v v' tv : Value} {ns : List (List Nat × Value)} {u : List Nat} {k : Nat} (h : OwnQ B w x y L v ns) (hb : Below w.heap.size w wA)
  (hr : wA.ownsRow B 9 1 tv (k :: u).length (txts (txtsOf L (k :: u)))) (hg : wA.grownBy w6 v.ownBlock)
  (ho : TailK w6 B 114 3 v' (ns.length + 1) (ns.flatMap (encQ x y L) ++ [.int .i64 (goTo x (difS x y L u).1 (labK L k)), .int .i64 (goTo y (difS x y L u).2 (labK L k)), tv])) : OwnQ B w6 x y L v' (ns ++ [(k :: u, tv)]) := by
 have hA := h.below hb
 refine ⟨?_, fun p hp => ?_⟩
 ·rw [List.length_append, List.flatMap_append]
  simpa [encQ, difS_cons] using ho
 ·rcases List.mem_append.1 hp with hp | hp
  ·exact (hA.rows p hp).kept hg (hA.all.type_far (hA.rows p hp) (by decide))
  ·rw [List.mem_singleton] at hp
   subst hp
   exact hr.kept hg (hA.all.type_far hr (by decide))

end Go.Proofs.YthofaoabgbgbdaaGreatDoor

namespace Go.Proofs.YthofaoabgbgbdaaGreatDoor
open Go Go.RowKit

theorem bothL_self {d : Lts} (h : LabelsOk d.labels) : bothL d d = d.labels := by
 unfold bothL
 refine labSet_eq (labels_pair h) fun x => ?_
 have h0 : tauT ∈ d.labels := by
  have : d.labels[0]'h.pos = tauT := toList_inj (by rw [h.first h.pos, tauT_list])
  rw [← this]
  exact List.getElem_mem _
 rw [List.mem_cons, List.mem_append]
 exact ⟨fun hx => hx.elim (fun e => e ▸ h0) (fun hx => hx.elim id id), fun hx => .inr (.inl hx)⟩
theorem difS_twin (d : Lts) (L : List ByteArray) : ∀ u, (difS d d L u).2 = (difS d d L u).1
 | [] => rfl
 | k :: u => by rw [difS_cons]; simp only; rw [difS_twin d L u]

end Go.Proofs.YthofaoabgbgbdaaGreatDoor

namespace Go.Proofs.YthofaoabgbgbdaaGreatDoor
open Go Go.RowKit

/-- An offer is met by none of the stable states of others. -/
def excB (a b : Lts) (after : List Int) (k : Int) : Bool := !((stabs a after).any fun j => withinL (rdy a j) (rdy b k))
def excL (a b : Lts) (after states : List Int) : Int := ((stabs b states).find? (excB a b after)).getD (-1)
theorem excL_iff {a b : Lts} {after states : List Int} (h : ∀ x ∈ states, 0 ≤ x) : 0 ≤ excL a b after states ↔ ∃ x ∈ stabs b states, excB a b after x = true := by
 unfold excL
 cases hf : (stabs b states).find? (excB a b after) with
 | none =>
  rw [List.find?_eq_none] at hf
  simp only [Option.getD_none]
  exact ⟨fun h => by omega, fun ⟨x, hx, h⟩ => absurd h (hf x hx)⟩
 | some x =>
  have h1 := List.mem_of_find?_eq_some hf
  have h2 := List.find?_some hf
  simp only [Option.getD_some]
  exact ⟨fun _ => ⟨x, h1, h2⟩, fun _ => h x (List.mem_filter.1 h1).1⟩
/-- The pair of states of both deterministic systems where the second one does something that the first one does not allow. -/
def badP (a b : Lts) (sa sb : DNet) (p : Int × Int) : Prop := 0 ≤ p.2 ∧ (p.1 < 0 ∨ 0 ≤ excL a b (setOf sa p.1) (setOf sb p.2))
/-- What is refused there. -/
def refL (a b : Lts) (sa sb : DNet) (p : Int × Int) : List ByteArray := if p.1 < 0 then [] else lackL ((bothL a b).drop 1) (rdy b (excL a b (setOf sa p.1) (setOf sb p.2)))
/-- Whether it refines; the trace; the refusal; the code. -/
def RefIs (a b : Lts) (r : Bool) (xs ys : List ByteArray) (code : Int) : Prop :=
 (¬ (Valid a ∧ Valid b) ∧ r = false ∧ xs = [] ∧ ys = [] ∧ code = 1) ∨ ((Valid a ∧ Valid b) ∧ (DFull a ∨ DFull b) ∧ r = false ∧ xs = [] ∧ ys = [] ∧ code = 5)
  ∨ ((Valid a ∧ Valid b) ∧ ∃ sa sb, DOk a sa ∧ DOk b sb ∧ code = 0 ∧ ((NoWord ((0 : Int), (0 : Int)) (goBoth (dSys a sa) (dSys b sb) (bothL a b)) ((bothL a b).length - 1) (badP a b sa sb) ∧ r = true ∧ xs = [] ∧ ys = [])
   ∨ ∃ u, Least ((0 : Int), (0 : Int)) (goBoth (dSys a sa) (dSys b sb) (bothL a b)) ((bothL a b).length - 1) (badP a b sa sb) u ∧ r = false ∧ xs = txtsOf (bothL a b) u ∧ ys = refL a b sa sb (difS (dSys a sa) (dSys b sb) (bothL a b) u)))
theorem RefIs.unique {a b : Lts} {r r' : Bool} {xs xs' ys ys' : List ByteArray} {code code' : Int} (h : RefIs a b r xs ys code) (k : RefIs a b r' xs' ys' code') : r = r' ∧ xs = xs' ∧ ys = ys' ∧ code = code' := by
 rcases h with ⟨h1, h2, h3, h4, h5⟩ | ⟨h1, h2, h3, h4, h5, h6⟩ | ⟨h1, sa, sb, h2, h3, h4, h5⟩ <;>
  rcases k with ⟨k1, k2, k3, k4, k5⟩ | ⟨k1, k2, k3, k4, k5, k6⟩ | ⟨k1, sa', sb', k2, k3, k4, k5⟩ <;>
  first
  | exact absurd k1 h1
  | exact absurd h1 k1
  | exact ⟨h2.trans k2.symm, h3.trans k3.symm, h4.trans k4.symm, h5.trans k5.symm⟩
  | exact ⟨h3.trans k3.symm, h4.trans k4.symm, h5.trans k5.symm, h6.trans k6.symm⟩
  | exact absurd k2 (fun e => e.elim h2.not_full h3.not_full)
  | exact absurd h2 (fun e => e.elim k2.not_full k3.not_full)
  | skip
 have e1 := h2.1.unique k2.1
 have e2 := h3.1.unique k3.1
 subst e1 e2
 rcases h5 with ⟨a1, a2, a3, a4⟩ | ⟨u, a1, a2, a3, a4⟩ <;> rcases k5 with ⟨b1, b2, b3, b4⟩ | ⟨u', b1, b2, b3, b4⟩ <;>
  first
  | exact ⟨a2.trans b2.symm, a3.trans b3.symm, a4.trans b4.symm, h4.trans k4.symm⟩
  | exact (b1.some a1).elim
  | exact (a1.some b1).elim
  | (have := a1.unique b1; subst this; exact ⟨a2.trans b2.symm, a3.trans b3.symm, a4.trans b4.symm, h4.trans k4.symm⟩)
/-- The same, of both directions. -/
def EqfIs (a b : Lts) (r : Bool) (code : Int) : Prop := ∃ r1 xs1 ys1 r2 xs2 ys2, RefIs a b r1 xs1 ys1 code ∧ RefIs b a r2 xs2 ys2 code ∧ r = (r1 && r2)
theorem EqfIs.unique {a b : Lts} {r r' : Bool} {code code' : Int} (h : EqfIs a b r code) (k : EqfIs a b r' code') : r = r' ∧ code = code' := by
 obtain ⟨r1, x1, y1, r2, x2, y2, h1, h2, rfl⟩ := h
 obtain ⟨s1, z1, u1, s2, z2, u2, k1, k2, rfl⟩ := k
 obtain ⟨rfl, -, -, rfl⟩ := h1.unique k1
 obtain ⟨rfl, -⟩ := h2.unique k2
 exact ⟨rfl, rfl⟩

end Go.Proofs.YthofaoabgbgbdaaGreatDoor

namespace Go.Proofs.YthofaoabgbgbdaaGreatDoor
open Go Go.RowKit

noncomputable section
/-- Behind a label from a set. -/
def nxtL (t : Lts) (S : List Int) (l : ByteArray) : List Int := if inT t.labels l = true then nextS t S (idxL t.labels l : Nat) else []
/-- Behind a trace. -/
def aftL (t : Lts) (tr : List ByteArray) : List Int := tr.foldl (nxtL t) (firstS t)
end
theorem aftL_snoc (t : Lts) (tr : List ByteArray) (l : ByteArray) : aftL t (tr ++ [l]) = nxtL t (aftL t tr) l := by unfold aftL; rw [List.foldl_append]; rfl
/-- A label leads from a state of the deterministic system to the set behind its set. -/
theorem set_goL {t : Lts} {st : DNet} (hv : Valid t) (h : DOk t st) {q : Int} (hq : q < (dSys t st).states) {l : ByteArray} (hl : l ≠ tauT) : setOf st (goTo (dSys t st) q l) = nxtL t (setOf st q) l := by
 unfold nxtL
 by_cases hm : inT t.labels l = true
 ·rw [if_pos hm]
  obtain ⟨hk, he, -⟩ := idxL_get (inT_mem.1 hm)
  obtain ⟨h0, ht⟩ := tau_first hv
  have h1 : 1 ≤ idxL t.labels l := by
   refine Nat.one_le_iff_ne_zero.2 fun e => hl ?_
   have : t.labels[idxL t.labels l] = t.labels[0] := by congr 1
   rw [← he, this, ht]
  have h2 := set_go hv h hq (k := idxL t.labels l - 1) (by omega)
  have h3 : labK t.labels (idxL t.labels l - 1) = l := by
   unfold labK
   rw [show idxL t.labels l - 1 + 1 = idxL t.labels l from by omega, List.getD_eq_getElem?_getD, List.getElem?_eq_getElem hk]
   exact he
  rw [h3] at h2
  rw [h2]
  congr 1
  omega
 ·rw [if_neg hm]
  have hG := dok_good hv h
  refine setOf_neg ?_
  unfold goTo
  split
  ·decide
  ·have hfind : st.edges.find? (hitB (dSys t st) q l) = none := by
    refine find_none fun j hj => ?_
    unfold hitB
    rw [Bool.and_eq_false_iff]
    right
    rw [beq_eq_false_iff_ne]
    intro hb
    obtain ⟨h1, h2, -⟩ := lab_get hG (List.getElem_mem hj)
    have h4 : (labAt (dSys t st) st.edges[j]) = t.labels[st.edges[j].lab.toNat] := h2
    rw [h4] at hb
    exact hm (inT_mem.2 (toList_inj hb ▸ List.getElem_mem h1))
   show ((st.edges.find? _).map Edge.dst).getD (-1) < 0
   rw [hfind]
   decide
theorem labK_tau {L : List ByteArray} (hL : InOrd L) {k : Nat} (hk : k + 1 < L.length) : labK L k ≠ tauT := by
 intro e
 have h0 := hL.first
 obtain ⟨h1, h2⟩ := List.getElem?_eq_some_iff.1 h0
 have h3 := hL.asc
 rw [List.pairwise_map, List.pairwise_iff_getElem] at h3
 have h4 := h3 0 (k + 1) h1 hk (by omega)
 have h5 : L[k + 1] = tauT := by rw [← e]; unfold labK; rw [List.getD_eq_getElem?_getD, List.getElem?_eq_getElem hk]; rfl
 rw [h2, h5, lessL_irrefl] at h4
 cases h4
/-- Behind the trace of a word stand the sets of the states where the word leads. -/
theorem aft_word {a b : Lts} {sa sb : DNet} (ha : Valid a) (hb : Valid b) (hoa : DOk a sa) (hob : DOk b sb) {L : List ByteArray} (hL : InOrd L) : ∀ u, WOk (L.length - 1) u → aftL a (txtsOf L u) = setOf sa (difS (dSys a sa) (dSys b sb) L u).1 ∧ aftL b (txtsOf L u) = setOf sb (difS (dSys a sa) (dSys b sb) L u).2
 | [], _ => ⟨(set_first hoa).symm, (set_first hob).symm⟩
 | k :: u, hw => by
  have hk : k < L.length - 1 := hw k (by simp)
  obtain ⟨h1, h2⟩ := aft_word ha hb hoa hob hL u fun x hx => hw x (List.mem_cons_of_mem _ hx)
  have hr := difS_range (dSys_valid ha hoa) (dSys_valid hb hob) L u
  have ht := labK_tau hL (k := k) (by omega)
  rw [txtsOf_cons, aftL_snoc, aftL_snoc, h1, h2, difS_cons]
  exact ⟨(set_goL ha hoa hr.1.1 ht).symm, (set_goL hb hob hr.2.1 ht).symm⟩

/-- A stable state refuses the label. -/
def refuseB (t : Lts) (states : List Int) (l : ByteArray) : Bool := (stabs t states).any fun j => !inT (rdy t j) l
/-- The label leads on, and may be refused. -/
def sometimes (t : Lts) (states : List Int) (l : ByteArray) : Bool := decide (0 < (followL t states l).length) && refuseB t states l
def undetL (t : Lts) (states : List Int) : ByteArray := ((t.labels.drop 1).find? (sometimes t states)).getD ByteArray.empty
theorem undet_iff {t : Lts} (hv : Valid t) {states : List Int} : undetL t states ≠ ByteArray.empty ↔ ∃ k, k + 1 < t.labels.length ∧ sometimes t states (labK t.labels k) = true := by
 unfold undetL
 constructor
 ·intro h
  cases hf : (t.labels.drop 1).find? (sometimes t states) with
  | none => rw [hf] at h; exact absurd rfl h
  | some s =>
   have h1 := List.mem_of_find?_eq_some hf
   have h2 := List.find?_some hf
   obtain ⟨k, hk, rfl⟩ := List.mem_iff_getElem.1 h1
   rw [List.length_drop] at hk
   refine ⟨k, by omega, ?_⟩
   have : labK t.labels k = (t.labels.drop 1)[k] := by
    have h9 : (t.labels.drop 1)[k] = t.labels[k + 1] := by
     rw [List.getElem_drop]
     congr 1
     omega
    rw [h9]
    unfold labK
    rw [List.getD_eq_getElem?_getD, List.getElem?_eq_getElem (by omega)]
    rfl
   rw [this]
   exact h2
 ·rintro ⟨k, hk, hs⟩
  have hm : labK t.labels k ∈ t.labels.drop 1 := by
   unfold labK
   rw [List.getD_eq_getElem?_getD, List.getElem?_eq_getElem hk]
   refine List.mem_iff_getElem.2 ⟨k, by rw [List.length_drop]; omega, ?_⟩
   rw [List.getElem_drop]
   show t.labels[1 + k] = t.labels[k + 1]
   congr 1
   omega
  cases hf : (t.labels.drop 1).find? (sometimes t states) with
  | none =>
   rw [List.find?_eq_none] at hf
   exact absurd hs (hf _ hm)
  | some s =>
   have h1 := List.mem_of_find?_eq_some hf
   obtain ⟨j, hj, rfl⟩ := List.mem_iff_getElem.1 h1
   rw [List.length_drop] at hj
   simp only [Option.getD_some]
   intro e
   have h3 := hv.labels.label (1 + j) (by omega) (by omega)
   rw [List.getElem_drop] at e
   rw [e] at h3
   exact absurd h3 (by decide)
/-- Whether it is determinate; the trace, the label, the code. -/
def DetmIs (t : Lts) (r : Bool) (xs : List ByteArray) (s : ByteArray) (code : Int) : Prop :=
 (¬ Valid t ∧ r = false ∧ xs = [] ∧ s = ByteArray.empty ∧ code = 1) ∨ (Valid t ∧ DFull t ∧ r = false ∧ xs = [] ∧ s = ByteArray.empty ∧ code = 5)
  ∨ (Valid t ∧ ∃ st, DOk t st ∧ code = 0 ∧ ((NoWord ((0 : Int), (0 : Int)) (goBoth (dSys t st) (dSys t st) t.labels) (t.labels.length - 1) (liveF fun p => undetL t (setOf st p.1) ≠ ByteArray.empty) ∧ r = true ∧ xs = [] ∧ s = ByteArray.empty)
   ∨ ∃ u, Least ((0 : Int), (0 : Int)) (goBoth (dSys t st) (dSys t st) t.labels) (t.labels.length - 1) (liveF fun p => undetL t (setOf st p.1) ≠ ByteArray.empty) u ∧ r = false ∧ xs = txtsOf t.labels u ∧ s = undetL t (setOf st (difS (dSys t st) (dSys t st) t.labels u).1)))
theorem DetmIs.unique {t : Lts} {r r' : Bool} {xs xs' : List ByteArray} {s s' : ByteArray} {code code' : Int} (h : DetmIs t r xs s code) (k : DetmIs t r' xs' s' code') : r = r' ∧ xs = xs' ∧ s = s' ∧ code = code' := by
 rcases h with ⟨h1, h2, h3, h4, h5⟩ | ⟨h1, h2, h3, h4, h5, h6⟩ | ⟨h1, st, h2, h4, h3⟩ <;> rcases k with ⟨k1, k2, k3, k4, k5⟩ | ⟨k1, k2, k3, k4, k5, k6⟩ | ⟨k1, st', k2, k4, k3⟩ <;>
  first
  | exact absurd k1 h1
  | exact absurd h1 k1
  | exact ⟨h2.trans k2.symm, h3.trans k3.symm, h4.trans k4.symm, h5.trans k5.symm⟩
  | exact ⟨h3.trans k3.symm, h4.trans k4.symm, h5.trans k5.symm, h6.trans k6.symm⟩
  | exact absurd k2 h2.not_full
  | exact absurd h2 k2.not_full
  | skip
 have e := h2.1.unique k2.1
 subst e
 rcases h3 with ⟨a1, a2, a3, a4⟩ | ⟨u, a1, a2, a3, a4⟩ <;> rcases k3 with ⟨b1, b2, b3, b4⟩ | ⟨u', b1, b2, b3, b4⟩
 ·exact ⟨a2.trans b2.symm, a3.trans b3.symm, a4.trans b4.symm, h4.trans k4.symm⟩
 ·exact (b1.some a1).elim
 ·exact (a1.some b1).elim
 ·have := a1.unique b1
  subst this
  exact ⟨a2.trans b2.symm, a3.trans b3.symm, a4.trans b4.symm, h4.trans k4.symm⟩

end Go.Proofs.YthofaoabgbgbdaaGreatDoor
