/-
  How the explorer of sets lies in the program's memory; keys of sets.
  What the explorer's find computes: the place of a set among the rows, a new row for a new set.
  What states offer, stable states, and where one system does not refine another one. Plain.
  The reference's place of a number among numbers.
  The system with the observations that there is no output. Plain.
-/
import Derived.Test.YtkbgncenjfebdaaGreatDoorT8
import Derived.Test.YtkbgncenjfebdaaGreatDoorT11
import Derived.Test.YtkbgncenjfebdaaGreatDoorT10
import Derived.Test.YtkbgncenjfebdaaGreatDoorT12
import Derived.Test.YtkbgncenjfebdaaGreatDoorT7
import Derived.Lib.ItoaNum
import Derived.Lib.ItoaLen
import Derived.Deep.RegionLaw
import Derived.Deep.AppendLies
namespace Go.Proofs.YtkbgncenjfebdaaGreatDoor
open Go Go.RowKit
open Go.Maps (Keyed)

/-- The key of a set: its numbers in decimal with commas between. -/
def keyT (r : List Int) : ByteArray := ⟨(Lib.join ((wordsOf r).map (·.data.toList)) [44]).toArray⟩
def keyV (r : List Int) : Value := .string (keyT r)
theorem split_join (c : UInt8) : ∀ ws : List (List UInt8), ws ≠ [] → (∀ w ∈ ws, ∀ x ∈ w, (x == c) = false) → splitAt c (Lib.join ws [c]) = ws
 | [], h, _ => absurd rfl h
 | [a], _, h => by
  rw [show Lib.join [a] [c] = a from by simp [Lib.join]]
  exact splitAt_none (h a (by simp))
 | a :: b :: r, _, h => by
  rw [show Lib.join (a :: b :: r) [c] = a ++ c :: Lib.join (b :: r) [c] from by simp [Lib.join], splitAt_hit (h a (by simp)), split_join c (b :: r) (by simp) (fun w hw => h w (List.mem_cons_of_mem _ hw))]
theorem digit_44 : digit 44 = false := by decide
theorem words_clean {r : List Int} (h : ∀ x ∈ r, 0 ≤ x) : ∀ w ∈ (wordsOf r).map (·.data.toList), ∀ x ∈ w, (x == 44) = false := by
 intro w hw x hx
 unfold wordsOf at hw
 rw [List.map_map, List.mem_map] at hw
 obtain ⟨n, hn, rfl⟩ := hw
 have h0 := h n hn
 obtain ⟨m, rfl⟩ : ∃ m : Nat, n = (m : Int) := ⟨n.toNat, by omega⟩
 simp only [Function.comp, itoa_eq] at hx
 have hd := List.all_eq_true.1 (decDigits_digit m) x (by simpa using hx)
 cases he : (x == 44) with
 | false => rfl
 | true =>
  rw [beq_iff_eq] at he
  subst he
  rw [digit_44] at hd
  cases hd
theorem val_decDigits : ∀ m : Nat, valFrom 0 (Lib.decDigits m) = m := by
 intro m
 induction m using Nat.strongRecOn with
 | _ m ih =>
  by_cases h : m < 10
  ·rw [Lib.decDigits_one h, valFrom_cons, valFrom_nil]
   have : (UInt8.ofNat (48 + m)).toNat = 48 + m := by rw [UInt8.toNat_ofNat']; omega
   omega
  ·have h1 : m = 10 * (m / 10) + m % 10 := by omega
   conv => lhs; rw [h1]
   rw [decDigits_step (m / 10) (m % 10) (by omega) (by omega), valFrom_append, ih (m / 10) (by omega), valFrom_cons, valFrom_nil]
   have : (UInt8.ofNat (48 + m % 10)).toNat = 48 + m % 10 := by rw [UInt8.toNat_ofNat']; omega
   omega
theorem decDigits_inj {m n : Nat} (h : Lib.decDigits m = Lib.decDigits n) : m = n := by
 rw [← val_decDigits m, h, val_decDigits]
theorem join_len (c : UInt8) : ∀ ws : List (List UInt8), (∀ w ∈ ws, w.length ≤ 21) → (Lib.join ws [c]).length ≤ 22 * ws.length
 | [], _ => by simp [Lib.join]
 | [a], h => by
  have := h a (by simp)
  simp [Lib.join]
  omega
 | a :: b :: r, h => by
  have h1 := h a (by simp)
  have h2 := join_len c (b :: r) (fun w hw => h w (List.mem_cons_of_mem _ hw))
  rw [show Lib.join (a :: b :: r) [c] = a ++ c :: Lib.join (b :: r) [c] from by simp [Lib.join], List.length_append, List.length_cons]
  simp only [List.length_cons] at h2 ⊢
  omega
theorem keyT_len {r : List Int} (h : ∀ x ∈ r, -9223372036854775808 ≤ x ∧ x ≤ 9223372036854775807) : (Lib.join ((wordsOf r).map (·.data.toList)) [44]).length ≤ 22 * r.length := by
 have h1 := join_len 44 ((wordsOf r).map (·.data.toList)) (fun w hw => by
  unfold wordsOf at hw
  rw [List.map_map, List.mem_map] at hw
  obtain ⟨n, hn, rfl⟩ := hw
  simpa [Function.comp] using Lib.itoa_length_le n (h n hn).1 (h n hn).2)
 simpa [wordsOf] using h1
theorem keyT_size {r : List Int} (h : ∀ x ∈ r, -9223372036854775808 ≤ x ∧ x ≤ 9223372036854775807) : (keyT r).size ≤ 22 * r.length := by
 have := keyT_len h
 rw [← len_data]
 simpa [keyT] using this
theorem keyT_inj {a b : List Int} (ha : a ≠ []) (hb : b ≠ []) (pa : ∀ x ∈ a, 0 ≤ x) (pb : ∀ x ∈ b, 0 ≤ x) (h : keyT a = keyT b) : a = b := by
 have h1 : Lib.join ((wordsOf a).map (·.data.toList)) [44] = Lib.join ((wordsOf b).map (·.data.toList)) [44] := by
  have := congrArg (fun s : ByteArray => s.data.toList) h
  simpa [keyT] using this
 have h2 := split_join 44 _ (by simp [wordsOf]; exact ha) (words_clean pa)
 rw [h1, split_join 44 _ (by simp [wordsOf]; exact hb) (words_clean pb)] at h2
 unfold wordsOf at h2
 rw [List.map_map, List.map_map] at h2
 apply List.ext_getElem
 ·have := congrArg List.length h2
  simpa using this.symm
 ·intro i hi hj
  have h3 : (b.map fun n => Lib.itoa n)[i]? = (a.map fun n => Lib.itoa n)[i]? := by
   have := congrArg (fun l => l[i]?) h2
   simpa [Function.comp_def] using this
  rw [List.getElem?_map, List.getElem?_map, List.getElem?_eq_getElem hi, List.getElem?_eq_getElem hj] at h3
  simp only [Option.map_some, Option.some.injEq] at h3
  have h4 := pa _ (List.getElem_mem hi)
  have h5 := pb _ (List.getElem_mem hj)
  obtain ⟨m, hm⟩ : ∃ m : Nat, a[i] = (m : Int) := ⟨a[i].toNat, by omega⟩
  obtain ⟨n, hn⟩ : ∃ n : Nat, b[i] = (n : Int) := ⟨b[i].toNat, by omega⟩
  rw [hm, hn, itoa_eq, itoa_eq] at h3
  rw [hm, hn, decDigits_inj h3]

theorem keyedS : Keyed Tryz.prog 9 := Go.Maps.string_keyed Tryz.underlying9
theorem keyOfS (b : ByteArray) (h : b.size ≤ 1048576) : ∃ l, keyOf Tryz.prog 9 (.string b) = some l := ⟨.string b.data.toList, by
 have h2 : b.size ≤ maxLen := by unfold maxLen; omega
 simp [keyOf, mapKey, Tryz.underlying9, h2]⟩
theorem underMapS : Tryz.prog.underlying 194 = some (.map 9 2) := Tryz.underlying194
theorem zeroI64 (w : World) : (zeroValue 2).run Tryz.prog w = .ok (.int .i64 0) w := by kernel_rfl

/-- An arc: an edge with its label as a text. -/
def encA (t : Lts) (e : Edge) : List Value := [.int .i64 e.src, .string (labAt t e), .int .i64 e.dst]
/-- The explorer: its four fields, the variable that holds its address, the loop's variable. -/
structure ExpAt (B xb mb pb ib rb : Nat) (on : Bool) (i : Nat) (t : Lts) (st : DNet) (sv av : Value) (vs : List Value) (w : World) : Prop where
 base : B ≤ xb
 mbase : B ≤ mb
 pbase : B ≤ pb
 ibase : B ≤ ib
 rbase : B ≤ rb
 box : Blk w xb [sv, .map (some mb), av, .func (.func 146) #[] #[]] 196
 ptr : Blk w pb [.pointer (some ⟨xb, 0, none⟩)] 193
 idx : on = true → Blk w ib [.int .i64 i] 3
 res : Blk w rb [.int .i64 0, .int .i64 0, .slice none 0 0, .slice none 0 0] 30
 rows : OwnIntss 56 2 B w sv vs st.rows
 map : NumMap .i64 w mb (st.rows.map keyV)
 arcs : w.ownsRow B 129 3 av st.edges.length (st.edges.flatMap (encA t))
theorem ExpAt.below {on : Bool} {B xb mb pb ib rb i : Nat} {t : Lts} {st : DNet} {sv av : Value} {vs : List Value} {w w' : World} (h : ExpAt B xb mb pb ib rb on i t st sv av vs w) (hb : Below w.heap.size w w') : ExpAt B xb mb pb ib rb on i t st sv av vs w' :=
 ⟨h.base, h.mbase, h.pbase, h.ibase, h.rbase, h.box.below hb, h.ptr.below hb, fun ho => (h.idx ho).below hb, h.res.below hb, h.rows.below hb, h.map.below hb, owns_below h.arcs hb⟩

/-- One row more, which lies elsewhere than the rows that are there. -/
theorem OwnIntss.pushB {eo ei lo B2 : Nat} {w w' : World} {v v' rv : Value} {vs : List Value} {xss : List (List Int)} {xs : List Int} (he : eo ≠ ei) (h : OwnIntss eo ei lo w v vs xss) (hlow : ∀ (i : Nat) (h : i < vs.length) b, vs[i].ownBlock = some b → b < B2)
  (hr : w.ownsRow B2 ei 1 rv xs.length (xs.map (Value.int .i64))) (hlo : lo ≤ B2) (hg : w.grownBy w' v.ownBlock) (hv : w'.ownsRow lo eo 1 v' (vs.length + 1) (vs ++ [rv])) : OwnIntss eo ei lo w' v' (vs ++ [rv]) (xss ++ [xs]) := by
 obtain ⟨h1, h2, h3, h4, h5⟩ := h
 have hrow : ∀ (i : Nat) (h : i < vs.length) (h' : i < xss.length), w'.ownsRow lo ei 1 vs[i] xss[i].length (xss[i].map (Value.int .i64)) := fun i hi hi' => (h3 i hi hi').kept hg (h5 i hi)
 have hnew : w'.ownsRow lo ei 1 rv xs.length (xs.map (Value.int .i64)) := (own_lower hr hlo).kept hg (own_types hr h2 (fun e => he e.symm))
 have hall : ∀ (i : Nat) (h : i < (vs ++ [rv]).length) (h' : i < (xss ++ [xs]).length), w'.ownsRow lo ei 1 (vs ++ [rv])[i] (xss ++ [xs])[i].length ((xss ++ [xs])[i].map (Value.int .i64)) := fun i hi hi' => by
  by_cases hlt : i < vs.length
  ·rw [List.getElem_append_left hlt]
   simp only [List.getElem_append_left (show i < xss.length by omega)]
   exact hrow i hlt (by omega)
  ·have e : i = vs.length := by simp at hi; omega
   subst e
   simp only [List.getElem_concat_length]
   have : (xss ++ [xs])[vs.length] = xs := by simp [h1]
   rw [this]
   exact hnew
 refine ⟨by simp [h1], by simpa using hv, hall, fun i j hi hj hij => ?_, fun i hi => own_types (hall i hi (by simp at hi ⊢; omega)) hv (fun e => he e.symm)⟩
 have hnb : ∀ b, rv.ownBlock = some b → B2 ≤ b := fun b e => (hr.lt b e).1
 by_cases h1' : i < vs.length <;> by_cases h2' : j < vs.length
 ·rw [List.getElem_append_left h1', List.getElem_append_left h2']
  exact h4 i j h1' h2' hij
 ·have e : j = vs.length := by simp at hj; omega
  subst e
  rw [List.getElem_append_left h1', List.getElem_concat_length rfl]
  cases hb1 : vs[i].ownBlock with
  | none => exact .inl rfl
  | some b => exact .inr fun e => by have := hlow i h1' b hb1; have := hnb b e.symm; omega
 ·have e : i = vs.length := by simp at hi; omega
  subst e
  rw [List.getElem_append_left h2', List.getElem_concat_length rfl]
  cases hb1 : rv.ownBlock with
  | none => exact .inl rfl
  | some b => exact .inr fun e => by have := hlow j h2' b e.symm; have := hnb b hb1; omega
 ·simp at hi hj; omega

end Go.Proofs.YtkbgncenjfebdaaGreatDoor

namespace Go.Proofs.YtkbgncenjfebdaaGreatDoor
open Go Go.RowKit

theorem blk_map_ne' {w : World} {b : Nat} {cs : List Value} {t : TypeId} (h : Blk w b cs t) {m : Nat} {es : Array MapEntry} {c : Nat} (hm : w.heap[m]? = some (.map es c)) : b ≠ m := by
 intro e
 subst e
 unfold Blk at h
 rw [h] at hm
 cases hm
theorem blk_own_ne' {w : World} {b : Nat} {cs : List Value} {t : TypeId} (h : Blk w b cs t) {base e size n : Nat} {v : Value} {xs : List Value} (ho : w.ownsRow base e size v n xs) (he : e ≠ t) : some b ≠ v.ownBlock := by
 rcases own_type_ne ho (show w.heap[b]? = some (.cells cs.toArray t (0, 0)) from h) he with h | h
 ·rw [h]; simp
 ·exact fun e => h e.symm
theorem blk_blk_ne {w : World} {b c : Nat} {cs ds : List Value} {t u : TypeId} (h : Blk w b cs t) (k : Blk w c ds u) (he : t ≠ u) : b ≠ c := by
 intro e
 subst e
 unfold Blk at h k
 rw [h] at k
 simp only [Option.some.injEq, Obj.cells.injEq] at k
 exact he k.2.1

/-- A set that can be a row: not empty, its numbers small. -/
structure RowOk (r : List Int) : Prop where
 ne : r ≠ []
 len : r.length ≤ 40
 low : ∀ x ∈ r, 0 ≤ x ∧ x < 40
theorem RowOk.i64 {r : List Int} (h : RowOk r) : ∀ x ∈ r, -9223372036854775808 ≤ x ∧ x ≤ 9223372036854775807 := fun x hx => by have := h.low x hx; omega
theorem RowOk.size {r : List Int} (h : RowOk r) : (keyT r).size ≤ 1048576 := by have := keyT_size h.i64; have := h.len; omega
theorem RowOk.key {r : List Int} (h : RowOk r) : ∃ l, keyOf Tryz.prog 9 (keyV r) = some l := keyOfS _ h.size
theorem RowOk.inj {a b : List Int} (ha : RowOk a) (hb : RowOk b) (h : keyV a = keyV b) : a = b :=
 keyT_inj ha.ne hb.ne (fun x hx => (ha.low x hx).1) (fun x hx => (hb.low x hx).1) (by unfold keyV at h; exact Value.string.inj h)
theorem keysV_nodup {rows : List (List Int)} (hd : rows.Nodup) (ho : ∀ r ∈ rows, RowOk r) : (rows.map keyV).Nodup := by
 rw [List.nodup_iff_pairwise_ne, List.pairwise_map]
 refine List.Pairwise.imp_of_mem ?_ (List.nodup_iff_pairwise_ne.1 hd)
 intro a b ha hb hne e
 exact hne ((ho a ha).inj (ho b hb) e)

theorem keyfn_any (lo : Nat) (rv : Value) (r : List Int) (w : World) (hr : RowOk r) (hs : SliceK 1 encI lo w rv r) (g : Glob w) :
  Calls Tryz.prog 146 #[rv] w fun e w' => e = .returned (keyV r) ∧ Below w.heap.size w w' := by
 have HJ := Lib.hid (joined_any rv ⟨#[44]⟩ lo r w (by have := hr.len; omega) (fun i hi => hr.i64 _ (List.getElem_mem hi)) hs g (by
  have h1 := keyT_len hr.i64
  have h2 := hr.len
  show (Lib.join ((wordsOf r).map (·.data.toList)) [44]).length ≤ 1073741824
  omega))
 clear hs g
 go_enter Tryz.func146, Tryz.ntmps146
 go_wp2_with fail
 refine Calls.mono HJ.out ?_
 rintro e w1 ⟨rfl, hb⟩
 have HB := Lib.hid hb
 clear hb HJ
 go_wp2
 go_ret
 exact ⟨rfl, HB.out⟩

/-- After the map and the list have grown. -/
theorem ExpAt.grow {on : Bool} {B xb mb pb ib rb i B2 : Nat} {t : Lts} {st : DNet} {sv av sv' rv : Value} {vs : List Value} {r : List Int} {w1 w2 w3 w4 : World} (h : ExpAt B xb mb pb ib rb on i t st sv av vs w1) (hg2 : w1.grownBy w2 (some mb)) (hm2 : NumMap .i64 w2 mb (st.rows.map keyV ++ [keyV r]))
  (hb3 : Below w2.heap.size w2 w3) (hg4 : w3.grownBy w4 sv.ownBlock) (ho4 : w4.ownsRow B 56 1 sv' (vs.length + 1) (vs ++ [rv])) (hlow : ∀ (i : Nat) (h : i < vs.length) b, vs[i].ownBlock = some b → b < B2) (hB2 : B ≤ B2)
  (hr : w1.ownsRow B2 2 1 rv r.length (r.map (Value.int .i64))) :
  ExpAt B xb mb pb ib rb on i t ⟨st.rows ++ [r], st.edges⟩ sv' av (vs ++ [rv]) (w4.setCell ⟨xb, 0, none⟩ sv') := by
 have mblk : w1.heap[mb]? = some (.map (((st.rows.map keyV).mapIdx fun i k => (⟨k, .int .i64 i, i⟩ : MapEntry)).toArray) (st.rows.map keyV).length) := h.map
 have X2 := (h.box.below (Below.refl _ _)) 
 have X2 : Blk w2 xb _ _ := (hg2.block xb h.box.lt (fun e => blk_map_ne' h.box mblk (Option.some.inj e))).trans h.box
 have P2 : Blk w2 pb _ _ := (hg2.block pb h.ptr.lt (fun e => blk_map_ne' h.ptr mblk (Option.some.inj e))).trans h.ptr
 have I2 := fun (ho : on = true) => (show Blk w2 ib [.int .i64 i] 3 from (hg2.block ib (h.idx ho).lt (fun e => blk_map_ne' (h.idx ho) mblk (Option.some.inj e))).trans (h.idx ho))
 have S2 : Blk w2 rb _ _ := (hg2.block rb h.res.lt (fun e => blk_map_ne' h.res mblk (Option.some.inj e))).trans h.res
 have R2 := h.rows.kept hg2 (own_map_ne h.rows.2.1 mblk) (fun j hj => own_map_ne (h.rows.2.2.1 j hj (by rw [← h.rows.1]; exact hj)) mblk)
 have A2 := h.arcs.kept hg2 (own_map_ne h.arcs mblk)
 have V2 := hr.kept hg2 (own_map_ne hr mblk)
 have X3 := X2.below hb3
 have P3 := P2.below hb3
 have I3 := fun ho => (I2 ho).below hb3
 have S3 := S2.below hb3
 have R3 := R2.below hb3
 have A3 := owns_below A2 hb3
 have V3 := owns_below V2 hb3
 have M3 := hm2.below hb3
 have X4 : Blk w4 xb _ _ := (hg4.block xb X3.lt (blk_own_ne' X3 R3.2.1 (by decide))).trans X3
 have P4 : Blk w4 pb _ _ := (hg4.block pb P3.lt (blk_own_ne' P3 R3.2.1 (by decide))).trans P3
 have I4 := fun (ho : on = true) => (show Blk w4 ib [.int .i64 i] 3 from (hg4.block ib (I3 ho).lt (blk_own_ne' (I3 ho) R3.2.1 (by decide))).trans (I3 ho))
 have S4 : Blk w4 rb _ _ := (hg4.block rb S3.lt (blk_own_ne' S3 R3.2.1 (by decide))).trans S3
 have M4 := M3.kept hg4 (fun e => by
  rcases own_map_ne R3.2.1 M3 with h | h
  ·rw [h] at e; cases e
  ·exact h e.symm)
 have A4 := A3.kept hg4 (own_types A3 R3.2.1 (by decide))
 have R4 := OwnIntss.pushB (by decide) R3 hlow V3 hB2 hg4 ho4
 have hs := grown_setCell w4 ⟨xb, 0, none⟩ sv'
 refine ⟨h.base, h.mbase, h.pbase, h.ibase, h.rbase, X4.set 0 sv', P4.setOther _ _ (blk_blk_ne P4 X4 (by decide)), (fun ho => (I4 ho).setOther _ _ (blk_blk_ne (I4 ho) X4 (by decide))), S4.setOther _ _ (blk_blk_ne S4 X4 (by decide)), ?_, ?_, ?_⟩
 ·exact R4.kept hs (own_type_ne R4.2.1 X4 (by decide)) (fun j hj => own_type_ne (R4.2.2.1 j hj (by rw [← R4.1]; exact hj)) X4 (by decide))
 ·have := M4.kept hs (fun e => blk_map_ne' X4 M4 (Option.some.inj e).symm)
  simpa using this
 ·exact A4.kept hs (own_type_ne A4 X4 (by decide))

set_option maxRecDepth 100000 in
set_option maxHeartbeats 2000000 in
theorem findS_old (B xb mb pb ib rb : Nat) (on : Bool) (i B2 : Nat) (t : Lts) (st : DNet) (sv av rv : Value) (vs : List Value) (r : List Int) (w : World) (h : ExpAt B xb mb pb ib rb on i t st sv av vs w) (hd : st.rows.Nodup) (hok : ∀ r ∈ st.rows, RowOk r) (hr : RowOk r)
  (hv : w.ownsRow B2 2 1 rv r.length (r.map (Value.int .i64))) (hm : r ∈ st.rows) (g : Glob w) :
  Calls Tryz.prog 184 #[.pointer (some ⟨xb, 0, none⟩), rv] w fun e w' => e = .returned (.int .i64 (dplace st.rows r)) ∧ Below w.heap.size w w' := by
 have hpl := dplace_lt.2 hm
 have hpk : dplace st.rows r < (st.rows.map keyV).length := by rw [List.length_map]; exact hpl
 have HL := Lib.hid (fun (w' : World) (hm : NumMap .i64 w' mb (st.rows.map keyV)) => hm.found keyedS underMapS (fun v hv => by obtain ⟨q', hq', rfl⟩ := List.mem_map.1 hv; exact (hok q' hq').key) (keysV_nodup hd hok) hpk)
 have hk3 : (st.rows.map keyV)[dplace st.rows r] = keyV r := by rw [List.getElem_map, dplace_get hpl]
 rw [hk3] at HL
 obtain ⟨n, hn⟩ : ∃ n, n = dplace st.rows r := ⟨_, rfl⟩
 rw [← hn] at HL
 have HN := Lib.hid hn
 have HK := Lib.hid (keyfn_any B2 rv r w hr (SliceK.of_owns (enc := encI) encI_len rfl (by rw [flat_encI]; exact hv)) g)
 have HE := Lib.hid h
 have x3 := h.box.cell 3 rfl
 have hxl := h.box.lt
 clear h hd hok hr hv hm g hpl hpk hk3 hn
 go_enter Tryz.func184, Tryz.ntmps184
 go_wp2_with fail
 refine Calls.mono HK.out ?_
 rintro e w1 ⟨rfl, hb1⟩
 have HB1 := Lib.hid hb1
 have x1 := (HE.out.below hb1).box.cell 1 rfl
 have hlk := HL.out w1 (HE.out.map.below hb1)
 unfold keyV at hlk ⊢
 clear hb1 HK x3
 go_wp2
 go_ret
 exact ⟨by rw [← HN.out]; rfl, HB1.out⟩

theorem info_intsF : (Tryz.prog.info? 56).map (fun i => (i.zero, i.size, i.bytes)) = some (some (.slice none 0 0), 1, 24) := by kernel_rfl

set_option maxRecDepth 100000 in
set_option maxHeartbeats 4000000 in
theorem findS_new (B xb mb pb ib rb : Nat) (on : Bool) (i B2 : Nat) (t : Lts) (st : DNet) (sv av rv : Value) (vs : List Value) (r : List Int) (w : World) (hB : B ≤ w.heap.size) (h : ExpAt B xb mb pb ib rb on i t st sv av vs w) (_hd : st.rows.Nodup) (hok : ∀ r ∈ st.rows, RowOk r) (hr : RowOk r)
  (hlow : ∀ (i : Nat) (h : i < vs.length) b, vs[i].ownBlock = some b → b < B2) (hB2 : B ≤ B2) (hv : w.ownsRow B2 2 1 rv r.length (r.map (Value.int .i64))) (hm : r ∉ st.rows) (hfew : st.rows.length ≤ 1000) (g : Glob w) :
  Calls Tryz.prog 184 #[.pointer (some ⟨xb, 0, none⟩), rv] w fun e w' => e = .returned (.int .i64 st.rows.length) ∧ Below B w w' ∧ ∃ sv', ExpAt B xb mb pb ib rb on i t ⟨st.rows ++ [r], st.edges⟩ sv' av (vs ++ [rv]) w' := by
 have hks : ∀ v ∈ st.rows.map keyV, ∃ l, keyOf Tryz.prog 9 v = some l := fun v hv => by obtain ⟨q', hq', rfl⟩ := List.mem_map.1 hv; exact (hok q' hq').key
 obtain ⟨kl, hkl⟩ := hr.key
 have hkn : keyV r ∉ st.rows.map keyV := fun hmm => by obtain ⟨q', hq', e⟩ := List.mem_map.1 hmm; rw [(hok q' hq').inj hr e] at hq'; exact hm hq'
 have HL := Lib.hid (fun (w' : World) (hm : NumMap .i64 w' mb (st.rows.map keyV)) => hm.missing keyedS underMapS hks (zeroI64 w') hkl hkn)
 have HU := Lib.hid (fun (w' : World) (hm : NumMap .i64 w' mb (st.rows.map keyV)) => hm.store keyedS underMapS hks hkl hkn (by rw [List.length_map]; unfold maxLen; omega))
 rw [List.length_map] at HU
 have HK := Lib.hid (keyfn_any B2 rv r w hr (SliceK.of_owns (enc := encI) encI_len rfl (by rw [flat_encI]; exact hv)) g)
 have HE := Lib.hid h
 have HV := Lib.hid hv
 have HLOW := Lib.hid hlow
 have x3 := h.box.cell 3 rfl
 have hxl := h.box.lt
 have hvl : vs.length = st.rows.length := h.rows.1
 obtain ⟨a0, c0, rfl, -, -⟩ := owns_slice h.rows.2.1
 obtain ⟨ar, cr, rfl, -, -⟩ := owns_slice hv
 obtain ⟨N, hN⟩ : ∃ N, N = st.rows.length := ⟨_, rfl⟩
 rw [← hN] at HU hfew hvl
 rw [hvl] at HE
 have HNN := Lib.hid hN
 obtain ⟨RL, hRL⟩ : ∃ RL, RL = r.length := ⟨_, rfl⟩
 rw [← hRL] at HV HK
 rw [← hRL]
 have HRL := Lib.hid hRL
 have HBB := Lib.hid hB
 obtain ⟨i0, hi, hz0, hz1, hz2⟩ := info_parts info_intsF
 clear h _hd hok hr hv hm g hN hks hkl hkn hlow hRL hB
 go_enter Tryz.func184, Tryz.ntmps184
 go_wp2_with fail
 refine Calls.mono HK.out ?_
 rintro e w1 ⟨rfl, hb1⟩
 have HB1 := Lib.hid (Below.mono hb1 HBB.out)
 have HE1 := Lib.hid (HE.out.below hb1)
 have HV1 := Lib.hid (owns_below HV.out hb1)
 have x1 := HE1.out.box.cell 1 rfl
 have x0 := HE1.out.box.cell 0 rfl
 have hlk := HL.out w1 HE1.out.map
 obtain ⟨w2, hup, hm2, hg2⟩ := HU.out w1 HE1.out.map
 unfold keyV at hlk hup ⊢
 have hs1 : B ≤ w1.heap.size := Nat.le_trans HBB.out hb1.size
 clear hb1 HK x3 HE HV
 have mblk : w1.heap[mb]? = some (.map (((st.rows.map keyV).mapIdx fun i k => (⟨k, .int .i64 i, i⟩ : MapEntry)).toArray) (st.rows.map keyV).length) := HE1.out.map
 have X2 : Hid (Blk w2 xb _ _) := (hg2.block xb HE1.out.box.lt (fun e => blk_map_ne' HE1.out.box mblk (Option.some.inj e))).trans HE1.out.box
 have R2 := Lib.hid (HE1.out.rows.2.1.kept hg2 (own_map_ne HE1.out.rows.2.1 mblk))
 rw [hvl] at R2
 have HG2 := Lib.hid hg2
 have HM2 := Lib.hid hm2
 have HB2 := Lib.hid (HB1.out.grown hg2 hs1 (fun k e => by cases e; exact HE1.out.mbase))
 have y0 := X2.out.cell 0 rfl
 have hs2 : B ≤ w2.heap.size := Nat.le_trans hs1 hg2.size
 have hx2 := X2.out.lt
 clear hg2 hm2 mblk
 go_wp2_with (at_builtin; refine wpList_append_own_at _ rfl _ _ 31 rfl B 56 i0 (.slice none 0 0) 1 24 Tryz.underlying31 hi hz0 hz1 hz2 rfl (by decide) _ _ _ rfl (R2.out.alloc _) ⟨w2.heap.size, 0, none⟩ 1 1 [.slice ar RL cr] rfl rfl ?c1 ?c2 ?c3 ?c4 ?c5 ?_)
 case c1 => exact (cell_one_new _ _ _)
 case c2 => first | rfl | (intro u hu; simp at hu; subst hu; rfl)
 case c3 => first | omega | (simp [maxLen]; omega)
 case c4 => first | omega | (simp; omega)
 case c5 => first | omega | (simp; omega)
 intro v4 w4 ho4 hg4 _ _
 obtain ⟨a4, c4, rfl, -, -⟩ := owns_slice ho4
 have hal : Below w2.heap.size w2 (w2.alloc (.cells #[.slice ar RL cr] 56)) := (Below.refl _ _).alloc (Nat.le_refl _) _
 have HF := Lib.hid (ExpAt.grow (B2 := B2) (r := r) HE1.out HG2.out HM2.out hal hg4 (by rw [hvl]; exact ho4) HLOW.out hB2 (by rw [← HRL.out]; exact HV1.out))
 have hne : some xb ≠ (Value.slice a0 N c0).ownBlock := blk_own_ne' X2.out R2.out (by decide)
 have hsv : w4.heap.size ≥ w2.heap.size := by have h1 := hal.size; have h2 := hg4.size; omega
 have z0 : w4.cell? ⟨xb, 0, none⟩ = some (.slice a0 N c0) := (hg4.cell_far ⟨xb, 0, none⟩ (by simp; omega) hne).trans (keeps hal hx2 y0)
 have z1 : w4.frozen? ⟨xb, 0, none⟩ = false := (hg4.frozen_far ⟨xb, 0, none⟩ (by simp; omega) hne).trans ((hal.frozen (p := ⟨xb, 0, none⟩) hx2).trans (X2.out.frozen 0))
 have HB4 : Hid (Below B w w4) := (HB2.out.trans (hal.mono hs2)).grown hg4 (by simp; omega) (fun b e => (R2.out.lt b e).1)
 clear ho4 hg4 hal hup y0 x0 x1 hlk
 go_wp2
 go_ret
 refine ⟨by rw [← HNN.out]; rfl, HB4.out.setCell HE1.out.base _, _, HF.out⟩

end Go.Proofs.YtkbgncenjfebdaaGreatDoor

namespace Go.Proofs.YtkbgncenjfebdaaGreatDoor
open Go Go.RowKit

/-- The labels of the edges from a state. -/
def rdy (t : Lts) (k : Int) : List ByteArray := labSet ((outOf t k).map (labAt t))
theorem lab_tau {t : Lts} (hv : Valid t) {e : Edge} (he : e ∈ t.edges) : labAt t e = tauT ↔ e.lab = 0 := by
 obtain ⟨i, hi, rfl⟩ := List.mem_iff_getElem.1 he
 have hok := hv.edge i hi
 obtain ⟨hlt, hl⟩ := labAt_idx hok
 obtain ⟨h0, ht⟩ := tau_first hv
 rw [hl]
 constructor
 ·intro h
  have := labels_inj hv.labels _ 0 hlt h0 (by rw [h, ht])
  have := hok.l0
  omega
 ·intro h
  have e0 : t.edges[i].lab.toNat = 0 := by omega
  rw [← ht]
  congr 1
end Go.Proofs.YtkbgncenjfebdaaGreatDoor

namespace Go.Proofs.YtkbgncenjfebdaaGreatDoor
open Go Go.RowKit

/-- The numbers below n. -/
def upI (n : Nat) : List Int := (List.range n).map fun (j : Nat) => (j : Int)
theorem upI_len (n : Nat) : (upI n).length = n := by simp [upI]
theorem upI_succ (n : Nat) : upI (n + 1) = upI n ++ [(n : Int)] := by simp [upI, List.range_succ]
end Go.Proofs.YtkbgncenjfebdaaGreatDoor

namespace Go.Proofs.YtkbgncenjfebdaaGreatDoor
open Go Go.RowKit

def deltaB : List UInt8 := [100, 101, 108, 116, 97]
def deltaT : ByteArray := ⟨#[100, 101, 108, 116, 97]⟩
theorem deltaT_list : deltaT.toList = deltaB := by rw [Lib.toList_data]; rfl
theorem deltaT_name : labName deltaT = deltaB := by unfold labName; decide
/-- A system and names of inputs. -/
structure IfOk (t : Lts) (ins : List ByteArray) : Prop where
 valid : Valid t
 acts : ∀ i (h : i < ins.length), isAction ins[i].data.toList = true
 rise : ∀ i (h : i + 1 < ins.length), strLess ins[i] ins[i + 1] = true
 nodelta : ∀ s ∈ ins, s.toList ≠ deltaB
 names : ∀ l ∈ t.labels, labName l ≠ deltaB
theorem IfOk.free {t : Lts} {ins : List ByteArray} (h : IfOk t ins) : deltaT ∉ t.labels := fun hm => h.names _ hm deltaT_name
/-- A label is no input: it is an output, or tau. -/
def outB (ins : List ByteArray) (l : ByteArray) : Bool := !(ins.any fun s => s.toList == labName l)
/-- No edge from a state bears tau or an output. -/
def quietB (t : Lts) (ins : List ByteArray) (k : Int) : Bool := t.edges.all fun e => !((e.src == k) && (e.lab == 0 || outB ins (labAt t e)))
def quiets (t : Lts) (ins : List ByteArray) : List Int := (upI t.states.toNat).filter (quietB t ins)
theorem quiets_len (t : Lts) (ins : List ByteArray) : (quiets t ins).length ≤ t.states.toNat := by
 unfold quiets
 refine Nat.le_trans (List.length_filter_le _ _) ?_
 rw [upI_len]
 exact Nat.le_refl _
def susArcs (t : Lts) (ins : List ByteArray) : List Arc := t.edges.map (arcOf t) ++ (quiets t ins).map fun k => ⟨k, deltaT, k⟩
def susL (t : Lts) : List ByteArray := labSet (tauT :: (t.labels ++ [deltaT]))
def susT (t : Lts) (ins : List ByteArray) : Lts := ⟨t.states, t.initial, susL t, sortEs ((susArcs t ins).map (edgeIn (susL t)))⟩
theorem susL_mem {t : Lts} (l : ByteArray) : l ∈ susL t ↔ l = tauT ∨ l ∈ t.labels ∨ l = deltaT := by
 unfold susL
 rw [(labSet_is _).2]
 simp
theorem idxL_inj {L : List ByteArray} {a b : ByteArray} (ha : a ∈ L) (hb : b ∈ L) (h : idxL L a = idxL L b) : a = b := by
 obtain ⟨h1, e1, -⟩ := idxL_get ha
 obtain ⟨h2, e2, -⟩ := idxL_get hb
 rw [← e1, ← e2]
 congr 1
theorem upI_nodup (n : Nat) : (upI n).Nodup := by
 unfold upI
 rw [List.nodup_iff_pairwise_ne, List.pairwise_map]
 refine (List.nodup_iff_pairwise_ne.1 (List.nodup_range (n := n))).imp ?_
 intro a b h e
 exact h (by omega)
theorem lab_mem {t : Lts} (hv : Valid t) {e : Edge} (he : e ∈ t.edges) : labAt t e ∈ t.labels := by
 obtain ⟨i, hi, rfl⟩ := List.mem_iff_getElem.1 he
 obtain ⟨hk, hl⟩ := labAt_idx (hv.edge i hi)
 rw [hl]
 exact List.getElem_mem _
theorem arcs_in {t : Lts} (hv : Valid t) (ins : List ByteArray) : ∀ a ∈ susArcs t ins, a.lab ∈ susL t := by
 intro a ha
 rw [susL_mem]
 unfold susArcs at ha
 rcases List.mem_append.1 ha with ha | ha
 ·obtain ⟨e, he, rfl⟩ := List.mem_map.1 ha
  exact .inr (.inl (lab_mem hv he))
 ·obtain ⟨k, -, rfl⟩ := List.mem_map.1 ha
  exact .inr (.inr rfl)
theorem sus_less {t : Lts} (hv : Valid t) {i : Nat} : ∀ {j : Nat}, i < j → ∀ (hi : i < t.edges.length) (hj : j < t.edges.length), edgeLess t.edges[i] t.edges[j] = true := by
 intro j hij
 induction j with
 | zero => omega
 | succ j ih =>
  intro hi hj
  by_cases e : i = j
  ·subst e; exact hv.rise i hj
  ·exact edgeLess_trans _ _ _ (ih (by omega) hi (by omega)) (hv.rise j hj)
theorem sus_text {L : List ByteArray} {l : ByteArray} (h : l ∈ L) : textAt L l = (idxL L l : Nat) := by
 obtain ⟨hk, -, -⟩ := idxL_get h
 unfold textAt
 unfold idxL at hk ⊢
 rw [if_pos hk]
theorem sus_nodup {t : Lts} {ins : List ByteArray} (h : IfOk t ins) : ((susArcs t ins).map (edgeIn (susL t))).Nodup := by
 have hv := h.valid
 have hmem := arcs_in hv ins
 have hinj : ∀ a ∈ susArcs t ins, ∀ b ∈ susArcs t ins, edgeIn (susL t) a = edgeIn (susL t) b → a = b := by
  intro a ha b hb e
  unfold edgeIn at e
  simp only [Edge.mk.injEq] at e
  obtain ⟨e1, e2, e3⟩ := e
  have e4 := idxL_inj (hmem a ha) (hmem b hb) (by omega)
  cases a; cases b
  simp only at e1 e3 e4
  subst e1 e3 e4
  rfl
 have harcs : (susArcs t ins).Nodup := by
  unfold susArcs
  rw [List.nodup_append]
  refine ⟨?_, ?_, ?_⟩
  ·rw [List.nodup_iff_pairwise_ne, List.pairwise_map]
   rw [List.pairwise_iff_getElem]
   intro i j hi hj hij e
   have h1 := hv.edge i hi
   have h2 := hv.edge j hj
   unfold arcOf at e
   simp only [Arc.mk.injEq] at e
   obtain ⟨e1, e2, e3⟩ := e
   obtain ⟨k1, l1⟩ := labAt_idx h1
   obtain ⟨k2, l2⟩ := labAt_idx h2
   rw [l1, l2] at e2
   have e4 := labels_inj hv.labels _ _ k1 k2 (by rw [e2])
   have hl1 := h1.l0
   have hl2 := h2.l0
   have hlt := sus_less hv hij hi hj
   rw [edgeLess_iff] at hlt
   omega
  ·rw [List.nodup_iff_pairwise_ne, List.pairwise_map]
   have hq : (quiets t ins).Nodup := (upI_nodup _).filter _
   refine (List.nodup_iff_pairwise_ne.1 hq).imp ?_
   intro a b hne e
   simp only [Arc.mk.injEq] at e
   exact hne e.1
  ·intro a ha b hb e
   obtain ⟨x, hx, rfl⟩ := List.mem_map.1 ha
   obtain ⟨k, -, rfl⟩ := List.mem_map.1 hb
   unfold arcOf at e
   simp only [Arc.mk.injEq] at e
   exact h.free (e.2.1 ▸ lab_mem hv hx)
 rw [List.nodup_iff_pairwise_ne, List.pairwise_map]
 refine List.Pairwise.imp_of_mem ?_ (List.nodup_iff_pairwise_ne.1 harcs)
 intro a b ha hb hne e
 exact hne (hinj a ha b hb e)
theorem sortEs_rise {es : List Edge} (h : es.Nodup) : RiseE (sortEs es) := by
 have hs : (sortEs es).Pairwise fun a b => (!edgeLess b a) = true := by
  unfold sortEs
  refine List.pairwise_mergeSort ?_ ?_ _
  ·intro a b c h1 h2
   have k1 : edgeLess b a = false := by simpa using h1
   have k2 : edgeLess c b = false := by simpa using h2
   have : edgeLess c a = false := by
    rw [Bool.eq_false_iff] at k1 k2 ⊢
    intro k
    rw [edgeLess_iff] at k
    rw [ne_eq, edgeLess_iff] at k1 k2
    omega
   simp [this]
  ·intro a b
   cases h1 : edgeLess b a with
   | false => simp
   | true =>
    have : edgeLess a b = false := by
     rw [Bool.eq_false_iff]
     intro k
     have := edgeLess_trans a b a k h1
     rw [edgeLess_irrefl] at this
     cases this
    simp [this]
 have hn : (sortEs es).Nodup := by unfold sortEs; exact (List.mergeSort_perm _ _).nodup_iff.2 h
 unfold RiseE
 refine List.Pairwise.imp₂ ?_ hs (List.nodup_iff_pairwise_ne.1 hn)
 intro a b h1 h2
 have k1 : edgeLess b a = false := by simpa using h1
 cases k2 : edgeLess a b with
 | true => rfl
 | false => exact absurd (edgeLess_tri a b k2 k1) h2
theorem rise_same {a b : List Edge} (ha : RiseE a) (hb : RiseE b) (h : ∀ x, x ∈ a ↔ x ∈ b) : a = b :=
 rise_unique (fun x y => edgeLess x y = true) (fun a h => by rw [edgeLess_irrefl] at h; cases h) (fun a b h k => by have := edgeLess_trans a b a h k; rw [edgeLess_irrefl] at this; cases this) a b ha hb h
/-- The reference's edges, whose labels are places of the texts. -/
def susEs (t : Lts) (ins : List ByteArray) : List Edge := t.edges ++ (quiets t ins).map fun k => ⟨k, (t.labels.length : Int), k⟩
theorem susEs_mem {t : Lts} {ins : List ByteArray} (hv : Valid t) (x : Edge) : x ∈ (susEs t ins).map (makeE (susL t) (t.labels ++ [deltaT])) ↔ x ∈ (susArcs t ins).map (edgeIn (susL t)) := by
 have h1 : ∀ e ∈ t.edges, makeE (susL t) (t.labels ++ [deltaT]) e = edgeIn (susL t) (arcOf t e) := by
  intro e he
  obtain ⟨i, hi, rfl⟩ := List.mem_iff_getElem.1 he
  obtain ⟨hk, hl⟩ := labAt_idx (hv.edge i hi)
  unfold makeE edgeIn arcOf
  simp only
  rw [List.getD_eq_getElem?_getD, List.getElem?_append_left hk, List.getElem?_eq_getElem hk, Option.getD_some, ← hl, sus_text (by rw [susL_mem]; exact .inr (.inl (lab_mem hv he)))]
 have h2 : ∀ k : Int, makeE (susL t) (t.labels ++ [deltaT]) ⟨k, (t.labels.length : Int), k⟩ = edgeIn (susL t) ⟨k, deltaT, k⟩ := by
  intro k
  unfold makeE edgeIn
  simp only [Int.toNat_natCast]
  rw [List.getD_eq_getElem?_getD, List.getElem?_concat_length, Option.getD_some, sus_text (by rw [susL_mem]; exact .inr (.inr rfl))]
 unfold susEs susArcs
 rw [List.map_append, List.map_append, List.map_map, List.map_map, List.mem_append, List.mem_append]
 have e1 : t.edges.map (makeE (susL t) (t.labels ++ [deltaT])) = t.edges.map (edgeIn (susL t) ∘ arcOf t) := List.map_congr_left h1
 have e2 : (quiets t ins).map (makeE (susL t) (t.labels ++ [deltaT]) ∘ fun k => ⟨k, (t.labels.length : Int), k⟩) = (quiets t ins).map (edgeIn (susL t) ∘ fun k => ⟨k, deltaT, k⟩) := List.map_congr_left fun k _ => h2 k
 rw [e1, e2, List.map_map]
/-- What the reference makes is the system. -/
theorem sus_edges {t : Lts} {ins : List ByteArray} (h : IfOk t ins) {R : List Edge} (hm : MkEdges (susL t) (t.labels ++ [deltaT]) (susEs t ins) R) : R = (susT t ins).edges :=
 rise_same hm.1 (sortEs_rise (sus_nodup h)) fun x => by rw [hm.2.2, susEs_mem h.valid]; exact (sortEs_mem x).symm

end Go.Proofs.YtkbgncenjfebdaaGreatDoor
