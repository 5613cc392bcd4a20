/-
  Plain laws: the texts that strconv reads and that are their numbers' decimal forms.
  Plain laws: the implementation's reading of a label says what the plain definition says.
  A map that numbers its keys in the order in which they came.
  How the explorer of sets lies in the program's memory; keys of sets.
  What the explorer's find computes: the place of a set among the rows, a new row for a new set.
-/
import Derived.Test.YtaabkeejbhdenaaGreatDoorC6
import Derived.Lib.ParseIntBTie
import Derived.Lib.AtoiAllCases
import Derived.Lib.AtoiTie
import Derived.Test.YtaabkeejbhdenaaGreatDoorC12
import Derived.Lib.IndexBytes
import Derived.Test.YtaabkeejbhdenaaGreatDoorC1
import Derived.Maps.OwnOps
import Derived.Test.YtaabkeejbhdenaaGreatDoorC8
import Derived.Test.YtaabkeejbhdenaaGreatDoorC10
import Derived.Test.YtaabkeejbhdenaaGreatDoorC7
import Derived.Lib.ItoaNum
import Derived.Lib.ItoaLen
import Derived.Deep.RegionLaw
import Derived.Deep.AppendLies
namespace Go.Proofs.YtaabkeejbhdenaaGreatDoor
open Go Go.RowKit

theorem digit_back {c : UInt8} (h : digit c = true) : UInt8.ofNat (48 + (c.toNat - 48)) = c := by
 unfold digit at h
 simp only [Bool.and_eq_true, decide_eq_true_eq] at h
 rw [show 48 + (c.toNat - 48) = c.toNat from by omega]
 exact UInt8.ofNat_toNat
theorem digit_lt {c : UInt8} (h : digit c = true) : c.toNat - 48 < 10 ∧ 48 ≤ c.toNat := by
 unfold digit at h
 simp only [Bool.and_eq_true, decide_eq_true_eq] at h
 omega
theorem decDigits_step (n d : Nat) (hn : 0 < n) (hd : d < 10) : Lib.decDigits (10 * n + d) = Lib.decDigits n ++ [UInt8.ofNat (48 + d)] := by
 rw [Lib.decDigits, dif_neg (by omega), show (10 * n + d) / 10 = n from by omega, show (10 * n + d) % 10 = d from by omega]
theorem decDigits_val : ∀ (l : List UInt8) (n : Nat), 0 < n → l.all digit = true → Lib.decDigits (valFrom n l) = Lib.decDigits n ++ l
 | [], n, _, _ => by rw [valFrom_nil, List.append_nil]
 | c :: r, n, hn, h => by
  simp only [List.all_cons, Bool.and_eq_true] at h
  rw [valFrom_cons, decDigits_val r _ (by omega) h.2, decDigits_step n _ hn (digit_lt h.1).1, digit_back h.1, List.append_assoc]
  rfl
theorem decDigits_le : ∀ (k u : Nat), 1 ≤ k → u < 10 ^ k → (Lib.decDigits u).length ≤ k
 | 0, _, h, _ => by omega
 | k + 1, u, _, h => by
  rw [Lib.decDigits]
  split
  ·simp
  ·have h1 : 1 ≤ k := by
    rcases Nat.eq_zero_or_pos k with h0 | h0
    ·subst h0; simp at h; omega
    ·exact h0
   have := decDigits_le k (u / 10) h1 (by rw [Nat.pow_succ] at h; omega)
   simp; omega
theorem digit_of {d : Nat} (h : d < 10) : digit (UInt8.ofNat (48 + d)) = true := by
 unfold digit
 have : (UInt8.ofNat (48 + d)).toNat = 48 + d := by rw [UInt8.toNat_ofNat']; omega
 rw [this]
 simp; omega
theorem decDigits_digit (u : Nat) : (Lib.decDigits u).all digit = true := by
 induction u using Nat.strongRecOn with
 | ind u ih =>
  rw [Lib.decDigits]
  split
  ·next h => rw [List.all_cons, digit_of h]; rfl
  ·next h => rw [List.all_append, ih (u / 10) (by omega), List.all_cons, digit_of (show u % 10 < 10 by omega)]; rfl
/-- The digits are those of their value, but for leading zeros. -/
theorem decDigits_back {ds : List UInt8} (h0 : ds ≠ []) (h : ds.all digit = true) : Lib.decDigits (valFrom 0 ds) = ds ↔ ¬ (ds.head? = some 48 ∧ 1 < ds.length) := by
 cases ds with
 | nil => exact absurd rfl h0
 | cons c r =>
  have ha := h
  simp only [List.all_cons, Bool.and_eq_true] at h
  by_cases hc : c = 48
  ·subst hc
   constructor
   ·rintro e ⟨-, hl⟩
    have h1 : valFrom 0 (48 :: r) = valFrom 0 r := by rw [valFrom_cons]; rfl
    have h2 := valFrom_lt r 0 h.2
    have h3 := decDigits_le r.length (valFrom 0 r) (by simp at hl; omega) (by omega)
    rw [h1] at e
    rw [e] at h3
    simp at h3; omega
   ·intro hn
    have : r = [] := by
     rcases r with _ | ⟨a, b⟩
     ·rfl
     ·exact absurd ⟨rfl, by simp⟩ hn
    subst this
    rw [valFrom_cons, valFrom_nil, Lib.decDigits_one (by decide)]
    rfl
  ·constructor
   ·rintro - ⟨e, -⟩
    simp at e
    exact hc e
   ·intro _
    have hd := digit_lt h.1
    have hpos : 0 < c.toNat - 48 := by
     have : c.toNat ≠ 48 := fun e => hc (UInt8.toNat_inj.1 e)
     omega
    rw [valFrom_cons, Nat.mul_zero, Nat.zero_add, decDigits_val r _ hpos h.2, Lib.decDigits_one hd.1, digit_back h.1]
    rfl

theorem digitVal_of {c : UInt8} (h : digit c = true) : Lib.digitVal c = some (c.toNat - 48) := by
 unfold digit at h
 simp only [Bool.and_eq_true, decide_eq_true_eq] at h
 unfold Lib.digitVal
 rw [if_pos (by omega)]
theorem digitVal_not {c : UInt8} (h : digit c = false) : Lib.digitVal c = none := by
 unfold digit at h
 simp only [Bool.and_eq_false_iff, decide_eq_false_iff_not] at h
 unfold Lib.digitVal
 rw [if_neg (by omega)]
theorem decFrom_eq : ∀ (l : List UInt8) (n : Nat), Lib.decFrom n l = if l.all digit then some (valFrom n l) else none
 | [], n => by simp [Lib.decFrom, valFrom_nil]
 | c :: r, n => by
  unfold Lib.decFrom
  cases hc : digit c with
  | true => rw [digitVal_of hc]; simp only; rw [decFrom_eq r, valFrom_cons, Nat.mul_comm]; simp [hc]
  | false => rw [digitVal_not hc]; simp [hc]
theorem decNat_eq (l : List UInt8) : Lib.decNat l = if l ≠ [] ∧ l.all digit = true then some (valFrom 0 l) else none := by
 unfold Lib.decNat
 cases l with
 | nil => rfl
 | cons c r => rw [decFrom_eq]; simp

theorem numDs_eq (neg : Bool) (ds : List UInt8) (h : ds.length ≤ 18) : numDs neg ds = (Lib.decNat ds).bind fun m => if Lib.decDigits m = ds ∧ ¬ (neg = true ∧ m = 0) then some (if neg then -(m : Int) else m) else none := by
 rw [decNat_eq]
 unfold numDs
 by_cases hq : ds ≠ [] ∧ ds.all digit = true
 ·obtain ⟨h0, ha⟩ := hq
  have hd : (if ds ≠ [] ∧ ds.all digit = true then some (valFrom 0 ds) else none) = some (valFrom 0 ds) := if_pos ⟨h0, ha⟩
  rw [hd, Option.bind_some]
  have hb := decDigits_back h0 ha
  have hl : ds.length ≠ 0 := fun e => h0 (List.eq_nil_of_length_eq_zero e)
  by_cases hz : ds.head? = some 48
  ·by_cases hl1 : 1 < ds.length
   ·rw [if_pos (.inr (.inr (.inl ⟨hz, .inr hl1⟩))), if_neg (fun hh => (hb.1 hh.1) ⟨hz, hl1⟩)]
   ·have e : ds = [48] := by
     cases ds with
     | nil => exact absurd rfl h0
     | cons c r =>
      have : r = [] := List.eq_nil_of_length_eq_zero (by rw [List.length_cons] at hl1; omega)
      subst this
      simp at hz
      rw [hz]
    subst e
    have hv : valFrom 0 [48] = 0 := by rw [valFrom_cons, valFrom_nil]; rfl
    have hw : Lib.decDigits 0 = [48] := by rw [Lib.decDigits_one (by decide)]; rfl
    cases neg
    ·rw [hv]
     have hc : Lib.decDigits 0 = [48] ∧ ¬ (false = true ∧ (0 : Nat) = 0) := ⟨hw, by simp⟩
     exact (if_neg (by decide)).trans (if_pos hc).symm
    ·rw [hv]
     have hc : ¬ (Lib.decDigits 0 = [48] ∧ ¬ (true = true ∧ (0 : Nat) = 0)) := by simp
     exact (if_pos (.inr (.inr (.inl ⟨rfl, .inl rfl⟩)))).trans (if_neg hc).symm
  ·have hm : valFrom 0 ds ≠ 0 := by
    intro e
    have h1 := hb.2 (fun h => hz h.1)
    rw [e, Lib.decDigits_one (by decide)] at h1
    exact hz (by rw [← h1]; rfl)
   have hc0 : ¬ (ds.length = 0 ∨ 18 < ds.length ∨ (ds.head? = some 48 ∧ (neg = true ∨ 1 < ds.length)) ∨ ds.all digit = false) := by rw [ha]; simp [hl, hz]; omega
   have hc1 : Lib.decDigits (valFrom 0 ds) = ds ∧ ¬ (neg = true ∧ valFrom 0 ds = 0) := ⟨hb.2 (fun h => hz h.1), fun h => hm h.2⟩
   exact (if_neg hc0).trans (if_pos hc1).symm
 ·have hd : (if ds ≠ [] ∧ ds.all digit = true then some (valFrom 0 ds) else none) = none := if_neg hq
  rw [hd]
  simp only [Option.bind_none, ite_eq_left_iff]
  intro hn
  exfalso
  apply hn
  by_cases h0 : ds = []
  ·subst h0; exact .inl rfl
  ·refine .inr (.inr (.inr ?_))
   cases h : ds.all digit
   ·rfl
   ·exact absurd ⟨h0, h⟩ hq

theorem itoa_eq (m : Nat) : Lib.itoa (m : Int) = Lib.decDigits m := by unfold Lib.itoa; rw [if_neg (by omega)]; simp
theorem itoa_neg' (m : Nat) (h : 0 < m) : Lib.itoa (-(m : Int)) = 45 :: Lib.decDigits m := by unfold Lib.itoa; rw [if_pos (by omega)]; simp
theorem decDigits_head (u : Nat) (c : UInt8) (hc : digit c = false) (r : List UInt8) : Lib.decDigits u ≠ c :: r := by
 intro e
 have := decDigits_digit u
 rw [e] at this
 simp [hc] at this

/-- ReadDecimal reads what the plain definition reads. -/
theorem readDec_eq (l : List UInt8) : readDec l = numB l := by
 unfold readDec numB
 rw [Lib.parseIntB_64]
 cases l with
 | nil => rfl
 | cons c r =>
  by_cases h45 : c = 45
  ·subst h45
   have ht : Lib.trimPrefix (45 :: r) [45] = r := by simp [Lib.trimPrefix, Lib.hasPrefix]
   rw [ht, List.head?_cons, if_pos rfl, List.tail_cons]
   by_cases hl : 18 < r.length
   ·rw [if_pos hl]
    unfold numDs
    rw [if_pos (.inr (.inl hl))]
   ·rw [if_neg hl, Lib.atoiAll_minus, Lib.signed_short (by omega), numDs_eq true r (by omega)]
    cases hd : Lib.decNat r with
    | none => rfl
    | some m =>
     simp only [Option.map_some, Lib.NumEnd.ofOption, Option.bind_some, if_true]
     by_cases h0 : m = 0
     ·subst h0
      have e : Lib.itoa (-((0 : Nat) : Int)) ≠ 45 :: r := by
       have e1 : Lib.itoa (-((0 : Nat) : Int)) = [48] := by
        rw [show (-((0 : Nat) : Int)) = ((0 : Nat) : Int) from rfl, itoa_eq, Lib.decDigits_one (by decide)]; rfl
       rw [e1]
       intro h
       have := (List.cons.inj h).1
       revert this
       decide
      rw [if_neg e, if_neg (by simp)]
     ·rw [itoa_neg' m (by omega)]
      simp [h0]
  ·have ht : Lib.trimPrefix (c :: r) [45] = c :: r := by
    have : ([45] : List UInt8).isPrefixOf (c :: r) = false := by
     show ((45 : UInt8) == c && ([] : List UInt8).isPrefixOf r) = false
     rw [beq_eq_false_iff_ne.2 (fun e => h45 e.symm), Bool.false_and]
    unfold Lib.trimPrefix Lib.hasPrefix
    rw [this]
    rfl
   have hc : ¬ (some c = some (45 : UInt8)) := fun e => h45 (Option.some.inj e)
   rw [ht, List.head?_cons, show (if some c = some (45 : UInt8) then numDs true (c :: r).tail else numDs false (c :: r)) = numDs false (c :: r) from if_neg hc]
   by_cases hl : 18 < (c :: r).length
   ·rw [if_pos hl]
    unfold numDs
    rw [if_pos (.inr (.inl hl))]
   ·rw [if_neg hl, numDs_eq false _ (by omega)]
    by_cases h43 : c = 43
    ·subst h43
     have h1 : Lib.decNat (43 :: r) = none := by rw [decNat_eq, if_neg (by simp [digit])]
     rw [h1, Lib.atoiAll_plus, Lib.signless_short (by simp at hl; omega)]
     cases hd : Lib.decNat r with
     | none => rfl
     | some m =>
      simp only [Option.map_some, Lib.NumEnd.ofOption, Option.bind_none]
      rw [itoa_eq, if_neg (decDigits_head m 43 (by decide) r)]
    ·rw [Lib.atoiAll_plain c r (fun e => h43 (UInt8.toNat_inj.1 e)) (fun e => h45 (UInt8.toNat_inj.1 e)), Lib.signless_short (by omega)]
     cases hd : Lib.decNat (c :: r) with
     | none => rfl
     | some m =>
      simp only [Option.map_some, Lib.NumEnd.ofOption, Option.bind_some]
      rw [itoa_eq]
      simp

end Go.Proofs.YtaabkeejbhdenaaGreatDoor

namespace Go.Proofs.YtaabkeejbhdenaaGreatDoor
open Go Go.RowKit

theorem hasSuffix_one (l : List UInt8) (c : UInt8) : Lib.hasSuffix l [c] = (l.getLast? == some c) := by
 unfold Lib.hasSuffix List.isSuffixOf
 rw [← List.head?_reverse]
 cases l.reverse with
 | nil => rfl
 | cons a r =>
  show (c == a && true) = (some a == some c)
  rw [Bool.and_true]
  by_cases h : a = c
  ·subst h; simp
  ·rw [beq_eq_false_iff_ne.2 (fun e => h e.symm), beq_eq_false_iff_ne.2 (fun e => h (by simpa using e))]

theorem indexByte_find (c : UInt8) : ∀ l : List UInt8, Lib.indexByte l c = if l.findIdx (fun x => x == c) < l.length then ((l.findIdx (fun x => x == c) : Nat) : Int) else -1
 | [] => rfl
 | x :: r => by
  unfold Lib.indexByte
  rw [indexByte_find c r, List.findIdx_cons]
  obtain ⟨n, hn⟩ : ∃ n, n = r.findIdx (fun x => x == c) := ⟨_, rfl⟩
  rw [← hn]
  cases hx : (x == c)
  ·simp only [Bool.false_eq_true, if_false, cond_false, List.length_cons]
   by_cases h : n < r.length
   ·have h1 : n + 1 < r.length + 1 := by omega
    have h2 : ((n : Int) == -1) = false := by rw [beq_eq_false_iff_ne]; omega
    simp only [h, h1, h2, if_true, Bool.false_eq_true, if_false]
    omega
   ·have h1 : ¬ n + 1 < r.length + 1 := by omega
    simp only [h, h1, if_false, beq_self_eq_true, if_true]
  ·simp

theorem index_find (c : UInt8) (l : List UInt8) : Lib.index l [c] = if l.findIdx (fun x => x == c) < l.length then ((l.findIdx (fun x => x == c) : Nat) : Int) else -1 := by
 rw [Lib.index_one, indexByte_find]

theorem splitK_eq (c : UInt8) : ∀ (k : Nat) (l : List UInt8), Lib.count l [c] = k → Lib.splitK [c] 0 k l = splitAt c l := by
 intro k
 induction k with
 | zero =>
  intro l hk
  by_cases h : l.findIdx (fun x => x == c) < l.length
  ·have := Lib.count_hit (s := l) (sub := [c]) (i := l.findIdx (fun x => x == c)) (by simp) (by rw [index_find, if_pos h])
   omega
  ·rw [splitAt_none (List.findIdx_eq_length.1 (Nat.le_antisymm List.findIdx_le_length (by omega)))]
   rfl
 | succ k ih =>
  intro l hk
  by_cases h : l.findIdx (fun x => x == c) < l.length
  ·have hi := Lib.count_hit (s := l) (sub := [c]) (i := l.findIdx (fun x => x == c)) (by simp) (by rw [index_find, if_pos h])
   have hs := split_step (c := c) (l := l) (m := 0) (k := l.findIdx (fun x => x == c)) (Nat.zero_le _) h (fun j hj _ hlt => by simpa using List.not_of_lt_findIdx hlt) (List.findIdx_getElem (w := h))
   rw [List.drop_zero, Nat.sub_zero] at hs
   rw [hs]
   unfold Lib.splitK
   rw [index_find, if_pos h, if_neg (by rw [beq_iff_eq]; omega)]
   simp only [Int.toNat_natCast, Nat.add_zero, List.length_singleton]
   rw [ih _ (by simp only [List.length_singleton] at hi; omega)]
  ·rw [Lib.count_miss (by rw [index_find, if_neg h])] at hk
   omega

theorem join_splitAt (c : UInt8) : ∀ l : List UInt8, Lib.join (splitAt c l) [c] = l
 | [] => by simp [splitAt, Lib.join_one]
 | x :: r => by
  have ih := join_splitAt c r
  unfold splitAt
  cases hs : splitAt c r with
  | nil => exact absurd hs (splitAt_ne c r)
  | cons p ps =>
   rw [hs, Lib.join_cons] at ih
   simp only
   split
   ·next h =>
    rw [Lib.join_cons, Lib.joinTail, List.map_cons, List.flatten_cons, ← Lib.joinTail]
    rw [beq_iff_eq.1 h, ← ih]
    simp
   ·rw [Lib.join_cons, ← ih]; simp

theorem partsB_eq (rest : List UInt8) : (partsB rest).map (fun s => s.data.toList) = splitAt 44 (Lib.trimSuffix rest [41]) := by
 unfold partsB
 rw [Lib.splitB_data]
 exact splitK_eq 44 _ _ rfl

theorem numB_itoa {l : List UInt8} {n : Int} (h : numB l = some n) : Lib.itoa n = l := by
 rw [← readDec_eq] at h
 unfold readDec at h
 split at h
 ·cases h
 ·split at h
  ·split at h
   ·next he => cases h; exact he
   ·cases h
  ·cases h

theorem decs_eq (ss : List ByteArray) : decs ss = (ss.map (fun s => s.data.toList)).map fun p => (numB p).getD 0 := by
 unfold decs
 rw [List.map_map]
 exact List.map_congr_left fun s _ => by simp [readDec_eq]
theorem decsOk_eq (ss : List ByteArray) : decsOk ss = (ss.map (fun s => s.data.toList)).all fun p => (numB p).isSome := by
 unfold decsOk
 rw [List.all_map]
 congr 1
 funext s
 simp [readDec_eq]

theorem words_join {ps : List (List UInt8)} (h : (ps.all fun p => (numB p).isSome) = true) : (wordsOf (ps.map fun p => (numB p).getD 0)).map (·.data.toList) = ps := by
 unfold wordsOf
 rw [List.map_map, List.map_map]
 conv => rhs; rw [← List.map_id ps]
 refine List.map_congr_left fun p hp => ?_
 have h1 := List.all_eq_true.1 h p hp
 obtain ⟨n, hn⟩ := Option.isSome_iff_exists.1 h1
 simp [hn, numB_itoa hn]

theorem numOk_eq (p : List UInt8) : numOk p = ((numB p).isSome && isVal ((numB p).getD 0)) := by
 unfold numOk isVal
 cases numB p <;> simp

theorem all_numOk (ps : List (List UInt8)) : ps.all numOk = ((ps.all fun p => (numB p).isSome) && (ps.map fun p => (numB p).getD 0).all isVal) := by
 induction ps with
 | nil => rfl
 | cons p r ih =>
  simp only [List.all_cons, List.map_cons, ih, numOk_eq]
  cases (numB p).isSome <;> simp [Bool.and_left_comm]

theorem cut_eq (l : List UInt8) : Lib.cut l [40] = if openAt l < l.length then (l.take (openAt l), l.drop (openAt l + 1), true) else (l, [], false) := by
 unfold Lib.cut
 rw [index_find]
 unfold openAt
 by_cases h : l.findIdx (fun x => x == 40) < l.length
 ·rw [if_pos h, if_pos (by omega), if_pos h]
  simp
 ·rw [if_neg h, if_neg (by omega), if_neg h]

theorem isAction_tau : isAction tauL = false := by decide

/-- What the implementation says of a label is what the plain definition says. -/
theorem readOk_eq (l : List UInt8) : readOk l = labelOk l := by
 unfold readOk labelOk
 rw [cut_eq]
 have hle := openAt_le l
 by_cases h : openAt l < l.length
 ·rw [if_pos h, if_neg (show ¬ openAt l = l.length by omega)]
  simp only [if_true]
  have hget := openAt_get h
  have hl : l.take (openAt l) ++ 40 :: l.drop (openAt l + 1) = l := by
   rw [← hget, ← List.drop_eq_getElem_cons h, List.take_append_drop]
  rw [decs_eq, decsOk_eq, partsB_eq]
  obtain ⟨name, hname⟩ : ∃ x, x = l.take (openAt l) := ⟨_, rfl⟩
  obtain ⟨rest, hrest⟩ : ∃ x, x = l.drop (openAt l + 1) := ⟨_, rfl⟩
  have hrl : rest.length = l.length - 1 - openAt l := by rw [hrest, List.length_drop]; omega
  have hlast : l.getLast? = if rest = [] then some 40 else rest.getLast? := by
   conv => lhs; rw [← hl, ← hrest]
   rw [List.getLast?_append]
   cases rest with
   | nil => rfl
   | cons a r => simp [List.getLast?_cons]
  rw [← hname, ← hrest]
  rw [← hname, ← hrest] at hl
  obtain ⟨Q, hQ⟩ : ∃ Q, Q = splitAt 44 (Lib.trimSuffix rest [41]) := ⟨_, rfl⟩
  have hQne : Q ≠ [] := by rw [hQ]; exact splitAt_ne _ _
  rw [← hQ]
  by_cases h41 : l.getLast? = some 41
  ·have hr41 : rest.getLast? = some 41 := by
    rw [hlast] at h41
    split at h41
    ·cases h41
    ·exact h41
   have htrim : Lib.trimSuffix rest [41] = rest.take (rest.length - 1) := by
    unfold Lib.trimSuffix
    rw [hasSuffix_one, hr41, if_pos (by rfl)]
    rfl
   have hback : Lib.trimSuffix rest [41] ++ [41] = rest := by
    rw [htrim]
    have hne : rest ≠ [] := fun e => by rw [e] at hr41; cases hr41
    rw [← List.dropLast_eq_take]
    have : rest.getLast hne = 41 := by rw [List.getLast?_eq_some_getLast hne] at hr41; simpa using hr41
    have h9 := List.dropLast_concat_getLast hne
    rw [this] at h9
    exact h9
   have hparts : labelParts l = Q := by
    unfold labelParts
    rw [← hrest, hQ, htrim, hrl]
    congr 2
   rw [hparts, h41, all_numOk]
   cases hok : (Q.all fun p => (numB p).isSome) with
   | false => simp
   | true =>
    have htxt : labTxt name (Q.map fun p => (numB p).getD 0) = l := by
     unfold labTxt
     rw [words_join hok, if_neg (by simpa using hQne), hQ, join_splitAt, hback, hl]
    rw [htxt]
    unfold labB
    by_cases hn : name = tauL
    ·rw [if_pos hn, hn, isAction_tau]
     have : (Q.map fun p => (numB p).getD 0).isEmpty = false := by simpa using hQne
     rw [this]; simp
    ·rw [if_neg hn]
     simp only [List.length_map]
     cases isAction name <;> cases ((Q.map fun p => (numB p).getD 0).all isVal) <;> simp
  ·have h41' : (l.getLast? == some 41) = false := by simpa using h41
   rw [h41']
   simp only [Bool.false_and, Bool.and_false]
   cases hok : (Q.all fun p => (numB p).isSome) with
   | false => simp
   | true =>
    have hr41 : rest.getLast? ≠ some 41 := by
     intro e
     apply h41
     rw [hlast, if_neg (fun e2 => by rw [e2] at e; cases e)]
     exact e
    have htrim : Lib.trimSuffix rest [41] = rest := by
     unfold Lib.trimSuffix
     rw [hasSuffix_one, if_neg (by simpa using hr41)]
    have htxt : labTxt name (Q.map fun p => (numB p).getD 0) ≠ l := by
     unfold labTxt
     rw [words_join hok, if_neg (by simpa using hQne), hQ, join_splitAt, htrim]
     intro e
     have := congrArg List.length e
     rw [← hl] at this
     simp at this
    rw [decide_eq_false htxt]
    simp
 ·have he : openAt l = l.length := by omega
  rw [if_neg h, if_pos he]
  simp only [Bool.false_eq_true, if_false, decide_true, Bool.and_true]
  unfold labB
  by_cases ht : l = tauL
  ·rw [if_pos ht, ht]; rfl
  ·rw [if_neg ht]
   unfold isAction
   have : (l == tauL) = false := by simpa using ht
   rw [this]
   simp

end Go.Proofs.YtaabkeejbhdenaaGreatDoor

namespace Go.Proofs.YtaabkeejbhdenaaGreatDoor
open Go Go.RowKit Go.ChangeMaps Go.MapKept
open Go.Maps (Keyed)

/-- The block of a map whose i-th key leads to i. -/
def NumMap (q : IntKind) (w : World) (b : Nat) (ks : List Value) : Prop := w.heap[b]? = some (.map (ks.mapIdx fun i k => (⟨k, .int q i, i⟩ : MapEntry)).toArray ks.length)

theorem NumMap.made (q : IntKind) (w : World) : NumMap q (w.alloc (.map #[] 0)) w.heap.size [] := (MapKept.heap_alloc w _).1

theorem NumMap.kept {q : IntKind} {w w' : World} {b : Nat} {ks : List Value} {row : Option Nat} (h : NumMap q w b ks) (hg : w.grownBy w' row) (hne : some b ≠ row) : NumMap q w' b ks :=
 (hg.block b (Array.getElem?_eq_some_iff.1 h).1 hne).trans h

theorem NumMap.below {q : IntKind} {w w' : World} {b : Nat} {ks : List Value} (h : NumMap q w b ks) (hb : Below w.heap.size w w') : NumMap q w' b ks :=
 (hb.block b (Array.getElem?_eq_some_iff.1 h).1).trans h

theorem entry_key {q : IntKind} {ks : List Value} {e : MapEntry} (h : e ∈ (ks.mapIdx fun i k => (⟨k, .int q i, i⟩ : MapEntry)).toArray.toList) : e.key ∈ ks := by
 simp only [List.mem_mapIdx] at h
 obtain ⟨i, hi, rfl⟩ := h
 exact List.getElem_mem hi

theorem nodup_get {α : Type} {l : List α} (hd : l.Nodup) {i j : Nat} (hi : i < l.length) (hj : j < l.length) (h : l[i] = l[j]) : i = j := by
 have hp := List.pairwise_iff_getElem.1 hd
 rcases Nat.lt_trichotomy i j with h1 | h1 | h1
 ·exact absurd h (hp i j hi hj h1)
 ·exact h1
 ·exact absurd h.symm (hp j i hj hi h1)

section
variable {P : Program} {k t e : TypeId} {q : IntKind} {w : World} {b : Nat} {ks : List Value}

theorem NumMap.found (h : NumMap q w b ks) (K : Keyed P k) (ht : P.underlying t = some (.map k e)) (hks : ∀ v ∈ ks, ∃ l, keyOf P k v = some l) (hd : ks.Nodup) {i : Nat} (hi : i < ks.length) :
  (Instr.lookup t (.map (some b)) ks[i] true).run P w = .ok (.tuple #[.int q i, .bool true]) w := by
 obtain ⟨kl, hkey⟩ := hks _ (List.getElem_mem hi)
 rcases K.find w hkey (ks.mapIdx fun i k => (⟨k, .int q i, i⟩ : MapEntry)).toArray.toList (fun x hx => hks _ (entry_key hx)) with ⟨_, h2⟩ | ⟨j, e0, h1, h2, h3⟩
 ·exfalso
  refine h2 ⟨ks[i], .int q i, i⟩ ?_ rfl
  simp only [List.mem_mapIdx]
  exact ⟨i, hi, rfl⟩
 ·simp only [List.getElem?_mapIdx, Option.map_eq_some_iff] at h2
  obtain ⟨k', hk', rfl⟩ := h2
  obtain ⟨hj, hk'⟩ := List.getElem?_eq_some_iff.1 hk'
  simp only at h3
  have e1 : j = i := nodup_get hd hj hi (hk'.trans h3)
  subst e1
  have hb : w.heap[b]? = some (.map (ks.mapIdx fun i k => (⟨k, .int q i, i⟩ : MapEntry)).toArray ks.length) := h
  simp only at h1
  simp [Instr.lookup, run_underlying ht, MapKept.run_getObj_map hb, K.check w _ hkey, h1, Result.andThen]

theorem NumMap.missing (h : NumMap q w b ks) (K : Keyed P k) (ht : P.underlying t = some (.map k e)) (hks : ∀ v ∈ ks, ∃ l, keyOf P k v = some l) (hz : (zeroValue e).run P w = .ok (.int q 0) w) {key : Value} {kl : Lit} (hkey : keyOf P k key = some kl) (hn : key ∉ ks) :
  (Instr.lookup t (.map (some b)) key true).run P w = .ok (.tuple #[.int q 0, .bool false]) w := by
 rcases K.find w hkey (ks.mapIdx fun i k => (⟨k, .int q i, i⟩ : MapEntry)).toArray.toList (fun x hx => hks _ (entry_key hx)) with ⟨h1, _⟩ | ⟨j, e0, _, h2, h3⟩
 ·have hb : w.heap[b]? = some (.map (ks.mapIdx fun i k => (⟨k, .int q i, i⟩ : MapEntry)).toArray ks.length) := h
  simp only at h1
  simp [Instr.lookup, run_underlying ht, MapKept.run_getObj_map hb, K.check w _ hkey, h1, hz, Result.andThen]
 ·exact absurd (h3 ▸ entry_key (List.mem_of_getElem? h2)) hn

theorem NumMap.store (h : NumMap q w b ks) (K : Keyed P k) (ht : P.underlying t = some (.map k e)) (hks : ∀ v ∈ ks, ∃ l, keyOf P k v = some l) {key : Value} {kl : Lit} (hkey : keyOf P k key = some kl) (hn : key ∉ ks) (hroom : ks.length < maxLen) :
  ∃ w', (Instr.mapUpdate t (.map (some b)) key (.int q ks.length)).run P w = .ok () w' ∧ NumMap q w' b (ks ++ [key]) ∧ w.grownBy w' (some b) := by
 have hb : w.heap[b]? = some (.map (ks.mapIdx fun i k => (⟨k, .int q i, i⟩ : MapEntry)).toArray ks.length) := h
 have e1 : ((ks ++ [key]).mapIdx fun i k => (⟨k, .int q i, i⟩ : MapEntry)).toArray = (ks.mapIdx fun i k => (⟨k, .int q i, i⟩ : MapEntry)).toArray.push ⟨key, .int q ks.length, ks.length⟩ := by
  rw [List.mapIdx_append]
  simp
 rcases K.find w hkey (ks.mapIdx fun i k => (⟨k, .int q i, i⟩ : MapEntry)).toArray.toList (fun x hx => hks _ (entry_key hx)) with ⟨h1, _⟩ | ⟨j, e0, _, h2, h3⟩
 ·refine ⟨setBlock w b (.map ((ks.mapIdx fun i k => (⟨k, .int q i, i⟩ : MapEntry)).toArray.push ⟨key, .int q ks.length, ks.length⟩) (ks.length + 1)), ?_, ?_, ?_⟩
  ·simp only at h1
   have hr : ks.length < 9223372036854775807 := hroom
   simp [Instr.mapUpdate, run_underlying ht, MapKept.run_getObj_map hb, K.check w false hkey, h1, MapKept.run_setObj_map _ hb, Result.andThen, setBlock]
  ·unfold NumMap
   rw [e1, List.length_append, List.length_singleton]
   exact heap_setBlock_same hb _
  ·exact ⟨rfl, rfl, rfl, by simp [setBlock], fun i _ hi => heap_setBlock_other hb _ (fun e => hi (by rw [e]))⟩
 ·exact absurd (h3 ▸ entry_key (List.mem_of_getElem? h2)) hn

end
end Go.Proofs.YtaabkeejbhdenaaGreatDoor

namespace Go.Proofs.YtaabkeejbhdenaaGreatDoor
open Go Go.RowKit
open Go.Maps (Keyed)

/-- The key of a set: its numbers in decimal with commas between. -/
def keyT (r : List Int) : ByteArray := ⟨(Lib.join ((wordsOf r).map (·.data.toList)) [44]).toArray⟩
def keyV (r : List Int) : Value := .string (keyT r)
theorem split_join (c : UInt8) : ∀ ws : List (List UInt8), ws ≠ [] → (∀ w ∈ ws, ∀ x ∈ w, (x == c) = false) → splitAt c (Lib.join ws [c]) = ws
 | [], h, _ => absurd rfl h
 | [a], _, h => by
  rw [show Lib.join [a] [c] = a from by simp [Lib.join]]
  exact splitAt_none (h a (by simp))
 | a :: b :: r, _, h => by
  rw [show Lib.join (a :: b :: r) [c] = a ++ c :: Lib.join (b :: r) [c] from by simp [Lib.join], splitAt_hit (h a (by simp)), split_join c (b :: r) (by simp) (fun w hw => h w (List.mem_cons_of_mem _ hw))]
theorem digit_44 : digit 44 = false := by decide
theorem words_clean {r : List Int} (h : ∀ x ∈ r, 0 ≤ x) : ∀ w ∈ (wordsOf r).map (·.data.toList), ∀ x ∈ w, (x == 44) = false := by
 intro w hw x hx
 unfold wordsOf at hw
 rw [List.map_map, List.mem_map] at hw
 obtain ⟨n, hn, rfl⟩ := hw
 have h0 := h n hn
 obtain ⟨m, rfl⟩ : ∃ m : Nat, n = (m : Int) := ⟨n.toNat, by omega⟩
 simp only [Function.comp, itoa_eq] at hx
 have hd := List.all_eq_true.1 (decDigits_digit m) x (by simpa using hx)
 cases he : (x == 44) with
 | false => rfl
 | true =>
  rw [beq_iff_eq] at he
  subst he
  rw [digit_44] at hd
  cases hd
theorem val_decDigits : ∀ m : Nat, valFrom 0 (Lib.decDigits m) = m := by
 intro m
 induction m using Nat.strongRecOn with
 | _ m ih =>
  by_cases h : m < 10
  ·rw [Lib.decDigits_one h, valFrom_cons, valFrom_nil]
   have : (UInt8.ofNat (48 + m)).toNat = 48 + m := by rw [UInt8.toNat_ofNat']; omega
   omega
  ·have h1 : m = 10 * (m / 10) + m % 10 := by omega
   conv => lhs; rw [h1]
   rw [decDigits_step (m / 10) (m % 10) (by omega) (by omega), valFrom_append, ih (m / 10) (by omega), valFrom_cons, valFrom_nil]
   have : (UInt8.ofNat (48 + m % 10)).toNat = 48 + m % 10 := by rw [UInt8.toNat_ofNat']; omega
   omega
theorem decDigits_inj {m n : Nat} (h : Lib.decDigits m = Lib.decDigits n) : m = n := by
 rw [← val_decDigits m, h, val_decDigits]
theorem join_len (c : UInt8) : ∀ ws : List (List UInt8), (∀ w ∈ ws, w.length ≤ 21) → (Lib.join ws [c]).length ≤ 22 * ws.length
 | [], _ => by simp [Lib.join]
 | [a], h => by
  have := h a (by simp)
  simp [Lib.join]
  omega
 | a :: b :: r, h => by
  have h1 := h a (by simp)
  have h2 := join_len c (b :: r) (fun w hw => h w (List.mem_cons_of_mem _ hw))
  rw [show Lib.join (a :: b :: r) [c] = a ++ c :: Lib.join (b :: r) [c] from by simp [Lib.join], List.length_append, List.length_cons]
  simp only [List.length_cons] at h2 ⊢
  omega
theorem keyT_len {r : List Int} (h : ∀ x ∈ r, -9223372036854775808 ≤ x ∧ x ≤ 9223372036854775807) : (Lib.join ((wordsOf r).map (·.data.toList)) [44]).length ≤ 22 * r.length := by
 have h1 := join_len 44 ((wordsOf r).map (·.data.toList)) (fun w hw => by
  unfold wordsOf at hw
  rw [List.map_map, List.mem_map] at hw
  obtain ⟨n, hn, rfl⟩ := hw
  simpa [Function.comp] using Lib.itoa_length_le n (h n hn).1 (h n hn).2)
 simpa [wordsOf] using h1
theorem keyT_size {r : List Int} (h : ∀ x ∈ r, -9223372036854775808 ≤ x ∧ x ≤ 9223372036854775807) : (keyT r).size ≤ 22 * r.length := by
 have := keyT_len h
 rw [← len_data]
 simpa [keyT] using this
theorem keyT_inj {a b : List Int} (ha : a ≠ []) (hb : b ≠ []) (pa : ∀ x ∈ a, 0 ≤ x) (pb : ∀ x ∈ b, 0 ≤ x) (h : keyT a = keyT b) : a = b := by
 have h1 : Lib.join ((wordsOf a).map (·.data.toList)) [44] = Lib.join ((wordsOf b).map (·.data.toList)) [44] := by
  have := congrArg (fun s : ByteArray => s.data.toList) h
  simpa [keyT] using this
 have h2 := split_join 44 _ (by simp [wordsOf]; exact ha) (words_clean pa)
 rw [h1, split_join 44 _ (by simp [wordsOf]; exact hb) (words_clean pb)] at h2
 unfold wordsOf at h2
 rw [List.map_map, List.map_map] at h2
 apply List.ext_getElem
 ·have := congrArg List.length h2
  simpa using this.symm
 ·intro i hi hj
  have h3 : (b.map fun n => Lib.itoa n)[i]? = (a.map fun n => Lib.itoa n)[i]? := by
   have := congrArg (fun l => l[i]?) h2
   simpa [Function.comp_def] using this
  rw [List.getElem?_map, List.getElem?_map, List.getElem?_eq_getElem hi, List.getElem?_eq_getElem hj] at h3
  simp only [Option.map_some, Option.some.injEq] at h3
  have h4 := pa _ (List.getElem_mem hi)
  have h5 := pb _ (List.getElem_mem hj)
  obtain ⟨m, hm⟩ : ∃ m : Nat, a[i] = (m : Int) := ⟨a[i].toNat, by omega⟩
  obtain ⟨n, hn⟩ : ∃ n : Nat, b[i] = (n : Int) := ⟨b[i].toNat, by omega⟩
  rw [hm, hn, itoa_eq, itoa_eq] at h3
  rw [hm, hn, decDigits_inj h3]

theorem keyedS : Keyed Tryz.prog 9 := Go.Maps.string_keyed Tryz.underlying9
theorem keyOfS (b : ByteArray) (h : b.size ≤ 1048576) : ∃ l, keyOf Tryz.prog 9 (.string b) = some l := ⟨.string b.data.toList, by
 have h2 : b.size ≤ maxLen := by unfold maxLen; omega
 simp [keyOf, mapKey, Tryz.underlying9, h2]⟩
theorem underMapS : Tryz.prog.underlying 133 = some (.map 9 2) := Tryz.underlying133
theorem zeroI64 (w : World) : (zeroValue 2).run Tryz.prog w = .ok (.int .i64 0) w := by kernel_rfl

/-- An arc: an edge with its label as a text. -/
def encA (t : Lts) (e : Edge) : List Value := [.int .i64 e.src, .string (labAt t e), .int .i64 e.dst]
/-- The explorer: its four fields, the variable that holds its address, the loop's variable. -/
structure ExpAt (B xb mb pb ib rb : Nat) (on : Bool) (i : Nat) (t : Lts) (st : DNet) (sv av : Value) (vs : List Value) (w : World) : Prop where
 base : B ≤ xb
 mbase : B ≤ mb
 pbase : B ≤ pb
 ibase : B ≤ ib
 rbase : B ≤ rb
 box : Blk w xb [sv, .map (some mb), av, .func (.func 59) #[] #[]] 135
 ptr : Blk w pb [.pointer (some ⟨xb, 0, none⟩)] 132
 idx : on = true → Blk w ib [.int .i64 i] 3
 res : Blk w rb [.int .i64 0, .int .i64 0, .slice none 0 0, .slice none 0 0] 29
 rows : OwnIntss 66 2 B w sv vs st.rows
 map : NumMap .i64 w mb (st.rows.map keyV)
 arcs : w.ownsRow B 111 3 av st.edges.length (st.edges.flatMap (encA t))
theorem ExpAt.below {on : Bool} {B xb mb pb ib rb i : Nat} {t : Lts} {st : DNet} {sv av : Value} {vs : List Value} {w w' : World} (h : ExpAt B xb mb pb ib rb on i t st sv av vs w) (hb : Below w.heap.size w w') : ExpAt B xb mb pb ib rb on i t st sv av vs w' :=
 ⟨h.base, h.mbase, h.pbase, h.ibase, h.rbase, h.box.below hb, h.ptr.below hb, fun ho => (h.idx ho).below hb, h.res.below hb, h.rows.below hb, h.map.below hb, owns_below h.arcs hb⟩

/-- One row more, which lies elsewhere than the rows that are there. -/
theorem OwnIntss.pushB {eo ei lo B2 : Nat} {w w' : World} {v v' rv : Value} {vs : List Value} {xss : List (List Int)} {xs : List Int} (he : eo ≠ ei) (h : OwnIntss eo ei lo w v vs xss) (hlow : ∀ (i : Nat) (h : i < vs.length) b, vs[i].ownBlock = some b → b < B2)
  (hr : w.ownsRow B2 ei 1 rv xs.length (xs.map (Value.int .i64))) (hlo : lo ≤ B2) (hg : w.grownBy w' v.ownBlock) (hv : w'.ownsRow lo eo 1 v' (vs.length + 1) (vs ++ [rv])) : OwnIntss eo ei lo w' v' (vs ++ [rv]) (xss ++ [xs]) := by
 obtain ⟨h1, h2, h3, h4, h5⟩ := h
 have hrow : ∀ (i : Nat) (h : i < vs.length) (h' : i < xss.length), w'.ownsRow lo ei 1 vs[i] xss[i].length (xss[i].map (Value.int .i64)) := fun i hi hi' => (h3 i hi hi').kept hg (h5 i hi)
 have hnew : w'.ownsRow lo ei 1 rv xs.length (xs.map (Value.int .i64)) := (own_lower hr hlo).kept hg (own_types hr h2 (fun e => he e.symm))
 have hall : ∀ (i : Nat) (h : i < (vs ++ [rv]).length) (h' : i < (xss ++ [xs]).length), w'.ownsRow lo ei 1 (vs ++ [rv])[i] (xss ++ [xs])[i].length ((xss ++ [xs])[i].map (Value.int .i64)) := fun i hi hi' => by
  by_cases hlt : i < vs.length
  ·rw [List.getElem_append_left hlt]
   simp only [List.getElem_append_left (show i < xss.length by omega)]
   exact hrow i hlt (by omega)
  ·have e : i = vs.length := by simp at hi; omega
   subst e
   simp only [List.getElem_concat_length]
   have : (xss ++ [xs])[vs.length] = xs := by simp [h1]
   rw [this]
   exact hnew
 refine ⟨by simp [h1], by simpa using hv, hall, fun i j hi hj hij => ?_, fun i hi => own_types (hall i hi (by simp at hi ⊢; omega)) hv (fun e => he e.symm)⟩
 have hnb : ∀ b, rv.ownBlock = some b → B2 ≤ b := fun b e => (hr.lt b e).1
 by_cases h1' : i < vs.length <;> by_cases h2' : j < vs.length
 ·rw [List.getElem_append_left h1', List.getElem_append_left h2']
  exact h4 i j h1' h2' hij
 ·have e : j = vs.length := by simp at hj; omega
  subst e
  rw [List.getElem_append_left h1', List.getElem_concat_length rfl]
  cases hb1 : vs[i].ownBlock with
  | none => exact .inl rfl
  | some b => exact .inr fun e => by have := hlow i h1' b hb1; have := hnb b e.symm; omega
 ·have e : i = vs.length := by simp at hi; omega
  subst e
  rw [List.getElem_append_left h2', List.getElem_concat_length rfl]
  cases hb1 : rv.ownBlock with
  | none => exact .inl rfl
  | some b => exact .inr fun e => by have := hlow j h2' b e.symm; have := hnb b hb1; omega
 ·simp at hi hj; omega

end Go.Proofs.YtaabkeejbhdenaaGreatDoor

namespace Go.Proofs.YtaabkeejbhdenaaGreatDoor
open Go Go.RowKit

theorem blk_map_ne' {w : World} {b : Nat} {cs : List Value} {t : TypeId} (h : Blk w b cs t) {m : Nat} {es : Array MapEntry} {c : Nat} (hm : w.heap[m]? = some (.map es c)) : b ≠ m := by
 intro e
 subst e
 unfold Blk at h
 rw [h] at hm
 cases hm
theorem blk_own_ne' {w : World} {b : Nat} {cs : List Value} {t : TypeId} (h : Blk w b cs t) {base e size n : Nat} {v : Value} {xs : List Value} (ho : w.ownsRow base e size v n xs) (he : e ≠ t) : some b ≠ v.ownBlock := by
 rcases own_type_ne ho (show w.heap[b]? = some (.cells cs.toArray t (0, 0)) from h) he with h | h
 ·rw [h]; simp
 ·exact fun e => h e.symm
theorem blk_blk_ne {w : World} {b c : Nat} {cs ds : List Value} {t u : TypeId} (h : Blk w b cs t) (k : Blk w c ds u) (he : t ≠ u) : b ≠ c := by
 intro e
 subst e
 unfold Blk at h k
 rw [h] at k
 simp only [Option.some.injEq, Obj.cells.injEq] at k
 exact he k.2.1

/-- A set that can be a row: not empty, its numbers small. -/
structure RowOk (r : List Int) : Prop where
 ne : r ≠ []
 len : r.length ≤ 40
 low : ∀ x ∈ r, 0 ≤ x ∧ x < 40
theorem RowOk.i64 {r : List Int} (h : RowOk r) : ∀ x ∈ r, -9223372036854775808 ≤ x ∧ x ≤ 9223372036854775807 := fun x hx => by have := h.low x hx; omega
theorem RowOk.size {r : List Int} (h : RowOk r) : (keyT r).size ≤ 1048576 := by have := keyT_size h.i64; have := h.len; omega
theorem RowOk.key {r : List Int} (h : RowOk r) : ∃ l, keyOf Tryz.prog 9 (keyV r) = some l := keyOfS _ h.size
theorem RowOk.inj {a b : List Int} (ha : RowOk a) (hb : RowOk b) (h : keyV a = keyV b) : a = b :=
 keyT_inj ha.ne hb.ne (fun x hx => (ha.low x hx).1) (fun x hx => (hb.low x hx).1) (by unfold keyV at h; exact Value.string.inj h)
theorem keysV_nodup {rows : List (List Int)} (hd : rows.Nodup) (ho : ∀ r ∈ rows, RowOk r) : (rows.map keyV).Nodup := by
 rw [List.nodup_iff_pairwise_ne, List.pairwise_map]
 refine List.Pairwise.imp_of_mem ?_ (List.nodup_iff_pairwise_ne.1 hd)
 intro a b ha hb hne e
 exact hne ((ho a ha).inj (ho b hb) e)

theorem keyfn_any (lo : Nat) (rv : Value) (r : List Int) (w : World) (hr : RowOk r) (hs : SliceK 1 encI lo w rv r) (g : Glob w) :
  Calls Tryz.prog 59 #[rv] w fun e w' => e = .returned (keyV r) ∧ Below w.heap.size w w' := by
 have HJ := Lib.hid (joined_any rv ⟨#[44]⟩ lo r w (by have := hr.len; omega) (fun i hi => hr.i64 _ (List.getElem_mem hi)) hs g (by
  have h1 := keyT_len hr.i64
  have h2 := hr.len
  show (Lib.join ((wordsOf r).map (·.data.toList)) [44]).length ≤ 1073741824
  omega))
 clear hs g
 go_enter Tryz.func59, Tryz.ntmps59
 go_wp2_with fail
 refine Calls.mono HJ.out ?_
 rintro e w1 ⟨rfl, hb⟩
 have HB := Lib.hid hb
 clear hb HJ
 go_wp2
 go_ret
 exact ⟨rfl, HB.out⟩

/-- After the map and the list have grown. -/
theorem ExpAt.grow {on : Bool} {B xb mb pb ib rb i B2 : Nat} {t : Lts} {st : DNet} {sv av sv' rv : Value} {vs : List Value} {r : List Int} {w1 w2 w3 w4 : World} (h : ExpAt B xb mb pb ib rb on i t st sv av vs w1) (hg2 : w1.grownBy w2 (some mb)) (hm2 : NumMap .i64 w2 mb (st.rows.map keyV ++ [keyV r]))
  (hb3 : Below w2.heap.size w2 w3) (hg4 : w3.grownBy w4 sv.ownBlock) (ho4 : w4.ownsRow B 66 1 sv' (vs.length + 1) (vs ++ [rv])) (hlow : ∀ (i : Nat) (h : i < vs.length) b, vs[i].ownBlock = some b → b < B2) (hB2 : B ≤ B2)
  (hr : w1.ownsRow B2 2 1 rv r.length (r.map (Value.int .i64))) :
  ExpAt B xb mb pb ib rb on i t ⟨st.rows ++ [r], st.edges⟩ sv' av (vs ++ [rv]) (w4.setCell ⟨xb, 0, none⟩ sv') := by
 have mblk : w1.heap[mb]? = some (.map (((st.rows.map keyV).mapIdx fun i k => (⟨k, .int .i64 i, i⟩ : MapEntry)).toArray) (st.rows.map keyV).length) := h.map
 have X2 := (h.box.below (Below.refl _ _)) 
 have X2 : Blk w2 xb _ _ := (hg2.block xb h.box.lt (fun e => blk_map_ne' h.box mblk (Option.some.inj e))).trans h.box
 have P2 : Blk w2 pb _ _ := (hg2.block pb h.ptr.lt (fun e => blk_map_ne' h.ptr mblk (Option.some.inj e))).trans h.ptr
 have I2 := fun (ho : on = true) => (show Blk w2 ib [.int .i64 i] 3 from (hg2.block ib (h.idx ho).lt (fun e => blk_map_ne' (h.idx ho) mblk (Option.some.inj e))).trans (h.idx ho))
 have S2 : Blk w2 rb _ _ := (hg2.block rb h.res.lt (fun e => blk_map_ne' h.res mblk (Option.some.inj e))).trans h.res
 have R2 := h.rows.kept hg2 (own_map_ne h.rows.2.1 mblk) (fun j hj => own_map_ne (h.rows.2.2.1 j hj (by rw [← h.rows.1]; exact hj)) mblk)
 have A2 := h.arcs.kept hg2 (own_map_ne h.arcs mblk)
 have V2 := hr.kept hg2 (own_map_ne hr mblk)
 have X3 := X2.below hb3
 have P3 := P2.below hb3
 have I3 := fun ho => (I2 ho).below hb3
 have S3 := S2.below hb3
 have R3 := R2.below hb3
 have A3 := owns_below A2 hb3
 have V3 := owns_below V2 hb3
 have M3 := hm2.below hb3
 have X4 : Blk w4 xb _ _ := (hg4.block xb X3.lt (blk_own_ne' X3 R3.2.1 (by decide))).trans X3
 have P4 : Blk w4 pb _ _ := (hg4.block pb P3.lt (blk_own_ne' P3 R3.2.1 (by decide))).trans P3
 have I4 := fun (ho : on = true) => (show Blk w4 ib [.int .i64 i] 3 from (hg4.block ib (I3 ho).lt (blk_own_ne' (I3 ho) R3.2.1 (by decide))).trans (I3 ho))
 have S4 : Blk w4 rb _ _ := (hg4.block rb S3.lt (blk_own_ne' S3 R3.2.1 (by decide))).trans S3
 have M4 := M3.kept hg4 (fun e => by
  rcases own_map_ne R3.2.1 M3 with h | h
  ·rw [h] at e; cases e
  ·exact h e.symm)
 have A4 := A3.kept hg4 (own_types A3 R3.2.1 (by decide))
 have R4 := OwnIntss.pushB (by decide) R3 hlow V3 hB2 hg4 ho4
 have hs := grown_setCell w4 ⟨xb, 0, none⟩ sv'
 refine ⟨h.base, h.mbase, h.pbase, h.ibase, h.rbase, X4.set 0 sv', P4.setOther _ _ (blk_blk_ne P4 X4 (by decide)), (fun ho => (I4 ho).setOther _ _ (blk_blk_ne (I4 ho) X4 (by decide))), S4.setOther _ _ (blk_blk_ne S4 X4 (by decide)), ?_, ?_, ?_⟩
 ·exact R4.kept hs (own_type_ne R4.2.1 X4 (by decide)) (fun j hj => own_type_ne (R4.2.2.1 j hj (by rw [← R4.1]; exact hj)) X4 (by decide))
 ·have := M4.kept hs (fun e => blk_map_ne' X4 M4 (Option.some.inj e).symm)
  simpa using this
 ·exact A4.kept hs (own_type_ne A4 X4 (by decide))

set_option maxRecDepth 100000 in
set_option maxHeartbeats 2000000 in
theorem findS_old (B xb mb pb ib rb : Nat) (on : Bool) (i B2 : Nat) (t : Lts) (st : DNet) (sv av rv : Value) (vs : List Value) (r : List Int) (w : World) (h : ExpAt B xb mb pb ib rb on i t st sv av vs w) (hd : st.rows.Nodup) (hok : ∀ r ∈ st.rows, RowOk r) (hr : RowOk r)
  (hv : w.ownsRow B2 2 1 rv r.length (r.map (Value.int .i64))) (hm : r ∈ st.rows) (g : Glob w) :
  Calls Tryz.prog 96 #[.pointer (some ⟨xb, 0, none⟩), rv] w fun e w' => e = .returned (.int .i64 (dplace st.rows r)) ∧ Below w.heap.size w w' := by
 have hpl := dplace_lt.2 hm
 have hpk : dplace st.rows r < (st.rows.map keyV).length := by rw [List.length_map]; exact hpl
 have HL := Lib.hid (fun (w' : World) (hm : NumMap .i64 w' mb (st.rows.map keyV)) => hm.found keyedS underMapS (fun v hv => by obtain ⟨q', hq', rfl⟩ := List.mem_map.1 hv; exact (hok q' hq').key) (keysV_nodup hd hok) hpk)
 have hk3 : (st.rows.map keyV)[dplace st.rows r] = keyV r := by rw [List.getElem_map, dplace_get hpl]
 rw [hk3] at HL
 obtain ⟨n, hn⟩ : ∃ n, n = dplace st.rows r := ⟨_, rfl⟩
 rw [← hn] at HL
 have HN := Lib.hid hn
 have HK := Lib.hid (keyfn_any B2 rv r w hr (SliceK.of_owns (enc := encI) encI_len rfl (by rw [flat_encI]; exact hv)) g)
 have HE := Lib.hid h
 have x3 := h.box.cell 3 rfl
 have hxl := h.box.lt
 clear h hd hok hr hv hm g hpl hpk hk3 hn
 go_enter Tryz.func96, Tryz.ntmps96
 go_wp2_with fail
 refine Calls.mono HK.out ?_
 rintro e w1 ⟨rfl, hb1⟩
 have HB1 := Lib.hid hb1
 have x1 := (HE.out.below hb1).box.cell 1 rfl
 have hlk := HL.out w1 (HE.out.map.below hb1)
 unfold keyV at hlk ⊢
 clear hb1 HK x3
 go_wp2
 go_ret
 exact ⟨by rw [← HN.out]; rfl, HB1.out⟩

theorem info_intsF : (Tryz.prog.info? 66).map (fun i => (i.zero, i.size, i.bytes)) = some (some (.slice none 0 0), 1, 24) := by kernel_rfl

set_option maxRecDepth 100000 in
set_option maxHeartbeats 4000000 in
theorem findS_new (B xb mb pb ib rb : Nat) (on : Bool) (i B2 : Nat) (t : Lts) (st : DNet) (sv av rv : Value) (vs : List Value) (r : List Int) (w : World) (hB : B ≤ w.heap.size) (h : ExpAt B xb mb pb ib rb on i t st sv av vs w) (_hd : st.rows.Nodup) (hok : ∀ r ∈ st.rows, RowOk r) (hr : RowOk r)
  (hlow : ∀ (i : Nat) (h : i < vs.length) b, vs[i].ownBlock = some b → b < B2) (hB2 : B ≤ B2) (hv : w.ownsRow B2 2 1 rv r.length (r.map (Value.int .i64))) (hm : r ∉ st.rows) (hfew : st.rows.length ≤ 1000) (g : Glob w) :
  Calls Tryz.prog 96 #[.pointer (some ⟨xb, 0, none⟩), rv] w fun e w' => e = .returned (.int .i64 st.rows.length) ∧ Below B w w' ∧ ∃ sv', ExpAt B xb mb pb ib rb on i t ⟨st.rows ++ [r], st.edges⟩ sv' av (vs ++ [rv]) w' := by
 have hks : ∀ v ∈ st.rows.map keyV, ∃ l, keyOf Tryz.prog 9 v = some l := fun v hv => by obtain ⟨q', hq', rfl⟩ := List.mem_map.1 hv; exact (hok q' hq').key
 obtain ⟨kl, hkl⟩ := hr.key
 have hkn : keyV r ∉ st.rows.map keyV := fun hmm => by obtain ⟨q', hq', e⟩ := List.mem_map.1 hmm; rw [(hok q' hq').inj hr e] at hq'; exact hm hq'
 have HL := Lib.hid (fun (w' : World) (hm : NumMap .i64 w' mb (st.rows.map keyV)) => hm.missing keyedS underMapS hks (zeroI64 w') hkl hkn)
 have HU := Lib.hid (fun (w' : World) (hm : NumMap .i64 w' mb (st.rows.map keyV)) => hm.store keyedS underMapS hks hkl hkn (by rw [List.length_map]; unfold maxLen; omega))
 rw [List.length_map] at HU
 have HK := Lib.hid (keyfn_any B2 rv r w hr (SliceK.of_owns (enc := encI) encI_len rfl (by rw [flat_encI]; exact hv)) g)
 have HE := Lib.hid h
 have HV := Lib.hid hv
 have HLOW := Lib.hid hlow
 have x3 := h.box.cell 3 rfl
 have hxl := h.box.lt
 have hvl : vs.length = st.rows.length := h.rows.1
 obtain ⟨a0, c0, rfl, -, -⟩ := owns_slice h.rows.2.1
 obtain ⟨ar, cr, rfl, -, -⟩ := owns_slice hv
 obtain ⟨N, hN⟩ : ∃ N, N = st.rows.length := ⟨_, rfl⟩
 rw [← hN] at HU hfew hvl
 rw [hvl] at HE
 have HNN := Lib.hid hN
 obtain ⟨RL, hRL⟩ : ∃ RL, RL = r.length := ⟨_, rfl⟩
 rw [← hRL] at HV HK
 rw [← hRL]
 have HRL := Lib.hid hRL
 have HBB := Lib.hid hB
 obtain ⟨i0, hi, hz0, hz1, hz2⟩ := info_parts info_intsF
 clear h _hd hok hr hv hm g hN hks hkl hkn hlow hRL hB
 go_enter Tryz.func96, Tryz.ntmps96
 go_wp2_with fail
 refine Calls.mono HK.out ?_
 rintro e w1 ⟨rfl, hb1⟩
 have HB1 := Lib.hid (Below.mono hb1 HBB.out)
 have HE1 := Lib.hid (HE.out.below hb1)
 have HV1 := Lib.hid (owns_below HV.out hb1)
 have x1 := HE1.out.box.cell 1 rfl
 have x0 := HE1.out.box.cell 0 rfl
 have hlk := HL.out w1 HE1.out.map
 obtain ⟨w2, hup, hm2, hg2⟩ := HU.out w1 HE1.out.map
 unfold keyV at hlk hup ⊢
 have hs1 : B ≤ w1.heap.size := Nat.le_trans HBB.out hb1.size
 clear hb1 HK x3 HE HV
 have mblk : w1.heap[mb]? = some (.map (((st.rows.map keyV).mapIdx fun i k => (⟨k, .int .i64 i, i⟩ : MapEntry)).toArray) (st.rows.map keyV).length) := HE1.out.map
 have X2 : Hid (Blk w2 xb _ _) := (hg2.block xb HE1.out.box.lt (fun e => blk_map_ne' HE1.out.box mblk (Option.some.inj e))).trans HE1.out.box
 have R2 := Lib.hid (HE1.out.rows.2.1.kept hg2 (own_map_ne HE1.out.rows.2.1 mblk))
 rw [hvl] at R2
 have HG2 := Lib.hid hg2
 have HM2 := Lib.hid hm2
 have HB2 := Lib.hid (HB1.out.grown hg2 hs1 (fun k e => by cases e; exact HE1.out.mbase))
 have y0 := X2.out.cell 0 rfl
 have hs2 : B ≤ w2.heap.size := Nat.le_trans hs1 hg2.size
 have hx2 := X2.out.lt
 clear hg2 hm2 mblk
 go_wp2_with (at_builtin; refine wpList_append_own_at _ rfl _ _ 45 rfl B 66 i0 (.slice none 0 0) 1 24 Tryz.underlying45 hi hz0 hz1 hz2 rfl (by decide) _ _ _ rfl (R2.out.alloc _) ⟨w2.heap.size, 0, none⟩ 1 1 [.slice ar RL cr] rfl rfl ?c1 ?c2 ?c3 ?c4 ?c5 ?_)
 case c1 => exact (cell_one_new _ _ _)
 case c2 => first | rfl | (intro u hu; simp at hu; subst hu; rfl)
 case c3 => first | omega | (simp [maxLen]; omega)
 case c4 => first | omega | (simp; omega)
 case c5 => first | omega | (simp; omega)
 intro v4 w4 ho4 hg4 _ _
 obtain ⟨a4, c4, rfl, -, -⟩ := owns_slice ho4
 have hal : Below w2.heap.size w2 (w2.alloc (.cells #[.slice ar RL cr] 66)) := (Below.refl _ _).alloc (Nat.le_refl _) _
 have HF := Lib.hid (ExpAt.grow (B2 := B2) (r := r) HE1.out HG2.out HM2.out hal hg4 (by rw [hvl]; exact ho4) HLOW.out hB2 (by rw [← HRL.out]; exact HV1.out))
 have hne : some xb ≠ (Value.slice a0 N c0).ownBlock := blk_own_ne' X2.out R2.out (by decide)
 have hsv : w4.heap.size ≥ w2.heap.size := by have h1 := hal.size; have h2 := hg4.size; omega
 have z0 : w4.cell? ⟨xb, 0, none⟩ = some (.slice a0 N c0) := (hg4.cell_far ⟨xb, 0, none⟩ (by simp; omega) hne).trans (keeps hal hx2 y0)
 have z1 : w4.frozen? ⟨xb, 0, none⟩ = false := (hg4.frozen_far ⟨xb, 0, none⟩ (by simp; omega) hne).trans ((hal.frozen (p := ⟨xb, 0, none⟩) hx2).trans (X2.out.frozen 0))
 have HB4 : Hid (Below B w w4) := (HB2.out.trans (hal.mono hs2)).grown hg4 (by simp; omega) (fun b e => (R2.out.lt b e).1)
 clear ho4 hg4 hal hup y0 x0 x1 hlk
 go_wp2
 go_ret
 refine ⟨by rw [← HNN.out]; rfl, HB4.out.setCell HE1.out.base _, _, HF.out⟩

end Go.Proofs.YtaabkeejbhdenaaGreatDoor
