/-
  Plain laws: the texts that strconv reads and that are their numbers' decimal forms.
  Plain laws: the implementation's reading of a label says what the plain definition says.
  A map that numbers its keys in the order in which they came.
  What the implementation's ValidLts computes.
-/
import Derived.Test.YtdkbbknhighebaaGreatDoorL4
import Derived.Lib.ParseIntBTie
import Derived.Lib.AtoiAllCases
import Derived.Lib.AtoiTie
import Derived.Test.YtdkbbknhighebaaGreatDoorL7
import Derived.Lib.IndexBytes
import Derived.Test.YtdkbbknhighebaaGreatDoorL1
import Derived.Maps.OwnOps
import Derived.Test.YtdkbbknhighebaaGreatDoorL5
import Derived.Lib.ItoaNum
import Derived.Lib.ItoaLen
import Derived.Deep.RegionLaw
import Derived.Deep.AppendLies
import Derived.Test.YtdkbbknhighebaaGreatDoorL2
namespace Go.Proofs.YtdkbbknhighebaaGreatDoor
open Go Go.RowKit


theorem digit_back {c : UInt8} (h : digit c = true) : UInt8.ofNat (48 + (c.toNat - 48)) = c := by
 unfold digit at h
 simp only [Bool.and_eq_true, decide_eq_true_eq] at h
 rw [show 48 + (c.toNat - 48) = c.toNat from by omega]
 exact UInt8.ofNat_toNat
theorem digit_lt {c : UInt8} (h : digit c = true) : c.toNat - 48 < 10 ∧ 48 ≤ c.toNat := by
 unfold digit at h
 simp only [Bool.and_eq_true, decide_eq_true_eq] at h
 omega
theorem decDigits_step (n d : Nat) (hn : 0 < n) (hd : d < 10) : Lib.decDigits (10 * n + d) = Lib.decDigits n ++ [UInt8.ofNat (48 + d)] := by
 rw [Lib.decDigits, dif_neg (by omega), show (10 * n + d) / 10 = n from by omega, show (10 * n + d) % 10 = d from by omega]
theorem decDigits_val : ∀ (l : List UInt8) (n : Nat), 0 < n → l.all digit = true → Lib.decDigits (valFrom n l) = Lib.decDigits n ++ l
 | [], n, _, _ => by rw [valFrom_nil, List.append_nil]
 | c :: r, n, hn, h => by
  simp only [List.all_cons, Bool.and_eq_true] at h
  rw [valFrom_cons, decDigits_val r _ (by omega) h.2, decDigits_step n _ hn (digit_lt h.1).1, digit_back h.1, List.append_assoc]
  rfl
theorem decDigits_le : ∀ (k u : Nat), 1 ≤ k → u < 10 ^ k → (Lib.decDigits u).length ≤ k
 | 0, _, h, _ => by omega
 | k + 1, u, _, h => by
  rw [Lib.decDigits]
  split
  ·simp
  ·have h1 : 1 ≤ k := by
    rcases Nat.eq_zero_or_pos k with h0 | h0
    ·subst h0; simp at h; omega
    ·exact h0
   have := decDigits_le k (u / 10) h1 (by rw [Nat.pow_succ] at h; omega)
   simp; omega
theorem digit_of {d : Nat} (h : d < 10) : digit (UInt8.ofNat (48 + d)) = true := by
 unfold digit
 have : (UInt8.ofNat (48 + d)).toNat = 48 + d := by rw [UInt8.toNat_ofNat']; omega
 rw [this]
 simp; omega
theorem decDigits_digit (u : Nat) : (Lib.decDigits u).all digit = true := by
 induction u using Nat.strongRecOn with
 | ind u ih =>
  rw [Lib.decDigits]
  split
  ·next h => rw [List.all_cons, digit_of h]; rfl
  ·next h => rw [List.all_append, ih (u / 10) (by omega), List.all_cons, digit_of (show u % 10 < 10 by omega)]; rfl
/-- The digits are those of their value, but for leading zeros. -/
theorem decDigits_back {ds : List UInt8} (h0 : ds ≠ []) (h : ds.all digit = true) : Lib.decDigits (valFrom 0 ds) = ds ↔ ¬ (ds.head? = some 48 ∧ 1 < ds.length) := by
 cases ds with
 | nil => exact absurd rfl h0
 | cons c r =>
  have ha := h
  simp only [List.all_cons, Bool.and_eq_true] at h
  by_cases hc : c = 48
  ·subst hc
   constructor
   ·rintro e ⟨-, hl⟩
    have h1 : valFrom 0 (48 :: r) = valFrom 0 r := by rw [valFrom_cons]; rfl
    have h2 := valFrom_lt r 0 h.2
    have h3 := decDigits_le r.length (valFrom 0 r) (by simp at hl; omega) (by omega)
    rw [h1] at e
    rw [e] at h3
    simp at h3; omega
   ·intro hn
    have : r = [] := by
     rcases r with _ | ⟨a, b⟩
     ·rfl
     ·exact absurd ⟨rfl, by simp⟩ hn
    subst this
    rw [valFrom_cons, valFrom_nil, Lib.decDigits_one (by decide)]
    rfl
  ·constructor
   ·rintro - ⟨e, -⟩
    simp at e
    exact hc e
   ·intro _
    have hd := digit_lt h.1
    have hpos : 0 < c.toNat - 48 := by
     have : c.toNat ≠ 48 := fun e => hc (UInt8.toNat_inj.1 e)
     omega
    rw [valFrom_cons, Nat.mul_zero, Nat.zero_add, decDigits_val r _ hpos h.2, Lib.decDigits_one hd.1, digit_back h.1]
    rfl

theorem digitVal_of {c : UInt8} (h : digit c = true) : Lib.digitVal c = some (c.toNat - 48) := by
 unfold digit at h
 simp only [Bool.and_eq_true, decide_eq_true_eq] at h
 unfold Lib.digitVal
 rw [if_pos (by omega)]
theorem digitVal_not {c : UInt8} (h : digit c = false) : Lib.digitVal c = none := by
 unfold digit at h
 simp only [Bool.and_eq_false_iff, decide_eq_false_iff_not] at h
 unfold Lib.digitVal
 rw [if_neg (by omega)]
theorem decFrom_eq : ∀ (l : List UInt8) (n : Nat), Lib.decFrom n l = if l.all digit then some (valFrom n l) else none
 | [], n => by simp [Lib.decFrom, valFrom_nil]
 | c :: r, n => by
  unfold Lib.decFrom
  cases hc : digit c with
  | true => rw [digitVal_of hc]; simp only; rw [decFrom_eq r, valFrom_cons, Nat.mul_comm]; simp [hc]
  | false => rw [digitVal_not hc]; simp [hc]
theorem decNat_eq (l : List UInt8) : Lib.decNat l = if l ≠ [] ∧ l.all digit = true then some (valFrom 0 l) else none := by
 unfold Lib.decNat
 cases l with
 | nil => rfl
 | cons c r => rw [decFrom_eq]; simp

theorem numDs_eq (neg : Bool) (ds : List UInt8) (h : ds.length ≤ 18) : numDs neg ds = (Lib.decNat ds).bind fun m => if Lib.decDigits m = ds ∧ ¬ (neg = true ∧ m = 0) then some (if neg then -(m : Int) else m) else none := by
 rw [decNat_eq]
 unfold numDs
 by_cases hq : ds ≠ [] ∧ ds.all digit = true
 ·obtain ⟨h0, ha⟩ := hq
  have hd : (if ds ≠ [] ∧ ds.all digit = true then some (valFrom 0 ds) else none) = some (valFrom 0 ds) := if_pos ⟨h0, ha⟩
  rw [hd, Option.bind_some]
  have hb := decDigits_back h0 ha
  have hl : ds.length ≠ 0 := fun e => h0 (List.eq_nil_of_length_eq_zero e)
  by_cases hz : ds.head? = some 48
  ·by_cases hl1 : 1 < ds.length
   ·rw [if_pos (.inr (.inr (.inl ⟨hz, .inr hl1⟩))), if_neg (fun hh => (hb.1 hh.1) ⟨hz, hl1⟩)]
   ·have e : ds = [48] := by
     cases ds with
     | nil => exact absurd rfl h0
     | cons c r =>
      have : r = [] := List.eq_nil_of_length_eq_zero (by rw [List.length_cons] at hl1; omega)
      subst this
      simp at hz
      rw [hz]
    subst e
    have hv : valFrom 0 [48] = 0 := by rw [valFrom_cons, valFrom_nil]; rfl
    have hw : Lib.decDigits 0 = [48] := by rw [Lib.decDigits_one (by decide)]; rfl
    cases neg
    ·rw [hv]
     have hc : Lib.decDigits 0 = [48] ∧ ¬ (false = true ∧ (0 : Nat) = 0) := ⟨hw, by simp⟩
     exact (if_neg (by decide)).trans (if_pos hc).symm
    ·rw [hv]
     have hc : ¬ (Lib.decDigits 0 = [48] ∧ ¬ (true = true ∧ (0 : Nat) = 0)) := by simp
     exact (if_pos (.inr (.inr (.inl ⟨rfl, .inl rfl⟩)))).trans (if_neg hc).symm
  ·have hm : valFrom 0 ds ≠ 0 := by
    intro e
    have h1 := hb.2 (fun h => hz h.1)
    rw [e, Lib.decDigits_one (by decide)] at h1
    exact hz (by rw [← h1]; rfl)
   have hc0 : ¬ (ds.length = 0 ∨ 18 < ds.length ∨ (ds.head? = some 48 ∧ (neg = true ∨ 1 < ds.length)) ∨ ds.all digit = false) := by rw [ha]; simp [hl, hz]; omega
   have hc1 : Lib.decDigits (valFrom 0 ds) = ds ∧ ¬ (neg = true ∧ valFrom 0 ds = 0) := ⟨hb.2 (fun h => hz h.1), fun h => hm h.2⟩
   exact (if_neg hc0).trans (if_pos hc1).symm
 ·have hd : (if ds ≠ [] ∧ ds.all digit = true then some (valFrom 0 ds) else none) = none := if_neg hq
  rw [hd]
  simp only [Option.bind_none, ite_eq_left_iff]
  intro hn
  exfalso
  apply hn
  by_cases h0 : ds = []
  ·subst h0; exact .inl rfl
  ·refine .inr (.inr (.inr ?_))
   cases h : ds.all digit
   ·rfl
   ·exact absurd ⟨h0, h⟩ hq

theorem itoa_eq (m : Nat) : Lib.itoa (m : Int) = Lib.decDigits m := by unfold Lib.itoa; rw [if_neg (by omega)]; simp
theorem itoa_neg' (m : Nat) (h : 0 < m) : Lib.itoa (-(m : Int)) = 45 :: Lib.decDigits m := by unfold Lib.itoa; rw [if_pos (by omega)]; simp
theorem decDigits_head (u : Nat) (c : UInt8) (hc : digit c = false) (r : List UInt8) : Lib.decDigits u ≠ c :: r := by
 intro e
 have := decDigits_digit u
 rw [e] at this
 simp [hc] at this

/-- ReadDecimal reads what the plain definition reads. -/
theorem readDec_eq (l : List UInt8) : readDec l = numB l := by
 unfold readDec numB
 rw [Lib.parseIntB_64]
 cases l with
 | nil => rfl
 | cons c r =>
  by_cases h45 : c = 45
  ·subst h45
   have ht : Lib.trimPrefix (45 :: r) [45] = r := by simp [Lib.trimPrefix, Lib.hasPrefix]
   rw [ht, List.head?_cons, if_pos rfl, List.tail_cons]
   by_cases hl : 18 < r.length
   ·rw [if_pos hl]
    unfold numDs
    rw [if_pos (.inr (.inl hl))]
   ·rw [if_neg hl, Lib.atoiAll_minus, Lib.signed_short (by omega), numDs_eq true r (by omega)]
    cases hd : Lib.decNat r with
    | none => rfl
    | some m =>
     simp only [Option.map_some, Lib.NumEnd.ofOption, Option.bind_some, if_true]
     by_cases h0 : m = 0
     ·subst h0
      have e : Lib.itoa (-((0 : Nat) : Int)) ≠ 45 :: r := by
       have e1 : Lib.itoa (-((0 : Nat) : Int)) = [48] := by
        rw [show (-((0 : Nat) : Int)) = ((0 : Nat) : Int) from rfl, itoa_eq, Lib.decDigits_one (by decide)]; rfl
       rw [e1]
       intro h
       have := (List.cons.inj h).1
       revert this
       decide
      rw [if_neg e, if_neg (by simp)]
     ·rw [itoa_neg' m (by omega)]
      simp [h0]
  ·have ht : Lib.trimPrefix (c :: r) [45] = c :: r := by
    have : ([45] : List UInt8).isPrefixOf (c :: r) = false := by
     show ((45 : UInt8) == c && ([] : List UInt8).isPrefixOf r) = false
     rw [beq_eq_false_iff_ne.2 (fun e => h45 e.symm), Bool.false_and]
    unfold Lib.trimPrefix Lib.hasPrefix
    rw [this]
    rfl
   have hc : ¬ (some c = some (45 : UInt8)) := fun e => h45 (Option.some.inj e)
   rw [ht, List.head?_cons, show (if some c = some (45 : UInt8) then numDs true (c :: r).tail else numDs false (c :: r)) = numDs false (c :: r) from if_neg hc]
   by_cases hl : 18 < (c :: r).length
   ·rw [if_pos hl]
    unfold numDs
    rw [if_pos (.inr (.inl hl))]
   ·rw [if_neg hl, numDs_eq false _ (by omega)]
    by_cases h43 : c = 43
    ·subst h43
     have h1 : Lib.decNat (43 :: r) = none := by rw [decNat_eq, if_neg (by simp [digit])]
     rw [h1, Lib.atoiAll_plus, Lib.signless_short (by simp at hl; omega)]
     cases hd : Lib.decNat r with
     | none => rfl
     | some m =>
      simp only [Option.map_some, Lib.NumEnd.ofOption, Option.bind_none]
      rw [itoa_eq, if_neg (decDigits_head m 43 (by decide) r)]
    ·rw [Lib.atoiAll_plain c r (fun e => h43 (UInt8.toNat_inj.1 e)) (fun e => h45 (UInt8.toNat_inj.1 e)), Lib.signless_short (by omega)]
     cases hd : Lib.decNat (c :: r) with
     | none => rfl
     | some m =>
      simp only [Option.map_some, Lib.NumEnd.ofOption, Option.bind_some]
      rw [itoa_eq]
      simp

end Go.Proofs.YtdkbbknhighebaaGreatDoor

namespace Go.Proofs.YtdkbbknhighebaaGreatDoor
open Go Go.RowKit


theorem hasSuffix_one (l : List UInt8) (c : UInt8) : Lib.hasSuffix l [c] = (l.getLast? == some c) := by
 unfold Lib.hasSuffix List.isSuffixOf
 rw [← List.head?_reverse]
 cases l.reverse with
 | nil => rfl
 | cons a r =>
  show (c == a && true) = (some a == some c)
  rw [Bool.and_true]
  by_cases h : a = c
  ·subst h; simp
  ·rw [beq_eq_false_iff_ne.2 (fun e => h e.symm), beq_eq_false_iff_ne.2 (fun e => h (by simpa using e))]

theorem indexByte_find (c : UInt8) : ∀ l : List UInt8, Lib.indexByte l c = if l.findIdx (fun x => x == c) < l.length then ((l.findIdx (fun x => x == c) : Nat) : Int) else -1
 | [] => rfl
 | x :: r => by
  unfold Lib.indexByte
  rw [indexByte_find c r, List.findIdx_cons]
  obtain ⟨n, hn⟩ : ∃ n, n = r.findIdx (fun x => x == c) := ⟨_, rfl⟩
  rw [← hn]
  cases hx : (x == c)
  ·simp only [Bool.false_eq_true, if_false, cond_false, List.length_cons]
   by_cases h : n < r.length
   ·have h1 : n + 1 < r.length + 1 := by omega
    have h2 : ((n : Int) == -1) = false := by rw [beq_eq_false_iff_ne]; omega
    simp only [h, h1, h2, if_true, Bool.false_eq_true, if_false]
    omega
   ·have h1 : ¬ n + 1 < r.length + 1 := by omega
    simp only [h, h1, if_false, beq_self_eq_true, if_true]
  ·simp

theorem index_find (c : UInt8) (l : List UInt8) : Lib.index l [c] = if l.findIdx (fun x => x == c) < l.length then ((l.findIdx (fun x => x == c) : Nat) : Int) else -1 := by
 rw [Lib.index_one, indexByte_find]

theorem splitK_eq (c : UInt8) : ∀ (k : Nat) (l : List UInt8), Lib.count l [c] = k → Lib.splitK [c] 0 k l = splitAt c l := by
 intro k
 induction k with
 | zero =>
  intro l hk
  by_cases h : l.findIdx (fun x => x == c) < l.length
  ·have := Lib.count_hit (s := l) (sub := [c]) (i := l.findIdx (fun x => x == c)) (by simp) (by rw [index_find, if_pos h])
   omega
  ·rw [splitAt_none (List.findIdx_eq_length.1 (Nat.le_antisymm List.findIdx_le_length (by omega)))]
   rfl
 | succ k ih =>
  intro l hk
  by_cases h : l.findIdx (fun x => x == c) < l.length
  ·have hi := Lib.count_hit (s := l) (sub := [c]) (i := l.findIdx (fun x => x == c)) (by simp) (by rw [index_find, if_pos h])
   have hs := split_step (c := c) (l := l) (m := 0) (k := l.findIdx (fun x => x == c)) (Nat.zero_le _) h (fun j hj _ hlt => by simpa using List.not_of_lt_findIdx hlt) (List.findIdx_getElem (w := h))
   rw [List.drop_zero, Nat.sub_zero] at hs
   rw [hs]
   unfold Lib.splitK
   rw [index_find, if_pos h, if_neg (by rw [beq_iff_eq]; omega)]
   simp only [Int.toNat_natCast, Nat.add_zero, List.length_singleton]
   rw [ih _ (by simp only [List.length_singleton] at hi; omega)]
  ·rw [Lib.count_miss (by rw [index_find, if_neg h])] at hk
   omega

theorem join_splitAt (c : UInt8) : ∀ l : List UInt8, Lib.join (splitAt c l) [c] = l
 | [] => by simp [splitAt, Lib.join_one]
 | x :: r => by
  have ih := join_splitAt c r
  unfold splitAt
  cases hs : splitAt c r with
  | nil => exact absurd hs (splitAt_ne c r)
  | cons p ps =>
   rw [hs, Lib.join_cons] at ih
   simp only
   split
   ·next h =>
    rw [Lib.join_cons, Lib.joinTail, List.map_cons, List.flatten_cons, ← Lib.joinTail]
    rw [beq_iff_eq.1 h, ← ih]
    simp
   ·rw [Lib.join_cons, ← ih]; simp

theorem partsB_eq (rest : List UInt8) : (partsB rest).map (fun s => s.data.toList) = splitAt 44 (Lib.trimSuffix rest [41]) := by
 unfold partsB
 rw [Lib.splitB_data]
 exact splitK_eq 44 _ _ rfl

theorem numB_itoa {l : List UInt8} {n : Int} (h : numB l = some n) : Lib.itoa n = l := by
 rw [← readDec_eq] at h
 unfold readDec at h
 split at h
 ·cases h
 ·split at h
  ·split at h
   ·next he => cases h; exact he
   ·cases h
  ·cases h

theorem decs_eq (ss : List ByteArray) : decs ss = (ss.map (fun s => s.data.toList)).map fun p => (numB p).getD 0 := by
 unfold decs
 rw [List.map_map]
 exact List.map_congr_left fun s _ => by simp [readDec_eq]
theorem decsOk_eq (ss : List ByteArray) : decsOk ss = (ss.map (fun s => s.data.toList)).all fun p => (numB p).isSome := by
 unfold decsOk
 rw [List.all_map]
 congr 1
 funext s
 simp [readDec_eq]

theorem words_join {ps : List (List UInt8)} (h : (ps.all fun p => (numB p).isSome) = true) : (wordsOf (ps.map fun p => (numB p).getD 0)).map (·.data.toList) = ps := by
 unfold wordsOf
 rw [List.map_map, List.map_map]
 conv => rhs; rw [← List.map_id ps]
 refine List.map_congr_left fun p hp => ?_
 have h1 := List.all_eq_true.1 h p hp
 obtain ⟨n, hn⟩ := Option.isSome_iff_exists.1 h1
 simp [hn, numB_itoa hn]

theorem numOk_eq (p : List UInt8) : numOk p = ((numB p).isSome && isVal ((numB p).getD 0)) := by
 unfold numOk isVal
 cases numB p <;> simp

theorem all_numOk (ps : List (List UInt8)) : ps.all numOk = ((ps.all fun p => (numB p).isSome) && (ps.map fun p => (numB p).getD 0).all isVal) := by
 induction ps with
 | nil => rfl
 | cons p r ih =>
  simp only [List.all_cons, List.map_cons, ih, numOk_eq]
  cases (numB p).isSome <;> simp [Bool.and_left_comm]

theorem cut_eq (l : List UInt8) : Lib.cut l [40] = if openAt l < l.length then (l.take (openAt l), l.drop (openAt l + 1), true) else (l, [], false) := by
 unfold Lib.cut
 rw [index_find]
 unfold openAt
 by_cases h : l.findIdx (fun x => x == 40) < l.length
 ·rw [if_pos h, if_pos (by omega), if_pos h]
  simp
 ·rw [if_neg h, if_neg (by omega), if_neg h]

theorem isAction_tau : isAction tauL = false := by decide

/-- What the implementation says of a label is what the plain definition says. -/
theorem readOk_eq (l : List UInt8) : readOk l = labelOk l := by
 unfold readOk labelOk
 rw [cut_eq]
 have hle := openAt_le l
 by_cases h : openAt l < l.length
 ·rw [if_pos h, if_neg (show ¬ openAt l = l.length by omega)]
  simp only [if_true]
  have hget := openAt_get h
  have hl : l.take (openAt l) ++ 40 :: l.drop (openAt l + 1) = l := by
   rw [← hget, ← List.drop_eq_getElem_cons h, List.take_append_drop]
  rw [decs_eq, decsOk_eq, partsB_eq]
  obtain ⟨name, hname⟩ : ∃ x, x = l.take (openAt l) := ⟨_, rfl⟩
  obtain ⟨rest, hrest⟩ : ∃ x, x = l.drop (openAt l + 1) := ⟨_, rfl⟩
  have hrl : rest.length = l.length - 1 - openAt l := by rw [hrest, List.length_drop]; omega
  have hlast : l.getLast? = if rest = [] then some 40 else rest.getLast? := by
   conv => lhs; rw [← hl, ← hrest]
   rw [List.getLast?_append]
   cases rest with
   | nil => rfl
   | cons a r => simp [List.getLast?_cons]
  rw [← hname, ← hrest]
  rw [← hname, ← hrest] at hl
  obtain ⟨Q, hQ⟩ : ∃ Q, Q = splitAt 44 (Lib.trimSuffix rest [41]) := ⟨_, rfl⟩
  have hQne : Q ≠ [] := by rw [hQ]; exact splitAt_ne _ _
  rw [← hQ]
  by_cases h41 : l.getLast? = some 41
  ·have hr41 : rest.getLast? = some 41 := by
    rw [hlast] at h41
    split at h41
    ·cases h41
    ·exact h41
   have htrim : Lib.trimSuffix rest [41] = rest.take (rest.length - 1) := by
    unfold Lib.trimSuffix
    rw [hasSuffix_one, hr41, if_pos (by rfl)]
    rfl
   have hback : Lib.trimSuffix rest [41] ++ [41] = rest := by
    rw [htrim]
    have hne : rest ≠ [] := fun e => by rw [e] at hr41; cases hr41
    rw [← List.dropLast_eq_take]
    have : rest.getLast hne = 41 := by rw [List.getLast?_eq_some_getLast hne] at hr41; simpa using hr41
    have h9 := List.dropLast_concat_getLast hne
    rw [this] at h9
    exact h9
   have hparts : labelParts l = Q := by
    unfold labelParts
    rw [← hrest, hQ, htrim, hrl]
    congr 2
   rw [hparts, h41, all_numOk]
   cases hok : (Q.all fun p => (numB p).isSome) with
   | false => simp
   | true =>
    have htxt : labTxt name (Q.map fun p => (numB p).getD 0) = l := by
     unfold labTxt
     rw [words_join hok, if_neg (by simpa using hQne), hQ, join_splitAt, hback, hl]
    rw [htxt]
    unfold labB
    by_cases hn : name = tauL
    ·rw [if_pos hn, hn, isAction_tau]
     have : (Q.map fun p => (numB p).getD 0).isEmpty = false := by simpa using hQne
     rw [this]; simp
    ·rw [if_neg hn]
     simp only [List.length_map]
     cases isAction name <;> cases ((Q.map fun p => (numB p).getD 0).all isVal) <;> simp
  ·have h41' : (l.getLast? == some 41) = false := by simpa using h41
   rw [h41']
   simp only [Bool.false_and, Bool.and_false]
   cases hok : (Q.all fun p => (numB p).isSome) with
   | false => simp
   | true =>
    have hr41 : rest.getLast? ≠ some 41 := by
     intro e
     apply h41
     rw [hlast, if_neg (fun e2 => by rw [e2] at e; cases e)]
     exact e
    have htrim : Lib.trimSuffix rest [41] = rest := by
     unfold Lib.trimSuffix
     rw [hasSuffix_one, if_neg (by simpa using hr41)]
    have htxt : labTxt name (Q.map fun p => (numB p).getD 0) ≠ l := by
     unfold labTxt
     rw [words_join hok, if_neg (by simpa using hQne), hQ, join_splitAt, htrim]
     intro e
     have := congrArg List.length e
     rw [← hl] at this
     simp at this
    rw [decide_eq_false htxt]
    simp
 ·have he : openAt l = l.length := by omega
  rw [if_neg h, if_pos he]
  simp only [Bool.false_eq_true, if_false, decide_true, Bool.and_true]
  unfold labB
  by_cases ht : l = tauL
  ·rw [if_pos ht, ht]; rfl
  ·rw [if_neg ht]
   unfold isAction
   have : (l == tauL) = false := by simpa using ht
   rw [this]
   simp

end Go.Proofs.YtdkbbknhighebaaGreatDoor

namespace Go.Proofs.YtdkbbknhighebaaGreatDoor
open Go Go.RowKit Go.ChangeMaps Go.MapKept
open Go.Maps (Keyed)

/-- The block of a map whose i-th key leads to i. -/
def NumMap (q : IntKind) (w : World) (b : Nat) (ks : List Value) : Prop := w.heap[b]? = some (.map (ks.mapIdx fun i k => (⟨k, .int q i, i⟩ : MapEntry)).toArray ks.length)

theorem NumMap.made (q : IntKind) (w : World) : NumMap q (w.alloc (.map #[] 0)) w.heap.size [] := (MapKept.heap_alloc w _).1

theorem NumMap.kept {q : IntKind} {w w' : World} {b : Nat} {ks : List Value} {row : Option Nat} (h : NumMap q w b ks) (hg : w.grownBy w' row) (hne : some b ≠ row) : NumMap q w' b ks :=
 (hg.block b (Array.getElem?_eq_some_iff.1 h).1 hne).trans h

theorem NumMap.below {q : IntKind} {w w' : World} {b : Nat} {ks : List Value} (h : NumMap q w b ks) (hb : Below w.heap.size w w') : NumMap q w' b ks :=
 (hb.block b (Array.getElem?_eq_some_iff.1 h).1).trans h

theorem entry_key {q : IntKind} {ks : List Value} {e : MapEntry} (h : e ∈ (ks.mapIdx fun i k => (⟨k, .int q i, i⟩ : MapEntry)).toArray.toList) : e.key ∈ ks := by
 simp only [List.mem_mapIdx] at h
 obtain ⟨i, hi, rfl⟩ := h
 exact List.getElem_mem hi

theorem nodup_get {α : Type} {l : List α} (hd : l.Nodup) {i j : Nat} (hi : i < l.length) (hj : j < l.length) (h : l[i] = l[j]) : i = j := by
 have hp := List.pairwise_iff_getElem.1 hd
 rcases Nat.lt_trichotomy i j with h1 | h1 | h1
 ·exact absurd h (hp i j hi hj h1)
 ·exact h1
 ·exact absurd h.symm (hp j i hj hi h1)

section
variable {P : Program} {k t e : TypeId} {q : IntKind} {w : World} {b : Nat} {ks : List Value}

theorem NumMap.found (h : NumMap q w b ks) (K : Keyed P k) (ht : P.underlying t = some (.map k e)) (hks : ∀ v ∈ ks, ∃ l, keyOf P k v = some l) (hd : ks.Nodup) {i : Nat} (hi : i < ks.length) :
  (Instr.lookup t (.map (some b)) ks[i] true).run P w = .ok (.tuple #[.int q i, .bool true]) w := by
 obtain ⟨kl, hkey⟩ := hks _ (List.getElem_mem hi)
 rcases K.find w hkey (ks.mapIdx fun i k => (⟨k, .int q i, i⟩ : MapEntry)).toArray.toList (fun x hx => hks _ (entry_key hx)) with ⟨_, h2⟩ | ⟨j, e0, h1, h2, h3⟩
 ·exfalso
  refine h2 ⟨ks[i], .int q i, i⟩ ?_ rfl
  simp only [List.mem_mapIdx]
  exact ⟨i, hi, rfl⟩
 ·simp only [List.getElem?_mapIdx, Option.map_eq_some_iff] at h2
  obtain ⟨k', hk', rfl⟩ := h2
  obtain ⟨hj, hk'⟩ := List.getElem?_eq_some_iff.1 hk'
  simp only at h3
  have e1 : j = i := nodup_get hd hj hi (hk'.trans h3)
  subst e1
  have hb : w.heap[b]? = some (.map (ks.mapIdx fun i k => (⟨k, .int q i, i⟩ : MapEntry)).toArray ks.length) := h
  simp only at h1
  simp [Instr.lookup, run_underlying ht, MapKept.run_getObj_map hb, K.check w _ hkey, h1, Result.andThen]

theorem NumMap.missing (h : NumMap q w b ks) (K : Keyed P k) (ht : P.underlying t = some (.map k e)) (hks : ∀ v ∈ ks, ∃ l, keyOf P k v = some l) (hz : (zeroValue e).run P w = .ok (.int q 0) w) {key : Value} {kl : Lit} (hkey : keyOf P k key = some kl) (hn : key ∉ ks) :
  (Instr.lookup t (.map (some b)) key true).run P w = .ok (.tuple #[.int q 0, .bool false]) w := by
 rcases K.find w hkey (ks.mapIdx fun i k => (⟨k, .int q i, i⟩ : MapEntry)).toArray.toList (fun x hx => hks _ (entry_key hx)) with ⟨h1, _⟩ | ⟨j, e0, _, h2, h3⟩
 ·have hb : w.heap[b]? = some (.map (ks.mapIdx fun i k => (⟨k, .int q i, i⟩ : MapEntry)).toArray ks.length) := h
  simp only at h1
  simp [Instr.lookup, run_underlying ht, MapKept.run_getObj_map hb, K.check w _ hkey, h1, hz, Result.andThen]
 ·exact absurd (h3 ▸ entry_key (List.mem_of_getElem? h2)) hn

theorem NumMap.store (h : NumMap q w b ks) (K : Keyed P k) (ht : P.underlying t = some (.map k e)) (hks : ∀ v ∈ ks, ∃ l, keyOf P k v = some l) {key : Value} {kl : Lit} (hkey : keyOf P k key = some kl) (hn : key ∉ ks) (hroom : ks.length < maxLen) :
  ∃ w', (Instr.mapUpdate t (.map (some b)) key (.int q ks.length)).run P w = .ok () w' ∧ NumMap q w' b (ks ++ [key]) ∧ w.grownBy w' (some b) := by
 have hb : w.heap[b]? = some (.map (ks.mapIdx fun i k => (⟨k, .int q i, i⟩ : MapEntry)).toArray ks.length) := h
 have e1 : ((ks ++ [key]).mapIdx fun i k => (⟨k, .int q i, i⟩ : MapEntry)).toArray = (ks.mapIdx fun i k => (⟨k, .int q i, i⟩ : MapEntry)).toArray.push ⟨key, .int q ks.length, ks.length⟩ := by
  rw [List.mapIdx_append]
  simp
 rcases K.find w hkey (ks.mapIdx fun i k => (⟨k, .int q i, i⟩ : MapEntry)).toArray.toList (fun x hx => hks _ (entry_key hx)) with ⟨h1, _⟩ | ⟨j, e0, _, h2, h3⟩
 ·refine ⟨setBlock w b (.map ((ks.mapIdx fun i k => (⟨k, .int q i, i⟩ : MapEntry)).toArray.push ⟨key, .int q ks.length, ks.length⟩) (ks.length + 1)), ?_, ?_, ?_⟩
  ·simp only at h1
   have hr : ks.length < 9223372036854775807 := hroom
   simp [Instr.mapUpdate, run_underlying ht, MapKept.run_getObj_map hb, K.check w false hkey, h1, MapKept.run_setObj_map _ hb, Result.andThen, setBlock]
  ·unfold NumMap
   rw [e1, List.length_append, List.length_singleton]
   exact heap_setBlock_same hb _
  ·exact ⟨rfl, rfl, rfl, by simp [setBlock], fun i _ hi => heap_setBlock_other hb _ (fun e => hi (by rw [e]))⟩
 ·exact absurd (h3 ▸ entry_key (List.mem_of_getElem? h2)) hn

end
end Go.Proofs.YtdkbbknhighebaaGreatDoor

namespace Go.Proofs.YtdkbbknhighebaaGreatDoor
open Go Go.RowKit


def Short20 (ss : List ByteArray) : Prop := ∀ i (h : i < ss.length), ss[i].size ≤ 1048576

theorem within_is {n lo hi : Int} {b : Bool} (h : inB n lo hi = b) (w : World) : Calls Tryz.prog 29 #[.int .i64 n, .int .i64 lo, .int .i64 hi] w fun e w' => e = .returned (.bool b) ∧ w = w' := by
 subst h; exact within_any n lo hi w
theorem isState_is {lv ev : Value} {s i k : Int} {b : Bool} (h : inB k 0 (s - 1) = b) (w : World) (h1 : 1 ≤ s) (h2 : s ≤ 40) :
  Calls Tryz.prog 30 #[.agg #[.int .i64 s, .int .i64 i, lv, ev], .int .i64 k] w fun e w' => e = .returned (.bool b) ∧ Below w.heap.size w w' := by
 subst h; exact isState_any lv ev s i k w h1 h2
theorem IsLabel_is {s : ByteArray} {b : Bool} (h : labelOk s.data.toList = b) (w : World) (hs : s.size ≤ 1048576) (g : Glob w) :
  Calls Tryz.prog 31 #[.string s] w fun e w' => e = .returned (.bool b) ∧ Below w.heap.size w w' := by
 subst h; rw [← readOk_eq]; exact IsLabel_any s w hs g

theorem index_in (n m : Int) (w : World) (h1 : -9223372036854775807 ≤ m) (h2 : m ≤ 9223372036854775807) : Calls Tryz.prog 32 #[.int .i64 n, .int .i64 m] w fun e w' => e = .returned (.bool (inB n 0 (m - 1))) ∧ w = w' :=
 index_any n m w h1 h2

/-- The first k labels are as they must be. -/
def GoodTo (ls : List ByteArray) (k : Nat) : Prop :=
 ∀ q (h : q < ls.length), q < k → labelOk ls[q].data.toList = true ∧ (ls[q].toList == tauB) = decide (q = 0) ∧ ∀ (_ : 1 < q), strLess ls[q - 1] ls[q] = true

theorem GoodTo.succ {ls : List ByteArray} {k : Nat} (h : GoodTo ls k) (hk : k < ls.length) (h1 : labelOk ls[k].data.toList = true) (h2 : (ls[k].toList == tauB) = decide (k = 0)) (h3 : ∀ (_ : 1 < k), strLess ls[k - 1] ls[k] = true) : GoodTo ls (k + 1) := by
 intro q hq hlt
 by_cases e : q = k
 ·subst e; exact ⟨h1, h2, h3⟩
 ·exact h q hq (by omega)
theorem GoodTo.all {ls : List ByteArray} (h : GoodTo ls ls.length) (h1 : 1 ≤ ls.length) (h2 : ls.length ≤ 12) : LabelsOk ls :=
 ⟨h1, h2, fun hp => by simpa using (h 0 hp hp).2.1, fun i hi _ => (h i hi hi).1, fun i hi h1 => by
  have := (h i hi hi).2.1
  rw [decide_eq_false (by omega)] at this
  simpa using this, fun i hi h1 => (h (i + 1) hi hi).2.2 (by omega)⟩
theorem LabelsOk.all {ls : List ByteArray} (h : LabelsOk ls) (q : Nat) (hq : q < ls.length) : labelOk ls[q].data.toList = true := by
 by_cases e : q = 0
 ·subst e
  have := h.first hq
  rw [Lib.toList_data] at this
  rw [this]
  decide
 ·exact h.label q hq (by omega)

set_option maxRecDepth 100000 in
set_option maxHeartbeats 4000000 in
theorem ValidLts_any (lo : Nat) (t : Lts) (lv ev : Value) (w : World) (hsh : Short20 t.labels) (hl : SliceK 1 encS lo w lv t.labels) (he : SliceK 3 encE lo w ev t.edges) (g : Glob w) :
  Calls Tryz.prog 13 #[.agg #[.int .i64 t.states, .int .i64 t.initial, lv, ev]] w (Decides (Valid t) w) := by
 have HSH := Lib.hid hsh
 have G := Lib.hid g
 clear hsh g
 obtain ⟨al, cl, rfl, hln, hlc, hlr⟩ := hl
 obtain ⟨ae, ce, rfl, hen, hec, her⟩ := he
 have HLR := Lib.hid hlr
 have HER := Lib.hid her
 clear hlr her
 have HB0 : Hid (Below w.heap.size w (w.alloc (.cells #[.int .i64 t.states, .int .i64 t.initial, .slice al t.labels.length cl, .slice ae t.edges.length ce] 27))) := (Below.refl _ _).alloc (Nat.le_refl _) _
 cases hA : inB t.states 1 40
 ·have HA := Lib.hid hA
  clear hA
  go_enter Tryz.func13, Tryz.ntmps13
  go_wp2_with fail
  refine (within_is HA.out _).mono ?_
  rintro e w' ⟨rfl, rfl⟩
  go_wp2_with fail
  go_ret
  exact ⟨false, rfl, ⟨(fun h => by cases h), fun h => absurd ⟨h.st0, h.st1⟩ (inB_not HA.out)⟩, HB0.out⟩
 ·have hA1 : 1 ≤ t.states := (inB_iff.1 hA).1
  have hA2 : t.states ≤ 40 := (inB_iff.1 hA).2
  have HA := Lib.hid hA
  clear hA
  cases hB : inB t.initial 0 (t.states - 1)
  ·have HB := Lib.hid hB
   clear hB
   go_enter Tryz.func13, Tryz.ntmps13
   go_wp2_with fail
   refine (within_is HA.out _).mono ?_
   rintro e w' ⟨rfl, rfl⟩
   go_wp2_with fail
   refine (isState_is HB.out _ hA1 hA2).mono ?_
   rintro e w1 ⟨rfl, hb1⟩
   have HB1 := Lib.hid (HB0.out.trans (hb1.mono HB0.out.size))
   clear hb1
   go_wp2_with fail
   go_ret
   exact ⟨false, rfl, ⟨(fun h => by cases h), fun h => absurd ⟨h.in0, by have := h.in1; omega⟩ (inB_not HB.out)⟩, HB1.out⟩
  ·have HI : Hid (0 ≤ t.initial ∧ t.initial < t.states) := by unfold Hid; have := inB_iff.1 hB; omega
   have HB := Lib.hid hB
   clear hB
   cases hC : inB (t.labels.length : Int) 1 12
   ·have HC := Lib.hid hC
    clear hC
    go_enter Tryz.func13, Tryz.ntmps13
    go_wp2_with fail
    refine (within_is HA.out _).mono ?_
    rintro e w' ⟨rfl, rfl⟩
    go_wp2_with fail
    refine (isState_is HB.out _ hA1 hA2).mono ?_
    rintro e w1 ⟨rfl, hb1⟩
    have HB1 := Lib.hid (HB0.out.trans (hb1.mono HB0.out.size))
    have q2 : w1.cell? ⟨w.heap.size, 2, none⟩ = some (.slice al t.labels.length cl) := keeps hb1 (by simp) (by simp)
    clear hb1
    go_wp2_with fail
    refine (within_is HC.out _).mono ?_
    rintro e w' ⟨rfl, rfl⟩
    go_wp2_with fail
    go_ret
    exact ⟨false, rfl, ⟨(fun h => by cases h), fun h => by have h1 := h.labels.pos; have h2 := h.labels.most; exact (inB_not HC.out ⟨by omega, by omega⟩).elim⟩, HB1.out⟩
   ·have hC1 : 1 ≤ t.labels.length ∧ t.labels.length ≤ 12 := by have := inB_iff.1 hC; omega
    have HC := Lib.hid hC
    clear hC
    by_cases hD : 300 < (t.edges.length : Int)
    ·go_enter Tryz.func13, Tryz.ntmps13
     go_wp2_with fail
     refine (within_is HA.out _).mono ?_
     rintro e w' ⟨rfl, rfl⟩
     go_wp2_with fail
     refine (isState_is HB.out _ hA1 hA2).mono ?_
     rintro e w1 ⟨rfl, hb1⟩
     have HB1 := Lib.hid (HB0.out.trans (hb1.mono HB0.out.size))
     have q2 : w1.cell? ⟨w.heap.size, 2, none⟩ = some (.slice al t.labels.length cl) := keeps hb1 (by simp) (by simp)
     have q3 : w1.cell? ⟨w.heap.size, 3, none⟩ = some (.slice ae t.edges.length ce) := keeps hb1 (by simp) (by simp)
     clear hb1
     go_wp2_with fail
     refine (within_is HC.out _).mono ?_
     rintro e w' ⟨rfl, rfl⟩
     go_wp2_with fail
     go_ret
     exact ⟨false, rfl, ⟨(fun h => by cases h), fun h => by have h1 := h.most; omega⟩, HB1.out⟩
    ·go_enter Tryz.func13, Tryz.ntmps13
     go_wp2_with fail
     refine (within_is HA.out _).mono ?_
     rintro e w' ⟨rfl, rfl⟩
     go_wp2_with fail
     refine (isState_is HB.out _ hA1 hA2).mono ?_
     rintro e w1 ⟨rfl, hb1⟩
     have HB1 := Lib.hid (HB0.out.trans (hb1.mono HB0.out.size))
     have q0 : w1.cell? ⟨w.heap.size, 0, none⟩ = some (.int .i64 t.states) := keeps hb1 (by simp) (by simp)
     have q1 : w1.cell? ⟨w.heap.size, 1, none⟩ = some (.int .i64 t.initial) := keeps hb1 (by simp) (by simp)
     have q2 : w1.cell? ⟨w.heap.size, 2, none⟩ = some (.slice al t.labels.length cl) := keeps hb1 (by simp) (by simp)
     have q3 : w1.cell? ⟨w.heap.size, 3, none⟩ = some (.slice ae t.edges.length ce) := keeps hb1 (by simp) (by simp)
     have hbz : w.heap.size < w1.heap.size := by have := hb1.size; simp at this; omega
     clear hb1 HB0
     go_wp2_with fail
     refine (within_is HC.out _).mono ?_
     rintro e w' ⟨rfl, rfl⟩
     go_wp2_with fail
     have Q0 := Lib.hid q0
     have Q1 := Lib.hid q1
     have Q2 := Lib.hid q2
     have Q3 := Lib.hid q3
     have HLR1 := Lib.hid (HLR.out.below HB1.out)
     have HER1 := Lib.hid (HER.out.below HB1.out)
     have G1 := Lib.hid (G.out.below HB1.out)
     clear q0 q1 q2 q3 HLR HER G
     obtain ⟨b0, hb0⟩ : ∃ b0, b0 = w.heap.size := ⟨_, rfl⟩
     rw [← hb0] at hbz Q0 Q1 Q2 Q3
     simp only [← hb0]
     have HB00 := Lib.hid hb0
     clear hb0
     go_loopw [34] (fun i wr => ∃ k : Nat, k ≤ t.labels.length ∧ i = .int .i64 k ∧ Below w1.heap.size w1 wr ∧ GoodTo t.labels k) (fun i _ => t.labels.length - (intOf i).toNat)
     case atStart => exact ⟨0, Nat.zero_le _, rfl, Below.refl _ _, fun _ _ h => by omega⟩
     case round =>
      obtain ⟨k, hk, rfl, hbl, hgd⟩ := hrel
      have HBL := Lib.hid hbl
      have HGD := Lib.hid hgd
      have hsz := hbl.size
      clear hgd
      by_cases hlt : k < t.labels.length
      ·have hshk := HSH.out k hlt
       obtain ⟨bl, ol, rfl, -, hbs, c1⟩ := (HLR1.out.below hbl).one hlt
       simp only [encS, List.getElem?_cons_zero] at c1
       have q2 := keeps hbl hbz Q2.out
       obtain ⟨s, hs⟩ : ∃ s, s = t.labels[k] := ⟨_, rfl⟩
       rw [← hs] at c1 hshk
       have HS := Lib.hid hs
       have GR := Lib.hid (G1.out.below hbl)
       have HRR := Lib.hid (HLR1.out.below hbl)
       clear hs hbl
       cases h1 : labelOk s.data.toList
       ·have H1 := Lib.hid h1
        clear h1
        go_wp2_with fail
        refine (IsLabel_is H1.out _ hshk GR.out).mono ?_
        rintro e w2 ⟨rfl, hb2⟩
        have HB2 := Lib.hid (HBL.out.trans (hb2.mono hsz))
        clear hb2
        go_wp2_with fail
        go_ret
        refine ⟨false, rfl, ⟨(fun h => by cases h), fun h => ?_⟩, HB1.out.trans (HB2.out.mono HB1.out.size)⟩
        have := h.labels.all k hlt
        rw [← HS.out, H1.out] at this
        cases this
       ·have H1 := Lib.hid h1
        clear h1
        have HRL := Lib.hid (HLR1.out.below HBL.out)
        cases h2 : (s.toList == [116, 97, 117])
        ·have H2 : Hid ((t.labels[k].toList == tauB) = false) := by unfold Hid; rw [← HS.out]; exact h2
         rcases Nat.eq_zero_or_pos k with hk0 | hk0
         ·have hz : ((k : Int) == 0) = true := by rw [beq_iff_eq]; omega
          have HK0 : Hid (k = 0) := hk0
          clear hk0
          go_wp2_with fail
          refine (IsLabel_is H1.out _ hshk GR.out).mono ?_
          rintro e w2 ⟨rfl, hb2⟩
          have HB2 := Lib.hid (HBL.out.trans (hb2.mono hsz))
          clear hb2
          go_wp2_with fail
          go_ret
          refine ⟨false, rfl, ⟨(fun h => by cases h), fun h => ?_⟩, HB1.out.trans (HB2.out.mono HB1.out.size)⟩
          have hk0 : k = 0 := HK0.out
          subst hk0
          have h3 := h.labels.first hlt
          have h4 := H2.out
          rw [h3] at h4
          simp at h4
         ·have hz : ((k : Int) == 0) = false := by rw [beq_eq_false_iff_ne]; omega
          by_cases hk1 : 1 < k
          ·obtain ⟨m, rfl⟩ : ∃ m, k = m + 1 := ⟨k - 1, by omega⟩
           obtain ⟨_, _, e9, -, -, c0⟩ := HRL.out.one (show m < t.labels.length by omega)
           simp only [Option.some.injEq, Addr.mk.injEq, and_true] at e9
           obtain ⟨rfl, rfl⟩ := e9
           simp only [encS, List.getElem?_cons_zero] at c0
           obtain ⟨s0, hs0⟩ : ∃ s0, s0 = t.labels[m] := ⟨_, rfl⟩
           rw [← hs0] at c0
           have HS0 := Lib.hid hs0
           clear hs0
           cases h3 : Op.bytesLess s0.toList s.toList
           ·have h4 : (Op.bytesLess s.toList s0.toList || s.toList == s0.toList) = true := by rw [less_leq, h3]; rfl
            have H3 := Lib.hid h3
            clear h3
            go_wp2_with fail
            refine (IsLabel_is H1.out _ hshk GR.out).mono ?_
            rintro e w2 ⟨rfl, hb2⟩
            have q2' := keeps hb2 (by omega) q2
            have c0' := keeps hb2 hbs c0
            have HB2 := Lib.hid (HBL.out.trans (hb2.mono hsz))
            clear hb2
            go_wp2_with fail
            go_ret
            refine ⟨false, rfl, ⟨(fun h => by cases h), fun h => ?_⟩, HB1.out.trans (HB2.out.mono HB1.out.size)⟩
            have h5 := h.labels.rise m hlt (by omega)
            unfold strLess at h5
            rw [← HS0.out, ← HS.out, H3.out] at h5
            cases h5
           ·have h4 : (Op.bytesLess s.toList s0.toList || s.toList == s0.toList) = false := by rw [less_leq, h3]; rfl
            have H3 := Lib.hid h3
            clear h3
            go_wp2_with fail
            refine (IsLabel_is H1.out _ hshk GR.out).mono ?_
            rintro e w2 ⟨rfl, hb2⟩
            have q2' := keeps hb2 (by omega) q2
            have c0' := keeps hb2 hbs c0
            have HB2 := Lib.hid (HBL.out.trans (hb2.mono hsz))
            clear hb2
            go_wp2_with fail
            go_roundw
            case rel => exact ⟨m + 1 + 1, by omega, by go_num, HB2.out, HGD.out.succ hlt (by rw [← HS.out]; exact H1.out) (by rw [H2.out, decide_eq_false (by omega)]) (fun _ => by
             unfold strLess
             simp only [Nat.add_sub_cancel]
             rw [← HS0.out, ← HS.out]; exact H3.out)⟩
            case measure => simp [intOf]; omega
          ·have hk2 : decide (1 < (k : Int)) = false := by rw [decide_eq_false_iff_not]; omega
           have hk3 : ¬ 1 < (k : Int) := by omega
           go_wp2_with fail
           refine (IsLabel_is H1.out _ hshk GR.out).mono ?_
           rintro e w2 ⟨rfl, hb2⟩
           have HB2 := Lib.hid (HBL.out.trans (hb2.mono hsz))
           clear hb2
           go_wp2_with fail
           go_roundw
           case rel => exact ⟨k + 1, by omega, by go_num, HB2.out, HGD.out.succ hlt (by rw [← HS.out]; exact H1.out) (by rw [H2.out, decide_eq_false (by omega)]) (fun h => absurd h hk1)⟩
           case measure => simp [intOf]; omega
        ·have H2 : Hid ((t.labels[k].toList == tauB) = true) := by unfold Hid; rw [← HS.out]; exact h2
         rcases Nat.eq_zero_or_pos k with hk0 | hk0
         ·have hz : ((k : Int) == 0) = true := by rw [beq_iff_eq]; omega
          have HK0 : Hid (k = 0) := hk0
          have hk2 : decide (1 < (k : Int)) = false := by rw [decide_eq_false_iff_not]; omega
          have hk3 : ¬ 1 < (k : Int) := by omega
          clear hk0
          go_wp2_with fail
          refine (IsLabel_is H1.out _ hshk GR.out).mono ?_
          rintro e w2 ⟨rfl, hb2⟩
          have HB2 := Lib.hid (HBL.out.trans (hb2.mono hsz))
          clear hb2
          go_wp2_with fail
          go_roundw
          case rel => exact ⟨k + 1, by omega, by go_num, HB2.out, HGD.out.succ hlt (by rw [← HS.out]; exact H1.out) (by rw [H2.out, decide_eq_true HK0.out]) (fun h => by have := HK0.out; omega)⟩
          case measure => simp [intOf]; omega
         ·have hz : ((k : Int) == 0) = false := by rw [beq_eq_false_iff_ne]; omega
          go_wp2_with fail
          refine (IsLabel_is H1.out _ hshk GR.out).mono ?_
          rintro e w2 ⟨rfl, hb2⟩
          have HB2 := Lib.hid (HBL.out.trans (hb2.mono hsz))
          clear hb2
          go_wp2_with fail
          go_ret
          refine ⟨false, rfl, ⟨(fun h => by cases h), fun h => ?_⟩, HB1.out.trans (HB2.out.mono HB1.out.size)⟩
          have h3 := h.labels.other k hlt hk0
          have h4 := H2.out
          exact absurd (by simpa using h4) h3
      ·obtain rfl : k = t.labels.length := by omega
       have HLO : Hid (LabelsOk t.labels) := HGD.out.all hC1.1 hC1.2
       have q3 := keeps hbl hbz Q3.out
       clear HGD hbl HLR1 HSH G1
       obtain ⟨w2, hw2⟩ : ∃ w2, w2 = wr := ⟨_, rfl⟩
       go_wp2_with fail
       go_loopw [67] (fun i wr2 => ∃ k : Nat, k ≤ t.edges.length ∧ i = .int .i64 k ∧ Below w1.heap.size w1 wr2 ∧ (∀ q (h : q < t.edges.length), q < k → EdgeOk t t.edges[q]) ∧ (∀ q (h : q + 1 < t.edges.length), q + 1 < k → edgeLess t.edges[q] t.edges[q + 1] = true)) (fun i _ => t.edges.length - (intOf i).toNat)
       case atStart => exact ⟨0, Nat.zero_le _, rfl, HBL.out, fun _ _ h => by omega, fun _ _ h => by omega⟩
       case round =>
        obtain ⟨k, hk, rfl, hbl, hx1, hx2⟩ := hrel
        have HX1 := Lib.hid hx1
        have HX2 := Lib.hid hx2
        have HBE := Lib.hid hbl
        have hsz := hbl.size
        have q0 := keeps hbl hbz Q0.out
        have q1 := keeps hbl hbz Q1.out
        have q2 := keeps hbl hbz Q2.out
        have q3 := keeps hbl hbz Q3.out
        clear hx1 hx2 hbl
        by_cases hlt : k < t.edges.length
        ·have hml := hen
         obtain ⟨be, oe, rfl, -, hbe, e1, e2, e3⟩ := (HER1.out.below HBE.out).edge hlt
         have HROW := Lib.hid (HER1.out.below HBE.out)
         have HE := Lib.hid (show EdgeOk t t.edges[k] ↔ (inB t.edges[k].src 0 (t.states - 1) = true ∧ inB t.edges[k].dst 0 (t.states - 1) = true) ∧ inB t.edges[k].lab 0 ((t.labels.length : Int) - 1) = true from edgeOk_iff t _)
         obtain ⟨e, hee⟩ : ∃ e, e = t.edges[k] := ⟨_, rfl⟩
         rw [← hee] at e1 e2 e3 HE
         have HEE := Lib.hid hee
         clear hee
         have HO : Below wr.heap.size wr (wr.alloc (.cells #[.int .i64 e.src, .int .i64 e.lab, .int .i64 e.dst] 47)) := (Below.refl _ _).alloc (Nat.le_refl _) _
         have s0 := later_cell (w0 := wr.alloc (.cells #[.int .i64 e.src, .int .i64 e.lab, .int .i64 e.dst] 47)) (b := b0) (by simp; omega) (keeps HO (by omega) q0)
         have s1 := later_cell (w0 := wr.alloc (.cells #[.int .i64 e.src, .int .i64 e.lab, .int .i64 e.dst] 47)) (b := b0) (by simp; omega) (keeps HO (by omega) q1)
         have s2 := later_cell (w0 := wr.alloc (.cells #[.int .i64 e.src, .int .i64 e.lab, .int .i64 e.dst] 47)) (b := b0) (by simp; omega) (keeps HO (by omega) q2)
         have s3 := later_cell (w0 := wr.alloc (.cells #[.int .i64 e.src, .int .i64 e.lab, .int .i64 e.dst] 47)) (b := b0) (by simp; omega) (keeps HO (by omega) q3)
         have t0 := later_cell (w0 := wr.alloc (.cells #[.int .i64 e.src, .int .i64 e.lab, .int .i64 e.dst] 47)) (b := wr.heap.size) (o := 0) (v := .int .i64 e.src) (by simp) (by simp)
         have t1 := later_cell (w0 := wr.alloc (.cells #[.int .i64 e.src, .int .i64 e.lab, .int .i64 e.dst] 47)) (b := wr.heap.size) (o := 1) (v := .int .i64 e.lab) (by simp) (by simp)
         have t2 := later_cell (w0 := wr.alloc (.cells #[.int .i64 e.src, .int .i64 e.lab, .int .i64 e.dst] 47)) (b := wr.heap.size) (o := 2) (v := .int .i64 e.dst) (by simp) (by simp)
         have HO2 := Lib.hid HO
         rcases Nat.eq_zero_or_pos k with hk0 | hk0
         ·have hkz : ¬ (0 : Int) < (k : Int) := by omega
          have hkd : decide ((0 : Int) < (k : Int)) = false := by rw [decide_eq_false_iff_not]; exact hkz
          have hkd2 : decide (0 < k) = false := by rw [decide_eq_false_iff_not]; omega
          have hkz2 : ¬ 0 < k := by omega
          have HK0 : Hid (k = 0) := hk0
          clear hk0 HO hml
          cases g1 : inB e.src 0 (t.states - 1)
          ·have HG := Lib.hid g1
           go_wp2_with fail
           refine wp_region_later (by kernel_rfl) (by kernel_rfl) ?_
           repeat (go_big_quiet_step ((first | (go_at_call 30; exact later_call (isState_any _ _ _ _ _ _ hA1 hA2)) | (go_at_call 32; exact later_same (index_in _ _ _ (by omega) (by omega))))))
           refine wpQuiet_nil ?_
           intro _ hw9
           obtain ⟨nl, hw8⟩ := hw9
           subst hw8
           go_wp2_with fail
           go_ret
           refine ⟨false, rfl, ⟨(fun h => by cases h), fun h => ?_⟩, HB1.out.trans ((HBE.out.trans ((HO2.out.trans (nl.h.mono (by simp))).mono hsz)).mono HB1.out.size)⟩
           have h2 := h.edge k hlt
           rw [← HEE.out, HE.out, HG.out] at h2
           exact absurd h2.1.1 (by simp)
          ·cases g2 : inB e.dst 0 (t.states - 1)
           ·have HG := Lib.hid g2
            go_wp2_with fail
            refine wp_region_later (by kernel_rfl) (by kernel_rfl) ?_
            repeat (go_big_quiet_step ((first | (go_at_call 30; exact later_call (isState_any _ _ _ _ _ _ hA1 hA2)) | (go_at_call 32; exact later_same (index_in _ _ _ (by omega) (by omega))))))
            refine wpQuiet_nil ?_
            intro _ hw9
            obtain ⟨nl, hw8⟩ := hw9
            subst hw8
            go_wp2_with fail
            go_ret
            refine ⟨false, rfl, ⟨(fun h => by cases h), fun h => ?_⟩, HB1.out.trans ((HBE.out.trans ((HO2.out.trans (nl.h.mono (by simp))).mono hsz)).mono HB1.out.size)⟩
            have h2 := h.edge k hlt
            rw [← HEE.out, HE.out, HG.out] at h2
            exact absurd h2.1.2 (by simp)
           ·cases g3 : inB e.lab 0 ((t.labels.length : Int) - 1)
            ·have HG := Lib.hid g3
             go_wp2_with fail
             refine wp_region_later (by kernel_rfl) (by kernel_rfl) ?_
             repeat (go_big_quiet_step ((first | (go_at_call 30; exact later_call (isState_any _ _ _ _ _ _ hA1 hA2)) | (go_at_call 32; exact later_same (index_in _ _ _ (by omega) (by omega))))))
             refine wpQuiet_nil ?_
             intro _ hw9
             obtain ⟨nl, hw8⟩ := hw9
             subst hw8
             go_wp2_with fail
             go_ret
             refine ⟨false, rfl, ⟨(fun h => by cases h), fun h => ?_⟩, HB1.out.trans ((HBE.out.trans ((HO2.out.trans (nl.h.mono (by simp))).mono hsz)).mono HB1.out.size)⟩
             have h2 := h.edge k hlt
             rw [← HEE.out, HE.out, HG.out] at h2
             exact absurd h2.2 (by simp)
            ·have HEK : Hid (EdgeOk t t.edges[k]) := by unfold Hid; rw [← HEE.out, HE.out]; exact ⟨⟨g1, g2⟩, g3⟩
             go_wp2_with fail
             refine wp_region_later (by kernel_rfl) (by kernel_rfl) ?_
             repeat (go_big_quiet_step ((first | (go_at_call 30; exact later_call (isState_any _ _ _ _ _ _ hA1 hA2)) | (go_at_call 32; exact later_same (index_in _ _ _ (by omega) (by omega))))))
             refine wpQuiet_nil ?_
             intro _ hw9
             obtain ⟨nl, hw8⟩ := hw9
             subst hw8
             clear g1 g2 g3 t0 t1 t2 s0 s1 s2 s3
             go_wp2_with fail
             go_roundw
             case rel => exact ⟨k + 1, by omega, by go_num, HBE.out.trans ((HO2.out.trans (nl.h.mono (by simp))).mono hsz), fun q h h' => by
               obtain rfl : q = k := by have := HK0.out; omega
               exact HEK.out, fun q h h' => by have := HK0.out; omega⟩
             case measure => simp [intOf]; omega
         ·obtain ⟨m, rfl⟩ : ∃ m, k = m + 1 := ⟨k - 1, by omega⟩
          obtain ⟨_, _, e9, -, -, d1, d2, d3⟩ := HROW.out.edge (show m < t.edges.length by omega)
          simp only [Option.some.injEq, Addr.mk.injEq, and_true] at e9
          obtain ⟨rfl, rfl⟩ := e9
          replace d1 := later_cell (w0 := wr.alloc (.cells #[.int .i64 e.src, .int .i64 e.lab, .int .i64 e.dst] 47)) (b := be) (by simp; omega) (keeps HO hbe d1)
          replace d2 := later_cell (w0 := wr.alloc (.cells #[.int .i64 e.src, .int .i64 e.lab, .int .i64 e.dst] 47)) (b := be) (by simp; omega) (keeps HO hbe d2)
          replace d3 := later_cell (w0 := wr.alloc (.cells #[.int .i64 e.src, .int .i64 e.lab, .int .i64 e.dst] 47)) (b := be) (by simp; omega) (keeps HO hbe d3)
          have hkd : decide ((0 : Int) < (m : Int) + 1) = true := by rw [decide_eq_true_eq]; omega
          clear hk0 HO hml
          cases g1 : inB e.src 0 (t.states - 1)
          ·have HG := Lib.hid g1
           go_wp2_with fail
           refine wp_region_later (by kernel_rfl) (by kernel_rfl) ?_
           repeat (go_big_quiet_step ((first | (go_at_call 30; exact later_call (isState_any _ _ _ _ _ _ hA1 hA2)) | (go_at_call 32; exact later_same (index_in _ _ _ (by omega) (by omega))) | (go_at_call 33; exact later_call (compareEdges_any t.edges[m] e _)))))
           refine wpQuiet_nil ?_
           intro _ hw9
           obtain ⟨nl, hw8⟩ := hw9
           subst hw8
           go_wp2_with fail
           go_ret
           refine ⟨false, rfl, ⟨(fun h => by cases h), fun h => ?_⟩, HB1.out.trans ((HBE.out.trans ((HO2.out.trans (nl.h.mono (by simp))).mono hsz)).mono HB1.out.size)⟩
           have h2 := h.edge (m + 1) hlt
           rw [← HEE.out, HE.out, HG.out] at h2
           exact absurd h2.1.1 (by simp)
          ·cases g2 : inB e.dst 0 (t.states - 1)
           ·have HG := Lib.hid g2
            go_wp2_with fail
            refine wp_region_later (by kernel_rfl) (by kernel_rfl) ?_
            repeat (go_big_quiet_step ((first | (go_at_call 30; exact later_call (isState_any _ _ _ _ _ _ hA1 hA2)) | (go_at_call 32; exact later_same (index_in _ _ _ (by omega) (by omega))) | (go_at_call 33; exact later_call (compareEdges_any t.edges[m] e _)))))
            refine wpQuiet_nil ?_
            intro _ hw9
            obtain ⟨nl, hw8⟩ := hw9
            subst hw8
            go_wp2_with fail
            go_ret
            refine ⟨false, rfl, ⟨(fun h => by cases h), fun h => ?_⟩, HB1.out.trans ((HBE.out.trans ((HO2.out.trans (nl.h.mono (by simp))).mono hsz)).mono HB1.out.size)⟩
            have h2 := h.edge (m + 1) hlt
            rw [← HEE.out, HE.out, HG.out] at h2
            exact absurd h2.1.2 (by simp)
           ·cases g3 : inB e.lab 0 ((t.labels.length : Int) - 1)
            ·have HG := Lib.hid g3
             go_wp2_with fail
             refine wp_region_later (by kernel_rfl) (by kernel_rfl) ?_
             repeat (go_big_quiet_step ((first | (go_at_call 30; exact later_call (isState_any _ _ _ _ _ _ hA1 hA2)) | (go_at_call 32; exact later_same (index_in _ _ _ (by omega) (by omega))) | (go_at_call 33; exact later_call (compareEdges_any t.edges[m] e _)))))
             refine wpQuiet_nil ?_
             intro _ hw9
             obtain ⟨nl, hw8⟩ := hw9
             subst hw8
             go_wp2_with fail
             go_ret
             refine ⟨false, rfl, ⟨(fun h => by cases h), fun h => ?_⟩, HB1.out.trans ((HBE.out.trans ((HO2.out.trans (nl.h.mono (by simp))).mono hsz)).mono HB1.out.size)⟩
             have h2 := h.edge (m + 1) hlt
             rw [← HEE.out, HE.out, HG.out] at h2
             exact absurd h2.2 (by simp)
            ·have HEK : Hid (EdgeOk t t.edges[m + 1]) := by unfold Hid; rw [← HEE.out, HE.out]; exact ⟨⟨g1, g2⟩, g3⟩
             cases g4 : edgeLess t.edges[m] e
             ·have HG := Lib.hid g4
              have g5 : decide (0 ≤ cmpE t.edges[m] e) = true := by rw [cmpE_less, g4]; rfl
              clear g4
              go_wp2_with fail
              refine wp_region_later (by kernel_rfl) (by kernel_rfl) ?_
              repeat (go_big_quiet_step ((first | (go_at_call 30; exact later_call (isState_any _ _ _ _ _ _ hA1 hA2)) | (go_at_call 32; exact later_same (index_in _ _ _ (by omega) (by omega))) | (go_at_call 33; exact later_call (compareEdges_any t.edges[m] e _)))))
              refine wpQuiet_nil ?_
              intro _ hw9
              obtain ⟨nl, hw8⟩ := hw9
              subst hw8
              go_wp2_with fail
              go_ret
              refine ⟨false, rfl, ⟨(fun h => by cases h), fun h => ?_⟩, HB1.out.trans ((HBE.out.trans ((HO2.out.trans (nl.h.mono (by simp))).mono hsz)).mono HB1.out.size)⟩
              have h2 := h.rise m hlt
              rw [← HEE.out, HG.out] at h2
              cases h2
             ·have HG := Lib.hid g4
              have g5 : decide (0 ≤ cmpE t.edges[m] e) = false := by rw [cmpE_less, g4]; rfl
              clear g4
              go_wp2_with fail
              refine wp_region_later (by kernel_rfl) (by kernel_rfl) ?_
              repeat (go_big_quiet_step ((first | (go_at_call 30; exact later_call (isState_any _ _ _ _ _ _ hA1 hA2)) | (go_at_call 32; exact later_same (index_in _ _ _ (by omega) (by omega))) | (go_at_call 33; exact later_call (compareEdges_any t.edges[m] e _)))))
              refine wpQuiet_nil ?_
              intro _ hw9
              obtain ⟨nl, hw8⟩ := hw9
              subst hw8
              clear g1 g2 g3 g5 t0 t1 t2 s0 s1 s2 s3 d1 d2 d3
              go_wp2_with fail
              go_roundw
              case rel => exact ⟨m + 1 + 1, by omega, by go_num, HBE.out.trans ((HO2.out.trans (nl.h.mono (by simp))).mono hsz), fun q h h' => by
                by_cases e9 : q = m + 1
                ·subst e9; exact HEK.out
                ·exact HX1.out q h (by omega), fun q h h' => by
                by_cases e9 : q = m
                ·subst e9; rw [← HEE.out]; exact HG.out
                ·exact HX2.out q h (by omega)⟩
              case measure => simp [intOf]; omega
        ·go_wp2_with fail
         go_ret
         refine ⟨true, rfl, ⟨fun _ => ?_, fun _ => rfl⟩, HB1.out.trans (HBE.out.mono HB1.out.size)⟩
         exact ⟨hA1, hA2, HI.out.1, HI.out.2, HLO.out, by omega, fun q h => HX1.out q h (by omega), fun q h => HX2.out q h (by omega)⟩

end Go.Proofs.YtdkbbknhighebaaGreatDoor
