/-
  Plain laws: the texts that strconv reads and that are their numbers' decimal forms.
-/
import Derived.Test.YtkffdamgekoifaaGreatDoorImpl2
import Derived.Lib.ParseIntBTie
import Derived.Lib.AtoiAllCases
import Derived.Lib.AtoiTie
namespace Go.Proofs.YtkffdamgekoifaaGreatDoor
open Go Go.RowKit

theorem digit_back {c : UInt8} (h : digit c = true) : UInt8.ofNat (48 + (c.toNat - 48)) = c := by
  unfold digit at h
  simp only [Bool.and_eq_true, decide_eq_true_eq] at h
  rw [show 48 + (c.toNat - 48) = c.toNat from by omega]
  exact UInt8.ofNat_toNat
theorem digit_lt {c : UInt8} (h : digit c = true) : c.toNat - 48 < 10 ∧ 48 ≤ c.toNat := by
  unfold digit at h
  simp only [Bool.and_eq_true, decide_eq_true_eq] at h
  omega
theorem decDigits_step (n d : Nat) (hn : 0 < n) (hd : d < 10) : Lib.decDigits (10 * n + d) = Lib.decDigits n ++ [UInt8.ofNat (48 + d)] := by
  rw [Lib.decDigits, dif_neg (by omega), show (10 * n + d) / 10 = n from by omega, show (10 * n + d) % 10 = d from by omega]
theorem decDigits_val : ∀ (l : List UInt8) (n : Nat), 0 < n → l.all digit = true → Lib.decDigits (valFrom n l) = Lib.decDigits n ++ l
  | [], n, _, _ => by rw [valFrom_nil, List.append_nil]
  | c :: r, n, hn, h => by
    simp only [List.all_cons, Bool.and_eq_true] at h
    rw [valFrom_cons, decDigits_val r _ (by omega) h.2, decDigits_step n _ hn (digit_lt h.1).1, digit_back h.1, List.append_assoc]
    rfl
theorem decDigits_le : ∀ (k u : Nat), 1 ≤ k → u < 10 ^ k → (Lib.decDigits u).length ≤ k
  | 0, _, h, _ => by omega
  | k + 1, u, _, h => by
    rw [Lib.decDigits]
    split
    · simp
    · have h1 : 1 ≤ k := by
        rcases Nat.eq_zero_or_pos k with h0 | h0
        · subst h0; simp at h; omega
        · exact h0
      have := decDigits_le k (u / 10) h1 (by rw [Nat.pow_succ] at h; omega)
      simp; omega
theorem digit_of {d : Nat} (h : d < 10) : digit (UInt8.ofNat (48 + d)) = true := by
  unfold digit
  have : (UInt8.ofNat (48 + d)).toNat = 48 + d := by rw [UInt8.toNat_ofNat']; omega
  rw [this]
  simp; omega
theorem decDigits_digit (u : Nat) : (Lib.decDigits u).all digit = true := by
  induction u using Nat.strongRecOn with
  | ind u ih =>
    rw [Lib.decDigits]
    split
    · next h => rw [List.all_cons, digit_of h]; rfl
    · next h => rw [List.all_append, ih (u / 10) (by omega), List.all_cons, digit_of (show u % 10 < 10 by omega)]; rfl
theorem decDigits_ne (u : Nat) : Lib.decDigits u ≠ [] := by
  rw [Lib.decDigits]
  split <;> simp

/-- The digits are those of their value, but for leading zeros. -/
theorem decDigits_back {ds : List UInt8} (h0 : ds ≠ []) (h : ds.all digit = true) : Lib.decDigits (valFrom 0 ds) = ds ↔ ¬ (ds.head? = some 48 ∧ 1 < ds.length) := by
  cases ds with
  | nil => exact absurd rfl h0
  | cons c r =>
    have ha := h
    simp only [List.all_cons, Bool.and_eq_true] at h
    by_cases hc : c = 48
    · subst hc
      constructor
      · rintro e ⟨-, hl⟩
        have h1 : valFrom 0 (48 :: r) = valFrom 0 r := by rw [valFrom_cons]; rfl
        have h2 := valFrom_lt r 0 h.2
        have h3 := decDigits_le r.length (valFrom 0 r) (by simp at hl; omega) (by omega)
        rw [h1] at e
        rw [e] at h3
        simp at h3; omega
      · intro hn
        have : r = [] := by
          rcases r with _ | ⟨a, b⟩
          · rfl
          · exact absurd ⟨rfl, by simp⟩ hn
        subst this
        rw [valFrom_cons, valFrom_nil, Lib.decDigits_one (by decide)]
        rfl
    · constructor
      · rintro - ⟨e, -⟩
        simp at e
        exact hc e
      · intro _
        have hd := digit_lt h.1
        have hpos : 0 < c.toNat - 48 := by
          have : c.toNat ≠ 48 := fun e => hc (UInt8.toNat_inj.1 e)
          omega
        rw [valFrom_cons, Nat.mul_zero, Nat.zero_add, decDigits_val r _ hpos h.2, Lib.decDigits_one hd.1, digit_back h.1]
        rfl

theorem digitVal_of {c : UInt8} (h : digit c = true) : Lib.digitVal c = some (c.toNat - 48) := by
  unfold digit at h
  simp only [Bool.and_eq_true, decide_eq_true_eq] at h
  unfold Lib.digitVal
  rw [if_pos (by omega)]
theorem digitVal_not {c : UInt8} (h : digit c = false) : Lib.digitVal c = none := by
  unfold digit at h
  simp only [Bool.and_eq_false_iff, decide_eq_false_iff_not] at h
  unfold Lib.digitVal
  rw [if_neg (by omega)]
theorem decFrom_eq : ∀ (l : List UInt8) (n : Nat), Lib.decFrom n l = if l.all digit then some (valFrom n l) else none
  | [], n => by simp [Lib.decFrom, valFrom_nil]
  | c :: r, n => by
    unfold Lib.decFrom
    cases hc : digit c with
    | true => rw [digitVal_of hc]; simp only; rw [decFrom_eq r, valFrom_cons, Nat.mul_comm]; simp [hc]
    | false => rw [digitVal_not hc]; simp [hc]
theorem decNat_eq (l : List UInt8) : Lib.decNat l = if l ≠ [] ∧ l.all digit = true then some (valFrom 0 l) else none := by
  unfold Lib.decNat
  cases l with
  | nil => rfl
  | cons c r => rw [decFrom_eq]; simp

theorem numDs_eq (neg : Bool) (ds : List UInt8) (h : ds.length ≤ 18) : numDs neg ds = (Lib.decNat ds).bind fun m => if Lib.decDigits m = ds ∧ ¬ (neg = true ∧ m = 0) then some (if neg then -(m : Int) else m) else none := by
  rw [decNat_eq]
  unfold numDs
  by_cases hq : ds ≠ [] ∧ ds.all digit = true
  · obtain ⟨h0, ha⟩ := hq
    have hd : (if ds ≠ [] ∧ ds.all digit = true then some (valFrom 0 ds) else none) = some (valFrom 0 ds) := if_pos ⟨h0, ha⟩
    rw [hd, Option.bind_some]
    have hb := decDigits_back h0 ha
    have hl : ds.length ≠ 0 := fun e => h0 (List.eq_nil_of_length_eq_zero e)
    by_cases hz : ds.head? = some 48
    · by_cases hl1 : 1 < ds.length
      · rw [if_pos (.inr (.inr (.inl ⟨hz, .inr hl1⟩))), if_neg (fun hh => (hb.1 hh.1) ⟨hz, hl1⟩)]
      · have e : ds = [48] := by
          cases ds with
          | nil => exact absurd rfl h0
          | cons c r =>
            have : r = [] := List.eq_nil_of_length_eq_zero (by rw [List.length_cons] at hl1; omega)
            subst this
            simp at hz
            rw [hz]
        subst e
        have hv : valFrom 0 [48] = 0 := by rw [valFrom_cons, valFrom_nil]; rfl
        have hw : Lib.decDigits 0 = [48] := by rw [Lib.decDigits_one (by decide)]; rfl
        cases neg
        · rw [hv]
          have hc : Lib.decDigits 0 = [48] ∧ ¬ (false = true ∧ (0 : Nat) = 0) := ⟨hw, by simp⟩
          exact (if_neg (by decide)).trans (if_pos hc).symm
        · rw [hv]
          have hc : ¬ (Lib.decDigits 0 = [48] ∧ ¬ (true = true ∧ (0 : Nat) = 0)) := by simp
          exact (if_pos (.inr (.inr (.inl ⟨rfl, .inl rfl⟩)))).trans (if_neg hc).symm
    · have hm : valFrom 0 ds ≠ 0 := by
        intro e
        have h1 := hb.2 (fun h => hz h.1)
        rw [e, Lib.decDigits_one (by decide)] at h1
        exact hz (by rw [← h1]; rfl)
      have hc0 : ¬ (ds.length = 0 ∨ 18 < ds.length ∨ (ds.head? = some 48 ∧ (neg = true ∨ 1 < ds.length)) ∨ ds.all digit = false) := by rw [ha]; simp [hl, hz]; omega
      have hc1 : Lib.decDigits (valFrom 0 ds) = ds ∧ ¬ (neg = true ∧ valFrom 0 ds = 0) := ⟨hb.2 (fun h => hz h.1), fun h => hm h.2⟩
      exact (if_neg hc0).trans (if_pos hc1).symm
  · have hd : (if ds ≠ [] ∧ ds.all digit = true then some (valFrom 0 ds) else none) = none := if_neg hq
    rw [hd]
    simp only [Option.bind_none, ite_eq_left_iff]
    intro hn
    exfalso
    apply hn
    by_cases h0 : ds = []
    · subst h0; exact .inl rfl
    · refine .inr (.inr (.inr ?_))
      cases h : ds.all digit
      · rfl
      · exact absurd ⟨h0, h⟩ hq

theorem itoa_eq (m : Nat) : Lib.itoa (m : Int) = Lib.decDigits m := by unfold Lib.itoa; rw [if_neg (by omega)]; simp
theorem itoa_neg' (m : Nat) (h : 0 < m) : Lib.itoa (-(m : Int)) = 45 :: Lib.decDigits m := by unfold Lib.itoa; rw [if_pos (by omega)]; simp
theorem decDigits_head (u : Nat) (c : UInt8) (hc : digit c = false) (r : List UInt8) : Lib.decDigits u ≠ c :: r := by
  intro e
  have := decDigits_digit u
  rw [e] at this
  simp [hc] at this

/-- ReadDecimal reads what the plain definition reads. -/
theorem readDec_eq (l : List UInt8) : readDec l = numB l := by
  unfold readDec numB
  rw [Lib.parseIntB_64]
  cases l with
  | nil => rfl
  | cons c r =>
    by_cases h45 : c = 45
    · subst h45
      have ht : Lib.trimPrefix (45 :: r) [45] = r := by simp [Lib.trimPrefix, Lib.hasPrefix]
      rw [ht, List.head?_cons, if_pos rfl, List.tail_cons]
      by_cases hl : 18 < r.length
      · rw [if_pos hl]
        unfold numDs
        rw [if_pos (.inr (.inl hl))]
      · rw [if_neg hl, Lib.atoiAll_minus, Lib.signed_short (by omega), numDs_eq true r (by omega)]
        cases hd : Lib.decNat r with
        | none => rfl
        | some m =>
          simp only [Option.map_some, Lib.NumEnd.ofOption, Option.bind_some, if_true]
          by_cases h0 : m = 0
          · subst h0
            have e : Lib.itoa (-((0 : Nat) : Int)) ≠ 45 :: r := by
              have e1 : Lib.itoa (-((0 : Nat) : Int)) = [48] := by
                rw [show (-((0 : Nat) : Int)) = ((0 : Nat) : Int) from rfl, itoa_eq, Lib.decDigits_one (by decide)]; rfl
              rw [e1]
              intro h
              have := (List.cons.inj h).1
              revert this
              decide
            rw [if_neg e, if_neg (by simp)]
          · rw [itoa_neg' m (by omega)]
            simp [h0]
    · have ht : Lib.trimPrefix (c :: r) [45] = c :: r := by
        have : ([45] : List UInt8).isPrefixOf (c :: r) = false := by
          show ((45 : UInt8) == c && ([] : List UInt8).isPrefixOf r) = false
          rw [beq_eq_false_iff_ne.2 (fun e => h45 e.symm), Bool.false_and]
        unfold Lib.trimPrefix Lib.hasPrefix
        rw [this]
        rfl
      have hc : ¬ (some c = some (45 : UInt8)) := fun e => h45 (Option.some.inj e)
      rw [ht, List.head?_cons, show (if some c = some (45 : UInt8) then numDs true (c :: r).tail else numDs false (c :: r)) = numDs false (c :: r) from if_neg hc]
      by_cases hl : 18 < (c :: r).length
      · rw [if_pos hl]
        unfold numDs
        rw [if_pos (.inr (.inl hl))]
      · rw [if_neg hl, numDs_eq false _ (by omega)]
        by_cases h43 : c = 43
        · subst h43
          have h1 : Lib.decNat (43 :: r) = none := by rw [decNat_eq, if_neg (by simp [digit])]
          rw [h1, Lib.atoiAll_plus, Lib.signless_short (by simp at hl; omega)]
          cases hd : Lib.decNat r with
          | none => rfl
          | some m =>
            simp only [Option.map_some, Lib.NumEnd.ofOption, Option.bind_none]
            rw [itoa_eq, if_neg (decDigits_head m 43 (by decide) r)]
        · rw [Lib.atoiAll_plain c r (fun e => h43 (UInt8.toNat_inj.1 e)) (fun e => h45 (UInt8.toNat_inj.1 e)), Lib.signless_short (by omega)]
          cases hd : Lib.decNat (c :: r) with
          | none => rfl
          | some m =>
            simp only [Option.map_some, Lib.NumEnd.ofOption, Option.bind_some]
            rw [itoa_eq]
            simp

end Go.Proofs.YtkffdamgekoifaaGreatDoor
