/-
  Texts as lists of bytes: names, numbers and labels. Plain definitions; no program in sight.
-/
import Derived.Test.YtkffdamgekoifaaGreatDoorBase
import Derived.Lib.Strings
import Derived.Lib.Bytes
namespace Go.Proofs.YtkffdamgekoifaaGreatDoor
open Go Go.RowKit

def small (c : UInt8) : Bool := decide (97 ≤ (c.toNat : Int)) && decide ((c.toNat : Int) ≤ 122)
def digit (c : UInt8) : Bool := decide (48 ≤ (c.toNat : Int)) && decide ((c.toNat : Int) ≤ 57)
def okc (c : UInt8) : Bool := small c || digit c
/-- 1 to 10 small letters or digits, the first of them a letter. -/
def isName (l : List UInt8) : Bool := decide (l.length ≤ 10) && (l.head?.any small && l.all okc)
def tauL : List UInt8 := [116, 97, 117]
def isAction (l : List UInt8) : Bool := isName l && !(l == tauL)

/-- The value of digits. -/
def valFrom (n : Nat) (l : List UInt8) : Nat := l.foldl (fun n c => 10 * n + (c.toNat - 48)) n

/-- The number with these digits, at most 18, without leading zeros. -/
def numDs (neg : Bool) (ds : List UInt8) : Option Int :=
  if ds.length = 0 ∨ 18 < ds.length ∨ (ds.head? = some 48 ∧ (neg = true ∨ 1 < ds.length)) ∨ ds.all digit = false then none
  else some (if neg then - (valFrom 0 ds : Int) else valFrom 0 ds)
/-- The number with a decimal form of at most 18 digits. -/
def numB (l : List UInt8) : Option Int :=
  if l.head? = some 45 then numDs true l.tail else numDs false l

/-- The parts between the bytes c. -/
def splitAt (c : UInt8) : List UInt8 → List (List UInt8)
  | [] => [[]]
  | x :: r =>
    match splitAt c r with
    | [] => [[]]
    | p :: ps => if x == c then [] :: p :: ps else (x :: p) :: ps

theorem len_data (s : ByteArray) : s.data.toList.length = s.size := (Lib.size_eq s).symm
theorem get_data (s : ByteArray) (k : Nat) (_h : k < s.size) (h' : k < s.data.toList.length) : s.data.toList[k] = s[k] := rfl
theorem head_data (s : ByteArray) (h : 0 < s.size) : s.data.toList.head? = some s[0] := by
  rw [List.head?_eq_getElem?, List.getElem?_eq_getElem (by rw [len_data]; exact h)]; rfl
theorem isName_nil : isName [] = false := rfl
theorem isName_long {l : List UInt8} (h : 10 < l.length) : isName l = false := by unfold isName; rw [decide_eq_false (by omega)]; rfl
theorem isName_head {s : ByteArray} (h : 0 < s.size) (hb : small s[0] = false) : isName s.data.toList = false := by
  unfold isName; rw [head_data s h]; simp [hb]
theorem isName_bad {s : ByteArray} {k : Nat} (h : k < s.size) (h1 : small s[k] = false) (h2 : digit s[k] = false) : isName s.data.toList = false := by
  unfold isName
  have : s.data.toList.all okc = false := by
    rw [List.all_eq_false]
    exact ⟨s[k], by rw [← get_data s k h (by rw [len_data]; exact h)]; exact List.getElem_mem _, by simp [okc, h1, h2]⟩
  rw [this]; simp
theorem isName_good {s : ByteArray} (h0 : 0 < s.size) (h1 : ¬ 10 < s.size) (hb : small s[0] = true) (ha : ∀ j (h : j < s.size), okc s[j] = true) : isName s.data.toList = true := by
  unfold isName
  rw [head_data s h0, decide_eq_true (by rw [len_data]; omega)]
  simp only [Option.any_some, hb, Bool.true_and, List.all_eq_true]
  intro x hx
  obtain ⟨j, hj, rfl⟩ := List.mem_iff_getElem.1 hx
  exact ha j (by rw [← len_data]; exact hj)

theorem data_inj {a b : ByteArray} (h : a.data.toList = b.data.toList) : a = b := by
  obtain ⟨⟨a⟩⟩ := a; obtain ⟨⟨b⟩⟩ := b; simp at h; rw [h]
theorem extract_data' (s : ByteArray) (a b : Nat) : (s.extract a b).data.toList = (s.data.toList.drop a).take (b - a) := by
  rw [← Lib.toList_data, Lib.extract_toList]

theorem splitAt_ne (c : UInt8) (l : List UInt8) : splitAt c l ≠ [] := by
  cases l with
  | nil => simp [splitAt]
  | cons x r => unfold splitAt; split <;> (try simp) ; split <;> simp
theorem splitAt_none {c : UInt8} {l : List UInt8} (h : ∀ x ∈ l, (x == c) = false) : splitAt c l = [l] := by
  induction l with
  | nil => rfl
  | cons x r ih =>
    unfold splitAt
    rw [ih (fun y hy => h y (List.mem_cons_of_mem _ hy))]
    simp [h x List.mem_cons_self]
theorem splitAt_hit {c : UInt8} {a b : List UInt8} (h : ∀ x ∈ a, (x == c) = false) : splitAt c (a ++ c :: b) = a :: splitAt c b := by
  induction a with
  | nil =>
    rw [List.nil_append]
    conv => lhs; unfold splitAt
    cases hb : splitAt c b with
    | nil => exact absurd hb (splitAt_ne c b)
    | cons p ps => simp
  | cons x r ih =>
    rw [List.cons_append]
    conv => lhs; unfold splitAt
    rw [ih (fun y hy => h y (List.mem_cons_of_mem _ hy))]
    simp [h x List.mem_cons_self]

/-- No byte c from place m up to place k. -/
def clean (c : UInt8) (l : List UInt8) (m k : Nat) : Prop := ∀ j (h : j < l.length), m ≤ j → j < k → (l[j] == c) = false
theorem split_step {c : UInt8} {l : List UInt8} {m k : Nat} (hm : m ≤ k) (hk : k < l.length) (hc : clean c l m k) (he : (l[k] == c) = true) :
    splitAt c (l.drop m) = (l.drop m).take (k - m) :: splitAt c (l.drop (k + 1)) := by
  have e : l.drop m = (l.drop m).take (k - m) ++ c :: l.drop (k + 1) := by
    have h1 : (l.drop m).drop (k - m) = l[k] :: l.drop (k + 1) := by
      rw [List.drop_drop, show m + (k - m) = k from by omega, List.drop_eq_getElem_cons hk]
    have he' : l[k] = c := by simpa using he
    rw [he'] at h1
    rw [← h1, List.take_append_drop]
  conv => lhs; rw [e]
  refine splitAt_hit fun x hx => ?_
  obtain ⟨j, hj, rfl⟩ := List.mem_iff_getElem.1 hx
  simp only [List.length_take, List.length_drop] at hj
  simp only [List.getElem_take, List.getElem_drop]
  exact hc (m + j) (by omega) (by omega) (by omega)
theorem split_end {c : UInt8} {l : List UInt8} {m : Nat} (hc : clean c l m l.length) : splitAt c (l.drop m) = [l.drop m] := by
  refine splitAt_none fun x hx => ?_
  obtain ⟨j, hj, rfl⟩ := List.mem_iff_getElem.1 hx
  simp only [List.length_drop] at hj
  simp only [List.getElem_drop]
  exact hc (m + j) (by omega) (by omega) (by omega)
theorem splitAt_len (c : UInt8) (l : List UInt8) : (splitAt c l).length ≤ l.length + 1 := by
  induction l with
  | nil => simp [splitAt]
  | cons x r ih =>
    unfold splitAt
    cases hb : splitAt c r with
    | nil => simp
    | cons p ps =>
      rw [hb] at ih
      simp only [List.length_cons] at ih ⊢
      split <;> simp <;> omega

def openAt (l : List UInt8) : Nat := l.findIdx (fun c => c == 40)

theorem valFrom_nil (n : Nat) : valFrom n [] = n := by unfold valFrom; exact List.foldl_nil
theorem valFrom_cons (n : Nat) (c : UInt8) (r : List UInt8) : valFrom n (c :: r) = valFrom (10 * n + (c.toNat - 48)) r := by unfold valFrom; exact List.foldl_cons ..
theorem valFrom_append (n : Nat) (a b : List UInt8) : valFrom n (a ++ b) = valFrom (valFrom n a) b := by simp [valFrom]
theorem valFrom_lt (ds : List UInt8) (n : Nat) (h : ds.all digit = true) : valFrom n ds < (n + 1) * 10 ^ ds.length := by
  induction ds generalizing n with
  | nil => simp [valFrom_nil]
  | cons x r ih =>
    simp only [List.all_cons, Bool.and_eq_true] at h
    have hd : x.toNat ≤ 57 := by
      have := h.1
      simp only [digit, Bool.and_eq_true, decide_eq_true_eq] at this
      omega
    have h2 := ih (10 * n + (x.toNat - 48)) h.2
    rw [valFrom_cons, List.length_cons, Nat.pow_succ, Nat.mul_comm (10 ^ r.length) 10, ← Nat.mul_assoc]
    generalize 10 ^ r.length = q at *
    exact Nat.lt_of_lt_of_le h2 (Nat.mul_le_mul_right _ (by omega))
theorem val_small {ds : List UInt8} (h : ds.all digit = true) (hl : ds.length ≤ 17) : valFrom 0 ds ≤ 99999999999999999 := by
  have h1 := valFrom_lt ds 0 h
  have h2 : 10 ^ ds.length ≤ 10 ^ 17 := Nat.pow_le_pow_right (by omega) hl
  omega
theorem val_small18 {ds : List UInt8} (h : ds.all digit = true) (hl : ds.length ≤ 18) : valFrom 0 ds ≤ 999999999999999999 := by
  have h1 := valFrom_lt ds 0 h
  have h2 : 10 ^ ds.length ≤ 10 ^ 18 := Nat.pow_le_pow_right (by omega) hl
  omega
/-- One digit more. -/
theorem val_step {l : List UInt8} {a k : Nat} (hak : a ≤ k) (hk : k < l.length) : valFrom 0 ((l.drop a).take (k + 1 - a)) = 10 * valFrom 0 ((l.drop a).take (k - a)) + (l[k].toNat - 48) := by
  rw [show k + 1 - a = (k - a) + 1 from by omega, List.take_succ_eq_append_getElem (by simp; omega), valFrom_append]
  simp only [valFrom_cons, valFrom_nil, List.getElem_drop, show a + (k - a) = k from by omega]
theorem all_step {l : List UInt8} {a k : Nat} (hak : a ≤ k) (hk : k < l.length) (h : ((l.drop a).take (k - a)).all digit = true) (hd : digit l[k] = true) : ((l.drop a).take (k + 1 - a)).all digit = true := by
  rw [show k + 1 - a = (k - a) + 1 from by omega, List.take_succ_eq_append_getElem (by simp; omega), List.all_append, h]
  simp only [List.all_cons, List.all_nil, Bool.and_true, List.getElem_drop, show a + (k - a) = k from by omega, hd]
theorem all_bad {l : List UInt8} {a k : Nat} (hak : a ≤ k) (hk : k < l.length) (hd : digit l[k] = false) : (l.drop a).all digit = false := by
  rw [List.all_eq_false]
  refine ⟨l[k], ?_, by simp [hd]⟩
  have : (l.drop a)[k - a]'(by simp; omega) = l[k] := by simp [List.getElem_drop, show a + (k - a) = k from by omega]
  rw [← this]
  exact List.getElem_mem _

def numOk (l : List UInt8) : Bool :=
  match numB l with
  | none => false
  | some n => decide (0 ≤ n) && decide (n ≤ 63)
/-- What stands between the parentheses of a label, parted at commas. -/
def labelParts (l : List UInt8) : List (List UInt8) := splitAt 44 ((l.drop (openAt l + 1)).take (l.length - 1 - (openAt l + 1)))
def labelOk (l : List UInt8) : Bool :=
  if openAt l = l.length then isName l
  else isAction (l.take (openAt l)) && ((l.getLast? == some 41) && ((labelParts l).all numOk && decide ((labelParts l).length ≤ 2)))
def labelVals (l : List UInt8) : List Int := if openAt l = l.length then [] else (labelParts l).map fun p => (numB p).getD 0

theorem openAt_le (l : List UInt8) : openAt l ≤ l.length := List.findIdx_le_length
theorem openAt_get {l : List UInt8} (h : openAt l < l.length) : l[openAt l] = 40 := by
  have := List.findIdx_getElem (w := h)
  unfold openAt at *
  simpa using this
theorem last_data {s : ByteArray} (h : 0 < s.size) : s.data.toList.getLast? = some s[s.size - 1] := by
  rw [List.getLast?_eq_getElem?, List.getElem?_eq_getElem (by rw [len_data]; omega)]
  rfl
theorem u8_eq {a : UInt8} {n : Nat} {b : UInt8} (hb : b.toNat = n) (h : ((a.toNat : Int) == (n : Int)) = true) : a = b := by
  have : (a.toNat : Int) = n := by simpa using h
  exact UInt8.toNat_inj.1 (by omega)
theorem u8_ne {a : UInt8} {n : Nat} {b : UInt8} (hb : b.toNat = n) (h : ((a.toNat : Int) == (n : Int)) = false) : a ≠ b := by
  intro e
  subst e
  rw [hb] at h
  simp at h

theorem splitAt_mem {c : UInt8} {l p : List UInt8} (h : p ∈ splitAt c l) : p.length ≤ l.length := by
  induction l generalizing p with
  | nil => simp [splitAt] at h; simp [h]
  | cons x r ih =>
    unfold splitAt at h
    cases hb : splitAt c r with
    | nil => exact absurd hb (splitAt_ne c r)
    | cons q qs =>
      rw [hb] at h ih
      simp only at h
      split at h
      · rcases List.mem_cons.1 h with rfl | h
        · simp
        · exact Nat.le_succ_of_le (ih h)
      · rcases List.mem_cons.1 h with rfl | h
        · have := ih (p := q) List.mem_cons_self; simp; exact this
        · exact Nat.le_succ_of_le (ih (List.mem_cons_of_mem _ h))
theorem all_none {ps : List ByteArray} {j : Nat} (h : j < ps.length) (hn : numOk ps[j].data.toList = false) : (ps.map (fun s => s.data.toList)).all numOk = false := by
  rw [List.all_eq_false]
  exact ⟨ps[j].data.toList, List.mem_map.2 ⟨ps[j], List.getElem_mem _, rfl⟩, by simp [hn]⟩

end Go.Proofs.YtkffdamgekoifaaGreatDoor
