/-
  Texts as lists of bytes: names, numbers and labels. Plain definitions; no program in sight.
  What the reference's functions on texts and labels compute.
  What the reference's functions on labels compute.
  Labelled transition systems: what makes them valid, the edges from a state. Plain definitions; no program in sight.
-/
import Derived.Test.YtifoinannefcpaaGreatDoorA1
import Derived.Lib.Strings
import Derived.Lib.Bytes
import Derived.Test.YtifoinannefcpaaGreatDoorRows
namespace Go.Proofs.YtifoinannefcpaaGreatDoor
open Go Go.RowKit

def small (c : UInt8) : Bool := decide (97 ≤ (c.toNat : Int)) && decide ((c.toNat : Int) ≤ 122)
def digit (c : UInt8) : Bool := decide (48 ≤ (c.toNat : Int)) && decide ((c.toNat : Int) ≤ 57)
def okc (c : UInt8) : Bool := small c || digit c
/-- 1 to 10 small letters or digits, the first of them a letter. -/
def isName (l : List UInt8) : Bool := decide (l.length ≤ 10) && (l.head?.any small && l.all okc)
def tauL : List UInt8 := [116, 97, 117]
def isAction (l : List UInt8) : Bool := isName l && !(l == tauL)

/-- The value of digits. -/
def valFrom (n : Nat) (l : List UInt8) : Nat := l.foldl (fun n c => 10 * n + (c.toNat - 48)) n

/-- The number with these digits, at most 18, without leading zeros. -/
def numDs (neg : Bool) (ds : List UInt8) : Option Int :=
 if ds.length = 0 ∨ 18 < ds.length ∨ (ds.head? = some 48 ∧ (neg = true ∨ 1 < ds.length)) ∨ ds.all digit = false then none
 else some (if neg then - (valFrom 0 ds : Int) else valFrom 0 ds)
/-- The number with a decimal form of at most 18 digits. -/
def numB (l : List UInt8) : Option Int :=
 if l.head? = some 45 then numDs true l.tail else numDs false l

/-- The parts between the bytes c. -/
def splitAt (c : UInt8) : List UInt8 → List (List UInt8)
 | [] => [[]]
 | x :: r =>
  match splitAt c r with
  | [] => [[]]
  | p :: ps => if x == c then [] :: p :: ps else (x :: p) :: ps

theorem len_data (s : ByteArray) : s.data.toList.length = s.size := (Lib.size_eq s).symm
theorem get_data (s : ByteArray) (k : Nat) (_h : k < s.size) (h' : k < s.data.toList.length) : s.data.toList[k] = s[k] := rfl
theorem head_data (s : ByteArray) (h : 0 < s.size) : s.data.toList.head? = some s[0] := by
 rw [List.head?_eq_getElem?, List.getElem?_eq_getElem (by rw [len_data]; exact h)]; rfl
theorem isName_long {l : List UInt8} (h : 10 < l.length) : isName l = false := by unfold isName; rw [decide_eq_false (by omega)]; rfl
theorem isName_head {s : ByteArray} (h : 0 < s.size) (hb : small s[0] = false) : isName s.data.toList = false := by
 unfold isName; rw [head_data s h]; simp [hb]
theorem isName_bad {s : ByteArray} {k : Nat} (h : k < s.size) (h1 : small s[k] = false) (h2 : digit s[k] = false) : isName s.data.toList = false := by
 unfold isName
 have : s.data.toList.all okc = false := by
  rw [List.all_eq_false]
  exact ⟨s[k], by rw [← get_data s k h (by rw [len_data]; exact h)]; exact List.getElem_mem _, by simp [okc, h1, h2]⟩
 rw [this]; simp
theorem isName_good {s : ByteArray} (h0 : 0 < s.size) (h1 : ¬ 10 < s.size) (hb : small s[0] = true) (ha : ∀ j (h : j < s.size), okc s[j] = true) : isName s.data.toList = true := by
 unfold isName
 rw [head_data s h0, decide_eq_true (by rw [len_data]; omega)]
 simp only [Option.any_some, hb, Bool.true_and, List.all_eq_true]
 intro x hx
 obtain ⟨j, hj, rfl⟩ := List.mem_iff_getElem.1 hx
 exact ha j (by rw [← len_data]; exact hj)

theorem data_inj {a b : ByteArray} (h : a.data.toList = b.data.toList) : a = b := by
 obtain ⟨⟨a⟩⟩ := a; obtain ⟨⟨b⟩⟩ := b; simp at h; rw [h]
theorem extract_data' (s : ByteArray) (a b : Nat) : (s.extract a b).data.toList = (s.data.toList.drop a).take (b - a) := by
 rw [← Lib.toList_data, Lib.extract_toList]

theorem splitAt_ne (c : UInt8) (l : List UInt8) : splitAt c l ≠ [] := by
 cases l with
 | nil => simp [splitAt]
 | cons x r => unfold splitAt; split <;> (try simp) ; split <;> simp
theorem splitAt_none {c : UInt8} {l : List UInt8} (h : ∀ x ∈ l, (x == c) = false) : splitAt c l = [l] := by
 induction l with
 | nil => rfl
 | cons x r ih =>
  unfold splitAt
  rw [ih (fun y hy => h y (List.mem_cons_of_mem _ hy))]
  simp [h x List.mem_cons_self]
theorem splitAt_hit {c : UInt8} {a b : List UInt8} (h : ∀ x ∈ a, (x == c) = false) : splitAt c (a ++ c :: b) = a :: splitAt c b := by
 induction a with
 | nil =>
  rw [List.nil_append]
  conv => lhs; unfold splitAt
  cases hb : splitAt c b with
  | nil => exact absurd hb (splitAt_ne c b)
  | cons p ps => simp
 | cons x r ih =>
  rw [List.cons_append]
  conv => lhs; unfold splitAt
  rw [ih (fun y hy => h y (List.mem_cons_of_mem _ hy))]
  simp [h x List.mem_cons_self]

/-- No byte c from place m up to place k. -/
def clean (c : UInt8) (l : List UInt8) (m k : Nat) : Prop := ∀ j (h : j < l.length), m ≤ j → j < k → (l[j] == c) = false
theorem split_step {c : UInt8} {l : List UInt8} {m k : Nat} (hm : m ≤ k) (hk : k < l.length) (hc : clean c l m k) (he : (l[k] == c) = true) :
  splitAt c (l.drop m) = (l.drop m).take (k - m) :: splitAt c (l.drop (k + 1)) := by
 have e : l.drop m = (l.drop m).take (k - m) ++ c :: l.drop (k + 1) := by
  have h1 : (l.drop m).drop (k - m) = l[k] :: l.drop (k + 1) := by
   rw [List.drop_drop, show m + (k - m) = k from by omega, List.drop_eq_getElem_cons hk]
  have he' : l[k] = c := by simpa using he
  rw [he'] at h1
  rw [← h1, List.take_append_drop]
 conv => lhs; rw [e]
 refine splitAt_hit fun x hx => ?_
 obtain ⟨j, hj, rfl⟩ := List.mem_iff_getElem.1 hx
 simp only [List.length_take, List.length_drop] at hj
 simp only [List.getElem_take, List.getElem_drop]
 exact hc (m + j) (by omega) (by omega) (by omega)
theorem split_end {c : UInt8} {l : List UInt8} {m : Nat} (hc : clean c l m l.length) : splitAt c (l.drop m) = [l.drop m] := by
 refine splitAt_none fun x hx => ?_
 obtain ⟨j, hj, rfl⟩ := List.mem_iff_getElem.1 hx
 simp only [List.length_drop] at hj
 simp only [List.getElem_drop]
 exact hc (m + j) (by omega) (by omega) (by omega)
theorem splitAt_len (c : UInt8) (l : List UInt8) : (splitAt c l).length ≤ l.length + 1 := by
 induction l with
 | nil => simp [splitAt]
 | cons x r ih =>
  unfold splitAt
  cases hb : splitAt c r with
  | nil => simp
  | cons p ps =>
   rw [hb] at ih
   simp only [List.length_cons] at ih ⊢
   split <;> simp <;> omega

def openAt (l : List UInt8) : Nat := l.findIdx (fun c => c == 40)

theorem valFrom_nil (n : Nat) : valFrom n [] = n := by unfold valFrom; exact List.foldl_nil
theorem valFrom_cons (n : Nat) (c : UInt8) (r : List UInt8) : valFrom n (c :: r) = valFrom (10 * n + (c.toNat - 48)) r := by unfold valFrom; exact List.foldl_cons ..
theorem valFrom_append (n : Nat) (a b : List UInt8) : valFrom n (a ++ b) = valFrom (valFrom n a) b := by simp [valFrom]
theorem valFrom_lt (ds : List UInt8) (n : Nat) (h : ds.all digit = true) : valFrom n ds < (n + 1) * 10 ^ ds.length := by
 induction ds generalizing n with
 | nil => simp [valFrom_nil]
 | cons x r ih =>
  simp only [List.all_cons, Bool.and_eq_true] at h
  have hd : x.toNat ≤ 57 := by
   have := h.1
   simp only [digit, Bool.and_eq_true, decide_eq_true_eq] at this
   omega
  have h2 := ih (10 * n + (x.toNat - 48)) h.2
  rw [valFrom_cons, List.length_cons, Nat.pow_succ, Nat.mul_comm (10 ^ r.length) 10, ← Nat.mul_assoc]
  generalize 10 ^ r.length = q at *
  exact Nat.lt_of_lt_of_le h2 (Nat.mul_le_mul_right _ (by omega))
theorem val_small {ds : List UInt8} (h : ds.all digit = true) (hl : ds.length ≤ 17) : valFrom 0 ds ≤ 99999999999999999 := by
 have h1 := valFrom_lt ds 0 h
 have h2 : 10 ^ ds.length ≤ 10 ^ 17 := Nat.pow_le_pow_right (by omega) hl
 omega
theorem val_small18 {ds : List UInt8} (h : ds.all digit = true) (hl : ds.length ≤ 18) : valFrom 0 ds ≤ 999999999999999999 := by
 have h1 := valFrom_lt ds 0 h
 have h2 : 10 ^ ds.length ≤ 10 ^ 18 := Nat.pow_le_pow_right (by omega) hl
 omega
/-- One digit more. -/
theorem val_step {l : List UInt8} {a k : Nat} (hak : a ≤ k) (hk : k < l.length) : valFrom 0 ((l.drop a).take (k + 1 - a)) = 10 * valFrom 0 ((l.drop a).take (k - a)) + (l[k].toNat - 48) := by
 rw [show k + 1 - a = (k - a) + 1 from by omega, List.take_succ_eq_append_getElem (by simp; omega), valFrom_append]
 simp only [valFrom_cons, valFrom_nil, List.getElem_drop, show a + (k - a) = k from by omega]
theorem all_step {l : List UInt8} {a k : Nat} (hak : a ≤ k) (hk : k < l.length) (h : ((l.drop a).take (k - a)).all digit = true) (hd : digit l[k] = true) : ((l.drop a).take (k + 1 - a)).all digit = true := by
 rw [show k + 1 - a = (k - a) + 1 from by omega, List.take_succ_eq_append_getElem (by simp; omega), List.all_append, h]
 simp only [List.all_cons, List.all_nil, Bool.and_true, List.getElem_drop, show a + (k - a) = k from by omega, hd]
theorem all_bad {l : List UInt8} {a k : Nat} (hak : a ≤ k) (hk : k < l.length) (hd : digit l[k] = false) : (l.drop a).all digit = false := by
 rw [List.all_eq_false]
 refine ⟨l[k], ?_, by simp [hd]⟩
 have : (l.drop a)[k - a]'(by simp; omega) = l[k] := by simp [List.getElem_drop, show a + (k - a) = k from by omega]
 rw [← this]
 exact List.getElem_mem _

def numOk (l : List UInt8) : Bool :=
 match numB l with
 | none => false
 | some n => decide (0 ≤ n) && decide (n ≤ 63)
/-- What stands between the parentheses of a label, parted at commas. -/
def labelParts (l : List UInt8) : List (List UInt8) := splitAt 44 ((l.drop (openAt l + 1)).take (l.length - 1 - (openAt l + 1)))
def labelOk (l : List UInt8) : Bool :=
 if openAt l = l.length then isName l
 else isAction (l.take (openAt l)) && ((l.getLast? == some 41) && ((labelParts l).all numOk && decide ((labelParts l).length ≤ 2)))
def labelVals (l : List UInt8) : List Int := if openAt l = l.length then [] else (labelParts l).map fun p => (numB p).getD 0

theorem openAt_le (l : List UInt8) : openAt l ≤ l.length := List.findIdx_le_length
theorem openAt_get {l : List UInt8} (h : openAt l < l.length) : l[openAt l] = 40 := by
 have := List.findIdx_getElem (w := h)
 unfold openAt at *
 simpa using this
theorem last_data {s : ByteArray} (h : 0 < s.size) : s.data.toList.getLast? = some s[s.size - 1] := by
 rw [List.getLast?_eq_getElem?, List.getElem?_eq_getElem (by rw [len_data]; omega)]
 rfl
theorem u8_eq {a : UInt8} {n : Nat} {b : UInt8} (hb : b.toNat = n) (h : ((a.toNat : Int) == (n : Int)) = true) : a = b := by
 have : (a.toNat : Int) = n := by simpa using h
 exact UInt8.toNat_inj.1 (by omega)
theorem u8_ne {a : UInt8} {n : Nat} {b : UInt8} (hb : b.toNat = n) (h : ((a.toNat : Int) == (n : Int)) = false) : a ≠ b := by
 intro e
 subst e
 rw [hb] at h
 simp at h

theorem splitAt_mem {c : UInt8} {l p : List UInt8} (h : p ∈ splitAt c l) : p.length ≤ l.length := by
 induction l generalizing p with
 | nil => simp [splitAt] at h; simp [h]
 | cons x r ih =>
  unfold splitAt at h
  cases hb : splitAt c r with
  | nil => exact absurd hb (splitAt_ne c r)
  | cons q qs =>
   rw [hb] at h ih
   simp only at h
   split at h
   ·rcases List.mem_cons.1 h with rfl | h
    ·simp
    ·exact Nat.le_succ_of_le (ih h)
   ·rcases List.mem_cons.1 h with rfl | h
    ·have := ih (p := q) List.mem_cons_self; simp; exact this
    ·exact Nat.le_succ_of_le (ih (List.mem_cons_of_mem _ h))
theorem all_none {ps : List ByteArray} {j : Nat} (h : j < ps.length) (hn : numOk ps[j].data.toList = false) : (ps.map (fun s => s.data.toList)).all numOk = false := by
 rw [List.all_eq_false]
 exact ⟨ps[j].data.toList, List.mem_map.2 ⟨ps[j], List.getElem_mem _, rfl⟩, by simp [hn]⟩

end Go.Proofs.YtifoinannefcpaaGreatDoor

namespace Go.Proofs.YtifoinannefcpaaGreatDoor
open Go Go.RowKit

theorem l01Small_any (c : UInt8) (w : World) : Calls Tryz.prog 121 #[.int .u8 (c.toNat : Int)] w fun e w' => e = .returned (.bool (small c)) ∧ w = w' := by
 by_cases h : 97 ≤ (c.toNat : Int)
 ·have hf : Hid (small c = decide ((c.toNat : Int) ≤ 122)) := by unfold Hid small; rw [decide_eq_true h, Bool.true_and]
  go_enter Tryz.func121, Tryz.ntmps121
  go_wp2
  go_ret
  exact ⟨ret_bool hf.out.symm, rfl⟩
 ·have hf : Hid (small c = false) := by unfold Hid small; rw [decide_eq_false h, Bool.false_and]
  go_enter Tryz.func121, Tryz.ntmps121
  go_wp2
  go_ret
  exact ⟨ret_bool hf.out.symm, rfl⟩

theorem l01Digit_any (c : UInt8) (w : World) : Calls Tryz.prog 122 #[.int .u8 (c.toNat : Int)] w fun e w' => e = .returned (.bool (digit c)) ∧ w = w' := by
 by_cases h : 48 ≤ (c.toNat : Int)
 ·have hf : Hid (digit c = decide ((c.toNat : Int) ≤ 57)) := by unfold Hid digit; rw [decide_eq_true h, Bool.true_and]
  go_enter Tryz.func122, Tryz.ntmps122
  go_wp2
  go_ret
  exact ⟨ret_bool hf.out.symm, rfl⟩
 ·have hf : Hid (digit c = false) := by unfold Hid digit; rw [decide_eq_false h, Bool.false_and]
  go_enter Tryz.func122, Tryz.ntmps122
  go_wp2
  go_ret
  exact ⟨ret_bool hf.out.symm, rfl⟩

set_option maxHeartbeats 400000 in
theorem l01Name_any (s : ByteArray) (w : World) : Calls Tryz.prog 96 #[.string s] w fun e w' => e = .returned (.bool (isName s.data.toList)) ∧ w = w' := by
 by_cases h0 : s.toList = []
 ·have hf : Hid (isName s.data.toList = false) := by
   unfold Hid
   rw [Lib.toList_data] at h0
   rw [h0]; rfl
  go_enter Tryz.func96, Tryz.ntmps96
  go_wp2_with fail
  go_ret
  exact ⟨ret_bool hf.out.symm, rfl⟩
 ·have hpos : 0 < s.size := by
   rw [Lib.toList_data] at h0
   rw [← len_data]
   exact List.length_pos_iff.2 h0
  have h0' : (!s.toList.isEmpty) = true := by simpa using h0
  have h0'' : s.toList.isEmpty = false := by simpa using h0
  by_cases h1 : 10 < s.size
  ·have hf : Hid (isName s.data.toList = false) := isName_long (by rw [len_data]; exact h1)
   go_enter Tryz.func96, Tryz.ntmps96
   go_wp2_with fail
   go_ret
   exact ⟨ret_bool hf.out.symm, rfl⟩
  ·have h1' : decide (10 < (s.size : Int)) = false := by simp; omega
   have hc : ∃ b, small s[0] = b := ⟨_, rfl⟩
   obtain ⟨b, hb⟩ := hc
   cases b
   ·have hf : Hid (isName s.data.toList = false) := isName_head hpos hb
    have HB := Lib.hid hb
    clear hb
    go_enter Tryz.func96, Tryz.ntmps96
    go_wp2_with fail
    refine (l01Small_any _ _).mono ?_
    rintro e w' ⟨rfl, rfl⟩
    rw [HB.out]
    go_wp2_with fail
    go_ret
    exact ⟨ret_bool hf.out.symm, rfl⟩
   ·have HB := Lib.hid hb
    clear hb
    go_enter Tryz.func96, Tryz.ntmps96
    go_wp2_with fail
    refine (l01Small_any _ _).mono ?_
    rintro e w' ⟨rfl, rfl⟩
    rw [HB.out]
    go_wp2_with fail
    go_loop [3] (fun i => ∃ k : Nat, k ≤ s.size ∧ i = .int .i64 k ∧ ∀ j (h : j < s.size), j < k → okc s[j] = true) (fun i => s.size - (intOf i).toNat)
    case atStart => exact ⟨0, Nat.zero_le _, rfl, fun _ _ h => by omega⟩
    case round =>
     obtain ⟨k, hk, rfl, ha⟩ := hrel
     have HA := Lib.hid ha
     clear ha
     by_cases hlt : k < s.size
     ·go_wp2_with fail
      refine (l01Small_any _ _).mono ?_
      rintro e w' ⟨rfl, rfl⟩
      have hc : ∃ b, small s[k] = b := ⟨_, rfl⟩
      obtain ⟨b, hb⟩ := hc
      rw [hb]
      have HB1 := Lib.hid hb
      clear hb
      cases b
      ·go_wp2_with fail
       refine (l01Digit_any _ _).mono ?_
       rintro e w' ⟨rfl, rfl⟩
       have hc : ∃ b, digit s[k] = b := ⟨_, rfl⟩
       obtain ⟨b, hb⟩ := hc
       rw [hb]
       have HB2 := Lib.hid hb
       clear hb
       cases b
       ·go_wp2_with fail
        go_ret
        exact ⟨ret_bool (isName_bad hlt HB1.out HB2.out).symm, rfl⟩
       ·go_wp2_with fail
        go_round
        case rel => exact ⟨k + 1, by omega, by go_num, fun j h hj => by
         by_cases e : j = k
         ·subst e; simp [okc, HB2.out]
         ·exact HA.out j h (by omega)⟩
        case measure => simp [intOf]; omega
      ·go_wp2_with fail
       go_round
       case rel => exact ⟨k + 1, by omega, by go_num, fun j h hj => by
        by_cases e : j = k
        ·subst e; simp [okc, HB1.out]
        ·exact HA.out j h (by omega)⟩
       case measure => simp [intOf]; omega
     ·go_wp2_with fail
      go_ret
      exact ⟨ret_bool (isName_good hpos h1 HB.out (fun j h => HA.out j h (by omega))).symm, rfl⟩

theorem l01Action_any (s : ByteArray) (w : World) : Calls Tryz.prog 97 #[.string s] w fun e w' => e = .returned (.bool (isAction s.data.toList)) ∧ w = w' := by
 have hc : ∃ b, isName s.data.toList = b := ⟨_, rfl⟩
 obtain ⟨b, hb⟩ := hc
 cases b
 ·have HF : Hid (isAction s.data.toList = false) := by unfold Hid isAction; rw [hb]; rfl
  have HB := Lib.hid hb
  clear hb
  go_enter Tryz.func97, Tryz.ntmps97
  go_wp2_with fail
  refine (l01Name_any _ _).mono ?_
  rintro e w' ⟨rfl, rfl⟩
  rw [HB.out]
  go_wp2_with fail
  go_ret
  exact ⟨ret_bool HF.out.symm, rfl⟩
 ·have HF : Hid (isAction s.data.toList = !(s.toList == tauL)) := by unfold Hid isAction; rw [hb, Lib.toList_data]; rfl
  have HB := Lib.hid hb
  clear hb
  go_enter Tryz.func97, Tryz.ntmps97
  go_wp2_with fail
  refine (l01Name_any _ _).mono ?_
  rintro e w' ⟨rfl, rfl⟩
  rw [HB.out]
  go_wp2_with fail
  go_ret
  exact ⟨ret_bool HF.out.symm, rfl⟩

theorem l01Open_any (s : ByteArray) (w : World) (hs : s.size ≤ 1073741824) : Calls Tryz.prog 95 #[.string s] w fun e w' => e = .returned (.int .i64 (openAt s.data.toList)) ∧ w = w' := by
 go_enter Tryz.func95, Tryz.ntmps95
 go_wp2
 go_loop [3] (fun i => ∃ k : Nat, k ≤ s.size ∧ i = .int .i64 k ∧ ∀ j (h : j < s.data.toList.length), j < k → (s.data.toList[j] == (40 : UInt8)) = false) (fun i => s.size - (intOf i).toNat)
 case atStart => exact ⟨0, Nat.zero_le _, rfl, fun _ _ h => by omega⟩
 case round =>
  obtain ⟨k, hk, rfl, ha⟩ := hrel
  have HA := Lib.hid ha
  clear ha
  by_cases hlt : k < s.size
  ·have hl : k < s.data.toList.length := by rw [len_data]; exact hlt
   by_cases hb : ((s[k].toNat : Int) == 40) = true
   ·go_wp2
    go_ret
    refine ⟨ret_int ?_, rfl⟩
    have h40 : s.data.toList[k] = (40 : UInt8) := by
     rw [get_data s k hlt hl]
     have : (s[k].toNat : Int) = 40 := by simpa using hb
     exact UInt8.toNat_inj.1 (by show _ = 40; omega)
    have : openAt s.data.toList = k := (List.findIdx_eq hl).2 ⟨by simp [h40], fun j hj => HA.out j (by omega) hj⟩
    rw [this]
   ·have hb' : ((s[k].toNat : Int) == 40) = false := by simpa using hb
    go_wp2
    go_round
    case rel => exact ⟨k + 1, by omega, by go_num, fun j h hj => by
     by_cases e : j = k
     ·subst e
      rw [get_data s j hlt hl]
      simp only [beq_eq_false_iff_ne, ne_eq] at hb' ⊢
      intro hc
      rw [hc] at hb'
      exact hb' rfl
     ·exact HA.out j h (by omega)⟩
    case measure => simp [intOf]; omega
  ·go_wp2
   go_ret
   refine ⟨ret_int ?_, rfl⟩
   have : openAt s.data.toList = s.data.toList.length := by
    unfold openAt
    rw [List.findIdx_eq_length]
    intro x hx
    obtain ⟨j, hj, rfl⟩ := List.mem_iff_getElem.1 hx
    exact HA.out j hj (by rw [len_data] at hj; omega)
   rw [this, len_data]

theorem info_str : (Tryz.prog.info? 9).map (fun i => (i.zero, i.size, i.bytes)) = some (some (.string ⟨#[]⟩), 1, 16) := by kernel_rfl
theorem info_int64 : (Tryz.prog.info? 2).map (fun i => (i.zero, i.size, i.bytes)) = some (some (.int .i64 0), 1, 8) := by kernel_rfl

/-- A slice of texts in memory of the call's own, whose bytes are these. -/
def MadeParts (w : World) (ls : List (List UInt8)) (e : Ending) (w' : World) : Prop :=
 ∃ (v : Value) (ss : List ByteArray), e = .returned v ∧ Below w.heap.size w w' ∧ w'.ownsRow w.heap.size 9 1 v ss.length (ss.map Value.string) ∧ ss.map (fun s => s.data.toList) = ls

set_option maxRecDepth 100000 in
set_option maxHeartbeats 1000000 in
theorem l01Split_any (s : ByteArray) (c : UInt8) (w : World) (hs : s.size ≤ 1073741824) : Calls Tryz.prog 98 #[.string s, .int .u8 (c.toNat : Int)] w (MadeParts w (splitAt c s.data.toList)) := by
 obtain ⟨i0, hi, hz0, hz1, hz2⟩ := info_parts info_str
 go_enter Tryz.func98, Tryz.ntmps98
 go_wp2
 go_loopw [5, 6, 7] (fun v f i wr => ∃ (m k : Nat) (ss : List ByteArray), m ≤ k ∧ k ≤ s.size ∧ i = .int .i64 k ∧ f = .int .i64 m ∧ clean c s.data.toList m k ∧ ss.length ≤ k ∧ Below w.heap.size w wr
   ∧ wr.ownsRow w.heap.size 9 1 v ss.length (ss.map Value.string) ∧ ss.map (fun s => s.data.toList) ++ splitAt c (s.data.toList.drop m) = splitAt c s.data.toList) (fun _ _ i _ => s.size - (intOf i).toNat)
 case atStart =>
  exact ⟨0, 0, [], Nat.le_refl _, Nat.zero_le _, rfl, rfl, fun _ _ _ h => by omega, Nat.le_refl _, (Below.refl _ _).alloc (Nat.le_refl _) _, World.ownsRow_lit (size := 1) w #[] 0 (Nat.le_refl _) (by simp [maxLen]) rfl, by simp⟩
 case round =>
  obtain ⟨m, k, ss, hmk, hk, rfl, rfl, hcl, hsl, hb, ho, hsp⟩ := hrel
  have HC := Lib.hid hcl
  have HS := Lib.hid hsp
  have HB := Lib.hid hb
  have HO := Lib.hid ho
  have hsz := hb.size
  clear hcl hsp hb ho
  by_cases hlt : k < s.size
  ·have hl : k < s.data.toList.length := by rw [len_data]; exact hlt
   by_cases hb : ((s[k].toNat : Int) == (c.toNat : Int)) = true
   ·have hkc : (s.data.toList[k] == c) = true := by
     rw [get_data s k hlt hl]
     have : (s[k].toNat : Int) = c.toNat := by simpa using hb
     have : s[k] = c := UInt8.toNat_inj.1 (by omega)
     simp [this]
    have HS2 : Hid ((ss ++ [s.extract m k]).map (fun s => s.data.toList) ++ splitAt c (s.data.toList.drop (k + 1)) = splitAt c s.data.toList) := by
     unfold Hid
     rw [← HS.out, split_step hmk hl HC.out hkc, List.map_append, List.append_assoc]
     congr 1
     simp only [List.map_cons, List.map_nil, List.cons_append, List.nil_append, extract_data']
    go_wp2_with (at_builtin; refine wpList_append_own _ rfl _ _ 24 rfl w.heap.size 9 i0 (.string ⟨#[]⟩) 1 16 Tryz.underlying24 hi hz0 hz1 hz2 rfl (by decide) _ _ _ rfl (HO.out.alloc _) ⟨wr.heap.size, 0, none⟩ 1 1 [.string (s.extract m k)] rfl rfl ?c1 ?c2 ?c3 ?c4 ?c5 ?_)
    case c1 => exact (cell_one_new _ _ _)
    case c2 => intro u hu; simp at hu; subst hu; rfl
    case c3 => simp [maxLen]; omega
    case c4 => omega
    case c5 => simp; omega
    intro v' w1 ho1 hg1 _
    have ho2 : w1.ownsRow w.heap.size 9 1 v' (ss ++ [s.extract m k]).length ((ss ++ [s.extract m k]).map Value.string) := by
     simpa using ho1
    have HO2 := Lib.hid ho2
    have HB2 : Hid (Below w.heap.size w w1) := (HB.out.alloc hsz _).grown hg1 (by simp; omega) (fun b e => (HO.out.lt b e).1)
    clear ho1 ho2 hg1
    go_wp2
    go_roundw
    case rel => exact ⟨k + 1, k + 1, ss ++ [s.extract m k], Nat.le_refl _, by omega, by go_num, by go_num, fun _ _ _ h => by omega, by simp; omega, HB2.out, HO2.out, HS2.out⟩
    case measure => simp [intOf]; omega
   ·have hb' : ((s[k].toNat : Int) == (c.toNat : Int)) = false := by simpa using hb
    have HC2 : Hid (clean c s.data.toList m (k + 1)) := fun j h h1 h2 => by
     by_cases e : j = k
     ·subst e
      rw [get_data s j hlt hl]
      simp only [beq_eq_false_iff_ne, ne_eq] at hb' ⊢
      intro hc
      rw [hc] at hb'
      exact hb' rfl
     ·exact HC.out j h h1 (by omega)
    clear hb
    go_wp2
    go_roundw
    case rel => exact ⟨m, k + 1, ss, by omega, by omega, by go_num, rfl, HC2.out, by omega, HB.out, HO.out, HS.out⟩
    case measure => simp [intOf]; omega
  ·obtain rfl : k = s.size := by omega
   have HS2 : Hid ((ss ++ [s.extract m s.size]).map (fun s => s.data.toList) = splitAt c s.data.toList) := by
    unfold Hid
    rw [← HS.out, split_end (by rw [len_data]; exact HC.out), List.map_append]
    simp only [List.map_cons, List.map_nil, extract_data']
    rw [List.take_of_length_le (by rw [List.length_drop, len_data]; omega)]
   go_wp2_with (at_builtin; refine wpList_append_own _ rfl _ _ 24 rfl w.heap.size 9 i0 (.string ⟨#[]⟩) 1 16 Tryz.underlying24 hi hz0 hz1 hz2 rfl (by decide) _ _ _ rfl (HO.out.alloc _) ⟨wr.heap.size, 0, none⟩ 1 1 [.string (s.extract m s.size)] rfl rfl ?c1 ?c2 ?c3 ?c4 ?c5 ?_)
   case c1 => exact (cell_one_new _ _ _)
   case c2 => intro u hu; simp at hu; subst hu; rfl
   case c3 => simp [maxLen]; omega
   case c4 => omega
   case c5 => simp; omega
   intro v' w1 ho1 hg1 _
   have ho2 : w1.ownsRow w.heap.size 9 1 v' (ss ++ [s.extract m s.size]).length ((ss ++ [s.extract m s.size]).map Value.string) := by
    simpa using ho1
   have HO2 := Lib.hid ho2
   have HB2 : Hid (Below w.heap.size w w1) := (HB.out.alloc hsz _).grown hg1 (by simp; omega) (fun b e => (HO.out.lt b e).1)
   clear ho1 ho2 hg1
   go_wp2
   go_ret
   exact ⟨_, _, rfl, HB2.out, HO2.out, HS2.out⟩

def RetNum (o : Option Int) (w : World) (e : Ending) (w' : World) : Prop := e = .returned (.tuple #[.int .i64 (o.getD 0), .bool o.isSome]) ∧ w = w'

set_option maxRecDepth 100000 in
set_option maxHeartbeats 2000000 in
theorem l01Number_any (s : ByteArray) (w : World) (hs : s.size ≤ 1073741824) : Calls Tryz.prog 99 #[.string s] w (RetNum (numB s.data.toList) w) := by
 by_cases h0 : s.size = 0
 ·have HF : Hid (numB s.data.toList = none) := by
   have : s.data.toList = [] := List.eq_nil_of_length_eq_zero (by rw [len_data]; exact h0)
   unfold Hid
   rw [this]; rfl
  go_enter Tryz.func99, Tryz.ntmps99
  go_wp2_with fail
  go_ret2
  exact ⟨by rw [HF.out]; rfl, rfl⟩
 ·have hpos : 0 < s.size := by omega
  clear h0
  by_cases hm : ((s[0].toNat : Int) == 45) = true
  ·have h45 : s[0] = 45 := by
    have : (s[0].toNat : Int) = 45 := by simpa using hm
    exact UInt8.toNat_inj.1 (by show _ = 45; omega)
   have HNB : Hid (numB s.data.toList = numDs true (s.data.toList.drop 1)) := by
    unfold Hid numB
    rw [head_data s hpos, h45, if_pos rfl, List.drop_one]
   clear h45
   by_cases h1 : s.size = 1
   ·have HF : Hid (numB s.data.toList = none) := by
     unfold Hid
     rw [HNB.out]
     unfold numDs
     rw [if_pos (.inl (by rw [List.length_drop, len_data]; omega))]
    have h1' : ((s.size : Int) == 1) = true := by simp; omega
    go_enter Tryz.func99, Tryz.ntmps99
    go_wp2_with fail
    go_ret2
    exact ⟨by rw [HF.out]; rfl, rfl⟩
   ·have h1' : ((s.size : Int) == 1) = false := by simp; omega
    by_cases h2 : 18 < s.size - 1
    ·have HF : Hid (numB s.data.toList = none) := by
      unfold Hid
      rw [HNB.out]
      unfold numDs
      rw [if_pos (.inr (.inl (by rw [List.length_drop, len_data]; omega)))]
     go_enter Tryz.func99, Tryz.ntmps99
     go_wp2_with fail
     go_ret2
     exact ⟨by rw [HF.out]; rfl, rfl⟩
    ·have h2' : decide (18 < (s.size : Int) - 1) = false := by simp; omega
     have hh : (s.data.toList.drop 1).head? = some s[1] := by
      rw [List.head?_eq_getElem?, List.getElem?_drop, List.getElem?_eq_getElem (by rw [len_data]; omega)]; rfl
     have HH := Lib.hid hh
     clear hh
     by_cases h3 : ((s[1].toNat : Int) == 48) = true
     ·have HF : Hid (numB s.data.toList = none) := by
       unfold Hid
       rw [HNB.out]
       unfold numDs
       have : s[1] = 48 := by
        have : (s[1].toNat : Int) = 48 := by simpa using h3
        exact UInt8.toNat_inj.1 (by show _ = 48; omega)
       rw [if_pos (.inr (.inr (.inl ⟨by rw [HH.out, this], .inl rfl⟩)))]
      go_enter Tryz.func99, Tryz.ntmps99
      go_wp2_with fail
      go_ret2
      exact ⟨by rw [HF.out]; rfl, rfl⟩
     ·have h3' : ((s[1].toNat : Int) == 48) = false := by simpa using h3
      have HBADX : Hid ((s.data.toList.drop 1).all digit = false → numB s.data.toList = none) := fun h => by
       rw [HNB.out]
       unfold numDs
       rw [if_pos (.inr (.inr (.inr h)))]
      have HGOOD : Hid ((s.data.toList.drop 1).all digit = true → numB s.data.toList = some (-(valFrom 0 (s.data.toList.drop 1) : Int))) := fun h => by
       rw [HNB.out]
       unfold numDs
       rw [if_neg, if_pos rfl]
       rw [List.length_drop, len_data, HH.out, h]
       rintro (h | h | ⟨h, -⟩ | h)
       ·omega
       ·omega
       ·simp only [Option.some.injEq] at h
        rw [h] at h3'
        exact absurd h3' (by decide)
       ·simp at h
      clear h3
      go_enter Tryz.func99, Tryz.ntmps99
      go_wp2_with fail
      go_loop [5, 6] (fun q i => ∃ k : Nat, 1 ≤ k ∧ k ≤ s.size ∧ i = .int .i64 k ∧ q = .int .i64 (valFrom 0 ((s.data.toList.drop 1).take (k - 1)) : Nat) ∧ ((s.data.toList.drop 1).take (k - 1)).all digit = true) (fun _ i => s.size - (intOf i).toNat)
      case atStart => exact ⟨1, by omega, by omega, rfl, by simp [valFrom_nil], by simp⟩
      case round =>
       obtain ⟨k, hak, hk, rfl, rfl, hall⟩ := hrel
       have HALL := Lib.hid hall
       clear hall
       by_cases hlt : k < s.size
       ·have hl : k < s.data.toList.length := by rw [len_data]; exact hlt
        have hsm := val_small HALL.out (by simp; omega)
        have HSTEP := Lib.hid (val_step (a := 1) hak hl)
        rw [get_data s k hlt hl] at HSTEP
        generalize valFrom 0 ((s.data.toList.drop 1).take (k - 1)) = n at *
        go_wp2_with fail
        refine (l01Digit_any _ _).mono ?_
        rintro e w' ⟨rfl, rfl⟩
        have hc : ∃ b, digit s[k] = b := ⟨_, rfl⟩
        obtain ⟨b, hb⟩ := hc
        rw [hb]
        have HB := Lib.hid hb
        cases b
        ·clear hb
         go_wp2_with fail
         go_ret2
         refine ⟨?_, rfl⟩
         rw [HBADX.out (all_bad hak hl (by rw [get_data s k hlt hl]; exact HB.out))]; rfl
        ·have hd := hb
         simp only [digit, Bool.and_eq_true, decide_eq_true_eq] at hd
         obtain ⟨hd1, hd2⟩ := hd
         clear hb
         go_wp2_with fail
         go_round
         case rel => exact ⟨k + 1, by omega, by omega, by go_num, by rw [HSTEP.out]; go_num, all_step hak hl HALL.out HB.out⟩
         case measure => simp [intOf]; omega
       ·obtain rfl : k = s.size := by omega
        have e1 : (s.data.toList.drop 1).take (s.size - 1) = s.data.toList.drop 1 := List.take_of_length_le (by rw [List.length_drop, len_data]; omega)
        have hall := HALL.out
        rw [e1] at hall ⊢
        have HA := Lib.hid hall
        have hsm := val_small18 hall (by rw [List.length_drop, len_data]; omega)
        clear hall
        generalize hn : valFrom 0 (s.data.toList.drop 1) = n at *
        have HN := Lib.hid hn
        clear hn
        go_wp2_with fail
        go_ret2
        exact ⟨by rw [HGOOD.out HA.out]; rfl, rfl⟩
  ·have hm' : ((s[0].toNat : Int) == 45) = false := by simpa using hm
   have HNB : Hid (numB s.data.toList = numDs false (s.data.toList.drop 0)) := by
    unfold Hid numB
    rw [head_data s hpos, if_neg, List.drop_zero]
    intro h
    simp only [Option.some.injEq] at h
    rw [h] at hm'
    exact absurd hm' (by decide)
   clear hm
   have h1' : ((s.size : Int) == 0) = false := by rw [beq_eq_false_iff_ne]; omega
   by_cases h2 : 18 < s.size
   ·have HF : Hid (numB s.data.toList = none) := by
     unfold Hid
     rw [HNB.out]
     unfold numDs
     rw [if_pos (.inr (.inl (by rw [List.length_drop, len_data]; omega)))]
    go_enter Tryz.func99, Tryz.ntmps99
    go_wp2_with fail
    go_ret2
    exact ⟨by rw [HF.out]; rfl, rfl⟩
   ·have h2' : decide (18 < (s.size : Int)) = false := by simp; omega
    by_cases h3 : ((s[0].toNat : Int) == 48) = true ∧ 1 < s.size
    ·have HF : Hid (numB s.data.toList = none) := by
      unfold Hid
      rw [HNB.out]
      unfold numDs
      have : s[0] = 48 := by
       have : (s[0].toNat : Int) = 48 := by simpa using h3.1
       exact UInt8.toNat_inj.1 (by show _ = 48; omega)
      rw [if_pos (.inr (.inr (.inl ⟨by rw [List.drop_zero, head_data s hpos, this], .inr (by rw [List.length_drop, len_data]; omega)⟩)))]
     obtain ⟨h3, h4⟩ := h3
     go_enter Tryz.func99, Tryz.ntmps99
     go_wp2_with fail
     go_ret2
     exact ⟨by rw [HF.out]; rfl, rfl⟩
    ·have HBADX : Hid ((s.data.toList.drop 0).all digit = false → numB s.data.toList = none) := fun h => by
      rw [HNB.out]
      unfold numDs
      rw [if_pos (.inr (.inr (.inr h)))]
     have HGOOD : Hid ((s.data.toList.drop 0).all digit = true → numB s.data.toList = some (valFrom 0 (s.data.toList.drop 0) : Int)) := fun h => by
      rw [HNB.out]
      unfold numDs
      rw [if_neg, if_neg (by simp)]
      rw [List.length_drop, len_data, h, List.drop_zero, head_data s hpos]
      rintro (h | h | ⟨h, h'⟩ | h)
      ·omega
      ·omega
      ·simp only [Option.some.injEq] at h
       rcases h' with h' | h'
       ·simp at h'
       ·exact h3 ⟨by rw [h]; decide, by omega⟩
      ·simp at h
     by_cases h4 : ((s[0].toNat : Int) == 48) = true
     ·have h5 : decide (1 < (s.size : Int)) = false := by simp; have := not_and.1 h3 h4; omega
      clear h3
      go_enter Tryz.func99, Tryz.ntmps99
      go_wp2_with fail
      go_loop [5, 6] (fun q i => ∃ k : Nat, 0 ≤ k ∧ k ≤ s.size ∧ i = .int .i64 k ∧ q = .int .i64 (valFrom 0 ((s.data.toList.drop 0).take (k - 0)) : Nat) ∧ ((s.data.toList.drop 0).take (k - 0)).all digit = true) (fun _ i => s.size - (intOf i).toNat)
      case atStart => exact ⟨0, by omega, by omega, rfl, by simp [valFrom_nil], by simp⟩
      case round =>
       obtain ⟨k, hak, hk, rfl, rfl, hall⟩ := hrel
       have HALL := Lib.hid hall
       clear hall
       by_cases hlt : k < s.size
       ·have hl : k < s.data.toList.length := by rw [len_data]; exact hlt
        have hsm := val_small HALL.out (by simp; omega)
        have HSTEP := Lib.hid (val_step (a := 0) hak hl)
        rw [get_data s k hlt hl] at HSTEP
        generalize valFrom 0 ((s.data.toList.drop 0).take (k - 0)) = n at *
        go_wp2_with fail
        refine (l01Digit_any _ _).mono ?_
        rintro e w' ⟨rfl, rfl⟩
        have hc : ∃ b, digit s[k] = b := ⟨_, rfl⟩
        obtain ⟨b, hb⟩ := hc
        rw [hb]
        have HB := Lib.hid hb
        cases b
        ·clear hb
         go_wp2_with fail
         go_ret2
         refine ⟨?_, rfl⟩
         rw [HBADX.out (all_bad hak hl (by rw [get_data s k hlt hl]; exact HB.out))]; rfl
        ·have hd := hb
         simp only [digit, Bool.and_eq_true, decide_eq_true_eq] at hd
         obtain ⟨hd1, hd2⟩ := hd
         clear hb
         go_wp2_with fail
         go_round
         case rel => exact ⟨k + 1, by omega, by omega, by go_num, by rw [HSTEP.out]; go_num, all_step hak hl HALL.out HB.out⟩
         case measure => simp [intOf]; omega
       ·obtain rfl : k = s.size := by omega
        have e1 : (s.data.toList.drop 0).take (s.size - 0) = s.data.toList.drop 0 := List.take_of_length_le (by rw [List.length_drop, len_data]; omega)
        have hall := HALL.out
        rw [e1] at hall ⊢
        have HA := Lib.hid hall
        have hsm := val_small18 hall (by rw [List.length_drop, len_data]; omega)
        clear hall
        generalize hn : valFrom 0 (s.data.toList.drop 0) = n at *
        have HN := Lib.hid hn
        clear hn
        go_wp2_with fail
        go_ret2
        exact ⟨by rw [HGOOD.out HA.out]; rfl, rfl⟩
     ·have h4' : ((s[0].toNat : Int) == 48) = false := by simpa using h4
      clear h3 h4
      go_enter Tryz.func99, Tryz.ntmps99
      go_wp2_with fail
      go_loop [5, 6] (fun q i => ∃ k : Nat, 0 ≤ k ∧ k ≤ s.size ∧ i = .int .i64 k ∧ q = .int .i64 (valFrom 0 ((s.data.toList.drop 0).take (k - 0)) : Nat) ∧ ((s.data.toList.drop 0).take (k - 0)).all digit = true) (fun _ i => s.size - (intOf i).toNat)
      case atStart => exact ⟨0, by omega, by omega, rfl, by simp [valFrom_nil], by simp⟩
      case round =>
       obtain ⟨k, hak, hk, rfl, rfl, hall⟩ := hrel
       have HALL := Lib.hid hall
       clear hall
       by_cases hlt : k < s.size
       ·have hl : k < s.data.toList.length := by rw [len_data]; exact hlt
        have hsm := val_small HALL.out (by simp; omega)
        have HSTEP := Lib.hid (val_step (a := 0) hak hl)
        rw [get_data s k hlt hl] at HSTEP
        generalize valFrom 0 ((s.data.toList.drop 0).take (k - 0)) = n at *
        go_wp2_with fail
        refine (l01Digit_any _ _).mono ?_
        rintro e w' ⟨rfl, rfl⟩
        have hc : ∃ b, digit s[k] = b := ⟨_, rfl⟩
        obtain ⟨b, hb⟩ := hc
        rw [hb]
        have HB := Lib.hid hb
        cases b
        ·clear hb
         go_wp2_with fail
         go_ret2
         refine ⟨?_, rfl⟩
         rw [HBADX.out (all_bad hak hl (by rw [get_data s k hlt hl]; exact HB.out))]; rfl
        ·have hd := hb
         simp only [digit, Bool.and_eq_true, decide_eq_true_eq] at hd
         obtain ⟨hd1, hd2⟩ := hd
         clear hb
         go_wp2_with fail
         go_round
         case rel => exact ⟨k + 1, by omega, by omega, by go_num, by rw [HSTEP.out]; go_num, all_step hak hl HALL.out HB.out⟩
         case measure => simp [intOf]; omega
       ·obtain rfl : k = s.size := by omega
        have e1 : (s.data.toList.drop 0).take (s.size - 0) = s.data.toList.drop 0 := List.take_of_length_le (by rw [List.length_drop, len_data]; omega)
        have hall := HALL.out
        rw [e1] at hall ⊢
        have HA := Lib.hid hall
        have hsm := val_small18 hall (by rw [List.length_drop, len_data]; omega)
        clear hall
        generalize hn : valFrom 0 (s.data.toList.drop 0) = n at *
        have HN := Lib.hid hn
        clear hn
        go_wp2_with fail
        go_ret2
        exact ⟨by rw [HGOOD.out HA.out]; rfl, rfl⟩

end Go.Proofs.YtifoinannefcpaaGreatDoor

namespace Go.Proofs.YtifoinannefcpaaGreatDoor
open Go Go.RowKit

def inB (n a b : Int) : Bool := decide (a ≤ n) && decide (n ≤ b)
theorem l00In_any (n a b : Int) (w : World) : Calls Tryz.prog 34 #[.int .i64 n, .int .i64 a, .int .i64 b] w fun e w' => e = .returned (.bool (inB n a b)) ∧ w = w' := by
 by_cases h : a ≤ n
 ·have hf : Hid (inB n a b = decide (n ≤ b)) := by unfold Hid inB; rw [decide_eq_true h, Bool.true_and]
  go_enter Tryz.func34, Tryz.ntmps34
  go_wp2
  go_ret
  exact ⟨ret_bool hf.out.symm, rfl⟩
 ·have hf : Hid (inB n a b = false) := by unfold Hid inB; rw [decide_eq_false h, Bool.false_and]
  go_enter Tryz.func34, Tryz.ntmps34
  go_wp2
  go_ret
  exact ⟨ret_bool hf.out.symm, rfl⟩

/-- The values of a label and whether it is one. -/
def RetVals (l : List UInt8) (w : World) (e : Ending) (w' : World) : Prop :=
 ∃ v, e = .returned (.tuple #[v, .bool (labelOk l)]) ∧ Below w.heap.size w w' ∧ (labelOk l = true → w'.ownsRow w.heap.size 2 1 v (labelVals l).length ((labelVals l).map (Value.int .i64)))

set_option maxRecDepth 100000 in
set_option maxHeartbeats 4000000 in
theorem l01Values_any (s : ByteArray) (w : World) (hs : s.size ≤ 1073741824) : Calls Tryz.prog 76 #[.string s] w (RetVals s.data.toList w) := by
 obtain ⟨i0, hi, hz0, hz1, hz2⟩ := info_parts info_int64
 have hle := openAt_le s.data.toList
 rw [len_data] at hle
 by_cases h0 : openAt s.data.toList = s.size
 ·have h0' : ((openAt s.data.toList : Int) == s.size) = true := by simp [h0]
  have HOK : Hid (labelOk s.data.toList = isName s.data.toList) := by unfold Hid labelOk; rw [if_pos (by rw [len_data]; exact h0)]
  have HV : Hid (labelVals s.data.toList = []) := by unfold Hid labelVals; rw [if_pos (by rw [len_data]; exact h0)]
  clear h0
  generalize hk : openAt s.data.toList = k at *
  have HK := Lib.hid hk
  clear hk
  go_enter Tryz.func76, Tryz.ntmps76
  go_wp2_with fail
  refine (l01Open_any _ _ hs).mono ?_
  rintro e w' ⟨rfl, rfl⟩
  rw [HK.out]
  go_wp2_with fail
  refine (l01Name_any _ _).mono ?_
  rintro e w' ⟨rfl, rfl⟩
  go_wp2_with fail
  go_ret2
  refine ⟨.slice (some ⟨w.heap.size, 0, none⟩) 0 0, by rw [HOK.out]; rfl, (Below.refl _ _).alloc (Nat.le_refl _) _, fun _ => ?_⟩
  rw [HV.out]
  exact World.ownsRow_lit (size := 1) w #[] 0 (Nat.le_refl _) (by simp [maxLen]) rfl
 ·have h0' : ((openAt s.data.toList : Int) == s.size) = false := by rw [beq_eq_false_iff_ne]; omega
  have hlt : openAt s.data.toList < s.size := by omega
  have HLT := Lib.hid (openAt_get (l := s.data.toList) (by rw [len_data]; exact hlt))
  have HOK : Hid (labelOk s.data.toList = (isAction (s.data.toList.take (openAt s.data.toList)) && ((s.data.toList.getLast? == some 41) && ((labelParts s.data.toList).all numOk && decide ((labelParts s.data.toList).length ≤ 2))))) := by
   unfold Hid labelOk; rw [if_neg (by rw [len_data]; exact h0)]
  have HV : Hid (labelVals s.data.toList = (labelParts s.data.toList).map fun p => (numB p).getD 0) := by unfold Hid labelVals; rw [if_neg (by rw [len_data]; exact h0)]
  have HP : Hid (labelParts s.data.toList = splitAt 44 (s.extract (openAt s.data.toList + 1) (s.size - 1)).data.toList) := by
   unfold Hid labelParts
   rw [extract_data', len_data]
  have HA : Hid ((s.extract 0 (openAt s.data.toList)).data.toList = s.data.toList.take (openAt s.data.toList)) := by unfold Hid; rw [extract_data']; simp
  clear h0 hle
  generalize hk : openAt s.data.toList = k at *
  have HK := Lib.hid hk
  clear hk
  cases hb1 : isAction (s.data.toList.take k)
  ·have HB1 := Lib.hid hb1
   clear hb1
   go_enter Tryz.func76, Tryz.ntmps76
   go_wp2_with fail
   refine (l01Open_any _ _ hs).mono ?_
   rintro e w' ⟨rfl, rfl⟩
   rw [HK.out]
   go_wp2_with fail
   refine (l01Action_any _ _).mono ?_
   rintro e w' ⟨rfl, rfl⟩
   rw [HA.out, HB1.out]
   go_wp2_with fail
   go_ret2
   have : labelOk s.data.toList = false := by rw [HOK.out, HB1.out]; rfl
   exact ⟨.slice none 0 0, by rw [this]; rfl, Below.refl _ _, fun h => by rw [this] at h; cases h⟩
  ·have HB1 := Lib.hid hb1
   clear hb1
   have hpos : 0 < s.size := by omega
   by_cases hc : ((s[s.size - 1].toNat : Int) == 41) = true
   ·have hc' : (!((s[s.size - 1].toNat : Int) == 41)) = false := by rw [hc]; rfl
    have hc'' : ((s[s.size - 1].toNat : Int) != 41) = false := by simpa using hc
    have hl41 : (s.data.toList.getLast? == some 41) = true := by
     rw [last_data hpos, u8_eq (n := 41) (b := 41) rfl hc]; rfl
    have HL41 := Lib.hid hl41
    have hk1 : k + 1 ≤ s.size - 1 := by
     rcases Nat.lt_or_ge (k + 1) s.size with h | h
     ·omega
     ·exfalso
      have e : k = s.size - 1 := by omega
      have h40 := HLT.out
      have h41 := u8_eq (n := 41) (b := 41) rfl hc
      subst e
      rw [get_data s _ (by omega)] at h40
      rw [h40] at h41
      exact absurd h41 (by decide)
    clear hl41
    go_enter Tryz.func76, Tryz.ntmps76
    go_wp2_with fail
    refine (l01Open_any _ _ hs).mono ?_
    rintro e w' ⟨rfl, rfl⟩
    rw [HK.out]
    go_wp2_with fail
    refine (l01Action_any _ _).mono ?_
    rintro e w' ⟨rfl, rfl⟩
    rw [HA.out, HB1.out]
    go_wp2_with fail
    refine (l01Split_any _ 44 _ (by rw [ByteArray.size_extract]; omega)).mono ?_
    rintro e w1 ⟨v, ps, rfl, hb1, ho1, hp1⟩
    rw [← HP.out] at hp1
    have HPS := Lib.hid hp1
    have hpl : ps.length ≤ s.size + 1 := by
     have h1 := splitAt_len 44 (s.extract (k + 1) (s.size - 1)).data.toList
     rw [← HP.out, ← hp1, List.length_map, len_data, ByteArray.size_extract] at h1
     omega
    have hps : ∀ j (h : j < ps.length), ps[j].size ≤ 1073741824 := fun j h => by
     have hm : ps[j].data.toList ∈ splitAt 44 (s.extract (k + 1) (s.size - 1)).data.toList := by
      rw [← HP.out, ← hp1]
      exact List.mem_map.2 ⟨ps[j], List.getElem_mem _, rfl⟩
     have h1 := splitAt_mem hm
     rw [len_data, len_data, ByteArray.size_extract] at h1
     omega
    have HPZ := Lib.hid hps
    have HO1 := Lib.hid ho1
    have HB2 := Lib.hid hb1
    have hs1 := hb1.size
    have hsl := SliceK.of_owns (α := ByteArray) (enc := encS) encS_len rfl (by rw [flat_encS]; exact ho1)
    obtain ⟨ap, cp, rfl, hcp1, hcp2, hrow⟩ := hsl
    clear hp1 ho1 hb1 hps
    go_wp2_with fail
    go_loopw [6, 7] (fun v i wr => ∃ j : Nat, j ≤ ps.length ∧ i = .int .i64 j ∧ Below w.heap.size w wr ∧ w1.heap.size ≤ wr.heap.size ∧ Below w1.heap.size w1 wr ∧ wr.ownsRow w1.heap.size 2 1 v j (((ps.take j).map fun p => (numB p.data.toList).getD 0).map (Value.int .i64)) ∧ (∀ q (h : q < ps.length), q < j → numOk ps[q].data.toList = true)) (fun _ i _ => ps.length - (intOf i).toNat)
    case atStart =>
     exact ⟨0, Nat.zero_le _, rfl, HB2.out.alloc hs1 _, by simp, (Below.refl _ _).alloc (Nat.le_refl _) _, World.ownsRow_lit (size := 1) w1 #[] 0 (Nat.le_refl _) (by simp [maxLen]) rfl, fun _ _ h => by omega⟩
    case round =>
     obtain ⟨j, hj, rfl, hb, hs2, hb3, ho, hall⟩ := hrel
     have HB := Lib.hid hb
     have HO := Lib.hid ho
     have HA2 := Lib.hid hall
     have HB3 := Lib.hid hb3
     have hsz := hb.size
     clear hb ho hall hb3 HB2
     by_cases hlt : j < ps.length
     ·obtain ⟨b1, o1, rfl, -, hbs, c1⟩ := (hrow.below HB3.out).one hlt
      simp only [encS, List.getElem?_cons_zero] at c1
      have hpz := HPZ.out j hlt
      clear hrow
      cases hn : numB ps[j].data.toList with
      | none =>
       have HN := Lib.hid hn
       clear hn
       go_wp2_with fail
       refine (l01Number_any _ _ hpz).mono ?_
       rintro e w2 ⟨rfl, rfl⟩
       rw [HN.out]
       go_wp2_with fail
       go_ret2
       have : labelOk s.data.toList = false := by
        rw [HOK.out, ← HPS.out, all_none hlt (by unfold numOk; rw [HN.out])]; simp
       exact ⟨.slice none 0 0, by rw [this]; rfl, HB.out, fun h => by rw [this] at h; cases h⟩
      | some n =>
       have HN := Lib.hid hn
       clear hn
       cases hin : inB n 0 63
       ·have HIN := Lib.hid hin
        clear hin
        go_wp2_with fail
        refine (l01Number_any _ _ hpz).mono ?_
        rintro e w2 ⟨rfl, rfl⟩
        rw [HN.out]
        go_wp2_with fail
        refine (l00In_any _ _ _ _).mono ?_
        rintro e w2 ⟨rfl, rfl⟩
        rw [HIN.out]
        go_wp2_with fail
        go_ret2
        have : labelOk s.data.toList = false := by
         rw [HOK.out, ← HPS.out, all_none hlt (by unfold numOk; rw [HN.out]; exact HIN.out)]; simp
        exact ⟨.slice none 0 0, by rw [this]; rfl, HB.out, fun h => by rw [this] at h; cases h⟩
       ·have HIN := Lib.hid hin
        clear hin
        go_wp2_with fail
        refine (l01Number_any _ _ hpz).mono ?_
        rintro e w2 ⟨rfl, rfl⟩
        rw [HN.out]
        go_wp2_with fail
        refine (l00In_any _ _ _ _).mono ?_
        rintro e w2 ⟨rfl, rfl⟩
        rw [HIN.out]
        clear c1
        go_wp2_with (at_builtin; refine wpList_append_own _ rfl _ _ 32 rfl w1.heap.size 2 i0 (.int .i64 0) 1 8 Tryz.underlying32 hi hz0 hz1 hz2 rfl (by decide) _ _ _ rfl (HO.out.alloc _) ⟨wr.heap.size, 0, none⟩ 1 1 [.int .i64 n] rfl rfl ?c1 ?c2 ?c3 ?c4 ?c5 ?_)
        case c1 => exact (cell_one_new _ _ _)
        case c2 => intro u hu; simp at hu; subst hu; rfl
        case c3 => simp [maxLen]; omega
        case c4 => omega
        case c5 => simp; omega
        intro v' w3 ho1 hg1 _
        have ho2 : w3.ownsRow w1.heap.size 2 1 v' (j + 1) (((ps.take (j + 1)).map fun p => (numB p.data.toList).getD 0).map (Value.int .i64)) := by
         have e : ((ps.take (j + 1)).map fun p => (numB p.data.toList).getD 0).map (Value.int .i64) = List.take j (List.map (Value.int .i64 ∘ fun p => (numB p.data.toList).getD 0) ps) ++ [.int .i64 n] := by
          rw [List.map_map, List.map_take, List.take_succ_eq_append_getElem (by simpa using hlt)]
          simp [HN.out]
         rw [e]
         exact ho1
        have HO2 := Lib.hid ho2
        have HBX : Hid (Below w.heap.size w w3) := (HB.out.alloc hsz _).grown hg1 (by simp; omega) (fun b e => Nat.le_trans hs1 (HO.out.lt b e).1)
        have HBY : Hid (Below w1.heap.size w1 w3) := (HB3.out.alloc hs2 _).grown hg1 (by simp; omega) (fun b e => (HO.out.lt b e).1)
        have hs3 : w1.heap.size ≤ w3.heap.size := HBY.out.size
        clear ho1 ho2 hg1
        go_wp2
        go_roundw
        case rel => exact ⟨j + 1, by omega, by go_num, HBX.out, hs3, HBY.out, HO2.out, fun q h h' => by
         by_cases e : q = j
         ·subst e; unfold numOk; rw [HN.out]; exact HIN.out
         ·exact HA2.out q h (by omega)⟩
        case measure => simp [intOf]; omega
     ·obtain rfl : j = ps.length := by omega
      have hall : (ps.map (fun s => s.data.toList)).all numOk = true := by
       rw [List.all_eq_true]
       intro x hx
       obtain ⟨p, hp, rfl⟩ := List.mem_map.1 hx
       obtain ⟨q, hq, rfl⟩ := List.mem_iff_getElem.1 hp
       exact HA2.out q hq hq
      have HLK : Hid (labelOk s.data.toList = decide ((ps.length : Int) ≤ 2)) := by
       unfold Hid
       rw [HOK.out, HB1.out, HL41.out, ← HPS.out, hall, List.length_map]
       simp only [Bool.true_and]
       congr 1
       exact propext (by omega)
      have hvl : labelVals s.data.toList = (ps.take ps.length).map fun p => (numB p.data.toList).getD 0 := by
       rw [HV.out, ← HPS.out, List.take_length, List.map_map]; rfl
      have HVL := Lib.hid hvl
      clear hall hvl hrow
      obtain ⟨av, cv, hv, -, -⟩ := owns_slice HO.out
      subst hv
      go_wp2_with fail
      go_ret2
      exact ⟨_, by rw [HLK.out]; rfl, HB.out, fun _ => by rw [HVL.out, List.length_map, List.take_length]; exact own_lower (by have := HO.out; rw [List.take_length] at this; exact this) hs1⟩
   ·have hc' : ((s[s.size - 1].toNat : Int) == 41) = false := by simpa using hc
    have hc'' : (!((s[s.size - 1].toNat : Int) == 41)) = true := by rw [hc']; rfl
    have hl41 : (s.data.toList.getLast? == some 41) = false := by
     rw [last_data hpos]
     have := u8_ne (n := 41) (b := 41) rfl hc'
     simpa using this
    have HL41 := Lib.hid hl41
    clear hl41 hc
    go_enter Tryz.func76, Tryz.ntmps76
    go_wp2_with fail
    refine (l01Open_any _ _ hs).mono ?_
    rintro e w' ⟨rfl, rfl⟩
    rw [HK.out]
    go_wp2_with fail
    refine (l01Action_any _ _).mono ?_
    rintro e w' ⟨rfl, rfl⟩
    rw [HA.out, HB1.out]
    go_wp2_with fail
    go_ret2
    have : labelOk s.data.toList = false := by rw [HOK.out, HL41.out]; simp
    exact ⟨.slice none 0 0, by rw [this]; rfl, Below.refl _ _, fun h => by rw [this] at h; cases h⟩

theorem l01Label_any (s : ByteArray) (w : World) (hs : s.size ≤ 1073741824) : Calls Tryz.prog 62 #[.string s] w fun e w' => e = .returned (.bool (labelOk s.data.toList)) ∧ Below w.heap.size w w' := by
 go_enter Tryz.func62, Tryz.ntmps62
 go_wp2_with fail
 refine (l01Values_any _ _ hs).mono ?_
 rintro e w' ⟨v, rfl, hb, -⟩
 go_wp2_with fail
 go_ret
 exact ⟨rfl, hb⟩

end Go.Proofs.YtifoinannefcpaaGreatDoor

namespace Go.Proofs.YtifoinannefcpaaGreatDoor
open Go Go.RowKit

def tauB : List UInt8 := [116, 97, 117]
def strLess (a b : ByteArray) : Bool := Op.bytesLess a.toList b.toList

/-- Labels: tau, then others that are labels, strictly increasing. -/
structure LabelsOk (ls : List ByteArray) : Prop where
 pos : 0 < ls.length
 most : ls.length ≤ 12
 first : ∀ h : 0 < ls.length, ls[0].toList = tauB
 label : ∀ i (h : i < ls.length), 1 ≤ i → labelOk ls[i].data.toList = true
 other : ∀ i (h : i < ls.length), 1 ≤ i → ls[i].toList ≠ tauB
 rise : ∀ i (h : i + 1 < ls.length), 1 ≤ i → strLess ls[i] ls[i + 1] = true

def edgeLess (a b : Edge) : Bool :=
 if a.src ≠ b.src then decide (a.src < b.src) else if a.lab ≠ b.lab then decide (a.lab < b.lab) else decide (a.dst < b.dst)

structure EdgeOk (t : Lts) (e : Edge) : Prop where
 s0 : 0 ≤ e.src
 s1 : e.src < t.states
 d0 : 0 ≤ e.dst
 d1 : e.dst < t.states
 l0 : 0 ≤ e.lab
 l1 : e.lab < t.labels.length

structure Valid (t : Lts) : Prop where
 st0 : 1 ≤ t.states
 st1 : t.states ≤ 40
 in0 : 0 ≤ t.initial
 in1 : t.initial < t.states
 labels : LabelsOk t.labels
 most : t.edges.length ≤ 300
 edge : ∀ i (h : i < t.edges.length), EdgeOk t t.edges[i]
 rise : ∀ i (h : i + 1 < t.edges.length), edgeLess t.edges[i] t.edges[i + 1] = true

/-- A function that answers whether something holds, and turns nothing that was there. -/
def Decides (p : Prop) (w : World) (e : Ending) (w' : World) : Prop := ∃ b : Bool, e = .returned (.bool b) ∧ (b = true ↔ p) ∧ Below w.heap.size w w'

theorem Decides.yes {P : Program} {f : FuncId} {args : Array Value} {w : World} {p : Prop} (h : Calls P f args w (Decides p w)) (hp : p) :
  Calls P f args w fun e w' => e = .returned (.bool true) ∧ Below w.heap.size w w' :=
 h.mono fun _ _ ⟨_, he, hb, hw⟩ => ⟨by rw [he, hb.2 hp], hw⟩
theorem Decides.no {P : Program} {f : FuncId} {args : Array Value} {w : World} {p : Prop} (h : Calls P f args w (Decides p w)) (hp : ¬ p) :
  Calls P f args w fun e w' => e = .returned (.bool false) ∧ Below w.heap.size w w' :=
 h.mono fun _ _ ⟨b, he, hb, hw⟩ => ⟨by rw [he, show b = false from Bool.eq_false_iff.2 fun h => hp (hb.1 h)], hw⟩

/-- A pointer to a system: its four cells, and its two slices. -/
def LtsPtr (lo : Nat) (w : World) (b : Nat) (t : Lts) : Prop :=
 ∃ lv ev, b < w.heap.size ∧ w.cell? ⟨b, 0, none⟩ = some (.int .i64 t.states) ∧ w.cell? ⟨b, 1, none⟩ = some (.int .i64 t.initial) ∧ w.cell? ⟨b, 2, none⟩ = some lv ∧ w.cell? ⟨b, 3, none⟩ = some ev
  ∧ SliceK 1 encS lo w lv t.labels ∧ SliceK 3 encE lo w ev t.edges

theorem LtsPtr.below {lo : Nat} {w w' : World} {b : Nat} {t : Lts} (h : LtsPtr lo w b t) (hb : Below w.heap.size w w') : LtsPtr lo w' b t := by
 obtain ⟨lv, ev, h1, h2, h3, h4, h5, h6, h7⟩ := h
 exact ⟨lv, ev, Nat.lt_of_lt_of_le h1 hb.size, keeps hb h1 h2, keeps hb h1 h3, keeps hb h1 h4, keeps hb h1 h5, h6.below hb, h7.below hb⟩

def EdgeCells (w : World) (b o : Nat) (e : Edge) : Prop :=
 w.cell? ⟨b, o, none⟩ = some (.int .i64 e.src) ∧ w.cell? ⟨b, o + 1, none⟩ = some (.int .i64 e.lab) ∧ w.cell? ⟨b, o + 2, none⟩ = some (.int .i64 e.dst)

/-- No text among the labels is longer than 2^30. -/
def Short (ss : List ByteArray) : Prop := ∀ i (h : i < ss.length), ss[i].size ≤ 1073741824

end Go.Proofs.YtifoinannefcpaaGreatDoor
