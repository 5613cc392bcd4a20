/-
  Plain laws: the implementation's reading of a label says what the plain definition says.
-/
import Derived.Test.YtkffdamgekoifaaGreatDoorImpl7
import Derived.Test.YtkffdamgekoifaaGreatDoorDec
import Derived.Lib.IndexBytes
namespace Go.Proofs.YtkffdamgekoifaaGreatDoor
open Go Go.RowKit

theorem hasSuffix_one (l : List UInt8) (c : UInt8) : Lib.hasSuffix l [c] = (l.getLast? == some c) := by
  unfold Lib.hasSuffix List.isSuffixOf
  rw [← List.head?_reverse]
  cases l.reverse with
  | nil => rfl
  | cons a r =>
    show (c == a && true) = (some a == some c)
    rw [Bool.and_true]
    by_cases h : a = c
    · subst h; simp
    · rw [beq_eq_false_iff_ne.2 (fun e => h e.symm), beq_eq_false_iff_ne.2 (fun e => h (by simpa using e))]

theorem indexByte_find (c : UInt8) : ∀ l : List UInt8, Lib.indexByte l c = if l.findIdx (fun x => x == c) < l.length then ((l.findIdx (fun x => x == c) : Nat) : Int) else -1
  | [] => rfl
  | x :: r => by
    unfold Lib.indexByte
    rw [indexByte_find c r, List.findIdx_cons]
    obtain ⟨n, hn⟩ : ∃ n, n = r.findIdx (fun x => x == c) := ⟨_, rfl⟩
    rw [← hn]
    cases hx : (x == c)
    · simp only [Bool.false_eq_true, if_false, cond_false, List.length_cons]
      by_cases h : n < r.length
      · have h1 : n + 1 < r.length + 1 := by omega
        have h2 : ((n : Int) == -1) = false := by rw [beq_eq_false_iff_ne]; omega
        simp only [h, h1, h2, if_true, Bool.false_eq_true, if_false]
        omega
      · have h1 : ¬ n + 1 < r.length + 1 := by omega
        simp only [h, h1, if_false, beq_self_eq_true, if_true]
    · simp

theorem index_find (c : UInt8) (l : List UInt8) : Lib.index l [c] = if l.findIdx (fun x => x == c) < l.length then ((l.findIdx (fun x => x == c) : Nat) : Int) else -1 := by
  rw [Lib.index_one, indexByte_find]

theorem splitK_eq (c : UInt8) : ∀ (k : Nat) (l : List UInt8), Lib.count l [c] = k → Lib.splitK [c] 0 k l = splitAt c l := by
  intro k
  induction k with
  | zero =>
    intro l hk
    by_cases h : l.findIdx (fun x => x == c) < l.length
    · have := Lib.count_hit (s := l) (sub := [c]) (i := l.findIdx (fun x => x == c)) (by simp) (by rw [index_find, if_pos h])
      omega
    · rw [splitAt_none (List.findIdx_eq_length.1 (Nat.le_antisymm List.findIdx_le_length (by omega)))]
      rfl
  | succ k ih =>
    intro l hk
    by_cases h : l.findIdx (fun x => x == c) < l.length
    · have hi := Lib.count_hit (s := l) (sub := [c]) (i := l.findIdx (fun x => x == c)) (by simp) (by rw [index_find, if_pos h])
      have hs := split_step (c := c) (l := l) (m := 0) (k := l.findIdx (fun x => x == c)) (Nat.zero_le _) h (fun j hj _ hlt => by simpa using List.not_of_lt_findIdx hlt) (List.findIdx_getElem (w := h))
      rw [List.drop_zero, Nat.sub_zero] at hs
      rw [hs]
      unfold Lib.splitK
      rw [index_find, if_pos h, if_neg (by rw [beq_iff_eq]; omega)]
      simp only [Int.toNat_natCast, Nat.add_zero, List.length_singleton]
      rw [ih _ (by simp only [List.length_singleton] at hi; omega)]
    · rw [Lib.count_miss (by rw [index_find, if_neg h])] at hk
      omega

theorem join_splitAt (c : UInt8) : ∀ l : List UInt8, Lib.join (splitAt c l) [c] = l
  | [] => by simp [splitAt, Lib.join_one]
  | x :: r => by
    have ih := join_splitAt c r
    unfold splitAt
    cases hs : splitAt c r with
    | nil => exact absurd hs (splitAt_ne c r)
    | cons p ps =>
      rw [hs, Lib.join_cons] at ih
      simp only
      split
      · next h =>
        rw [Lib.join_cons, Lib.joinTail, List.map_cons, List.flatten_cons, ← Lib.joinTail]
        rw [beq_iff_eq.1 h, ← ih]
        simp
      · rw [Lib.join_cons, ← ih]; simp

theorem partsB_eq (rest : List UInt8) : (partsB rest).map (fun s => s.data.toList) = splitAt 44 (Lib.trimSuffix rest [41]) := by
  unfold partsB
  rw [Lib.splitB_data]
  exact splitK_eq 44 _ _ rfl

theorem numB_itoa {l : List UInt8} {n : Int} (h : numB l = some n) : Lib.itoa n = l := by
  rw [← readDec_eq] at h
  unfold readDec at h
  split at h
  · cases h
  · split at h
    · split at h
      · next he => cases h; exact he
      · cases h
    · cases h

theorem decs_eq (ss : List ByteArray) : decs ss = (ss.map (fun s => s.data.toList)).map fun p => (numB p).getD 0 := by
  unfold decs
  rw [List.map_map]
  exact List.map_congr_left fun s _ => by simp [readDec_eq]
theorem decsOk_eq (ss : List ByteArray) : decsOk ss = (ss.map (fun s => s.data.toList)).all fun p => (numB p).isSome := by
  unfold decsOk
  rw [List.all_map]
  congr 1
  funext s
  simp [readDec_eq]

theorem words_join {ps : List (List UInt8)} (h : (ps.all fun p => (numB p).isSome) = true) : (wordsOf (ps.map fun p => (numB p).getD 0)).map (·.data.toList) = ps := by
  unfold wordsOf
  rw [List.map_map, List.map_map]
  conv => rhs; rw [← List.map_id ps]
  refine List.map_congr_left fun p hp => ?_
  have h1 := List.all_eq_true.1 h p hp
  obtain ⟨n, hn⟩ := Option.isSome_iff_exists.1 h1
  simp [hn, numB_itoa hn]

theorem numOk_eq (p : List UInt8) : numOk p = ((numB p).isSome && isVal ((numB p).getD 0)) := by
  unfold numOk isVal
  cases numB p <;> simp

theorem all_numOk (ps : List (List UInt8)) : ps.all numOk = ((ps.all fun p => (numB p).isSome) && (ps.map fun p => (numB p).getD 0).all isVal) := by
  induction ps with
  | nil => rfl
  | cons p r ih =>
    simp only [List.all_cons, List.map_cons, ih, numOk_eq]
    cases (numB p).isSome <;> simp [Bool.and_left_comm]

theorem cut_eq (l : List UInt8) : Lib.cut l [40] = if openAt l < l.length then (l.take (openAt l), l.drop (openAt l + 1), true) else (l, [], false) := by
  unfold Lib.cut
  rw [index_find]
  unfold openAt
  by_cases h : l.findIdx (fun x => x == 40) < l.length
  · rw [if_pos h, if_pos (by omega), if_pos h]
    simp
  · rw [if_neg h, if_neg (by omega), if_neg h]

theorem isName_tau : isName tauL = true := by decide
theorem isAction_tau : isAction tauL = false := by decide

/-- What the implementation says of a label is what the plain definition says. -/
theorem readOk_eq (l : List UInt8) : readOk l = labelOk l := by
  unfold readOk labelOk
  rw [cut_eq]
  have hle := openAt_le l
  by_cases h : openAt l < l.length
  · rw [if_pos h, if_neg (show ¬ openAt l = l.length by omega)]
    simp only [if_true]
    have hget := openAt_get h
    have hl : l.take (openAt l) ++ 40 :: l.drop (openAt l + 1) = l := by
      rw [← hget, ← List.drop_eq_getElem_cons h, List.take_append_drop]
    rw [decs_eq, decsOk_eq, partsB_eq]
    obtain ⟨name, hname⟩ : ∃ x, x = l.take (openAt l) := ⟨_, rfl⟩
    obtain ⟨rest, hrest⟩ : ∃ x, x = l.drop (openAt l + 1) := ⟨_, rfl⟩
    have hrl : rest.length = l.length - 1 - openAt l := by rw [hrest, List.length_drop]; omega
    have hlast : l.getLast? = if rest = [] then some 40 else rest.getLast? := by
      conv => lhs; rw [← hl, ← hrest]
      rw [List.getLast?_append]
      cases rest with
      | nil => rfl
      | cons a r => simp [List.getLast?_cons]
    rw [← hname, ← hrest]
    rw [← hname, ← hrest] at hl
    obtain ⟨Q, hQ⟩ : ∃ Q, Q = splitAt 44 (Lib.trimSuffix rest [41]) := ⟨_, rfl⟩
    have hQne : Q ≠ [] := by rw [hQ]; exact splitAt_ne _ _
    rw [← hQ]
    by_cases h41 : l.getLast? = some 41
    · have hr41 : rest.getLast? = some 41 := by
        rw [hlast] at h41
        split at h41
        · cases h41
        · exact h41
      have htrim : Lib.trimSuffix rest [41] = rest.take (rest.length - 1) := by
        unfold Lib.trimSuffix
        rw [hasSuffix_one, hr41, if_pos (by rfl)]
        rfl
      have hback : Lib.trimSuffix rest [41] ++ [41] = rest := by
        rw [htrim]
        have hne : rest ≠ [] := fun e => by rw [e] at hr41; cases hr41
        rw [← List.dropLast_eq_take]
        have : rest.getLast hne = 41 := by rw [List.getLast?_eq_some_getLast hne] at hr41; simpa using hr41
        have h9 := List.dropLast_concat_getLast hne
        rw [this] at h9
        exact h9
      have hparts : labelParts l = Q := by
        unfold labelParts
        rw [← hrest, hQ, htrim, hrl]
        congr 2
      rw [hparts, h41, all_numOk]
      cases hok : (Q.all fun p => (numB p).isSome) with
      | false => simp
      | true =>
        have htxt : labTxt name (Q.map fun p => (numB p).getD 0) = l := by
          unfold labTxt
          rw [words_join hok, if_neg (by simpa using hQne), hQ, join_splitAt, hback, hl]
        rw [htxt]
        unfold labB
        by_cases hn : name = tauL
        · rw [if_pos hn, hn, isAction_tau]
          have : (Q.map fun p => (numB p).getD 0).isEmpty = false := by simpa using hQne
          rw [this]; simp
        · rw [if_neg hn]
          simp only [List.length_map]
          cases isAction name <;> cases ((Q.map fun p => (numB p).getD 0).all isVal) <;> simp
    · have h41' : (l.getLast? == some 41) = false := by simpa using h41
      rw [h41']
      simp only [Bool.false_and, Bool.and_false]
      cases hok : (Q.all fun p => (numB p).isSome) with
      | false => simp
      | true =>
        have hr41 : rest.getLast? ≠ some 41 := by
          intro e
          apply h41
          rw [hlast, if_neg (fun e2 => by rw [e2] at e; cases e)]
          exact e
        have htrim : Lib.trimSuffix rest [41] = rest := by
          unfold Lib.trimSuffix
          rw [hasSuffix_one, if_neg (by simpa using hr41)]
        have htxt : labTxt name (Q.map fun p => (numB p).getD 0) ≠ l := by
          unfold labTxt
          rw [words_join hok, if_neg (by simpa using hQne), hQ, join_splitAt, htrim]
          intro e
          have := congrArg List.length e
          rw [← hl] at this
          simp at this
        rw [decide_eq_false htxt]
        simp
  · have he : openAt l = l.length := by omega
    rw [if_neg h, if_pos he]
    simp only [Bool.false_eq_true, if_false, decide_true, Bool.and_true]
    unfold labB
    by_cases ht : l = tauL
    · rw [if_pos ht, ht]; rfl
    · rw [if_neg ht]
      unfold isAction
      have : (l == tauL) = false := by simpa using ht
      rw [this]
      simp

end Go.Proofs.YtkffdamgekoifaaGreatDoor
