/-
  What the implementation's functions on texts compute.
-/
import Derived.Test.YtkffdamgekoifaaGreatDoorSpec5
namespace Go.Proofs.YtkffdamgekoifaaGreatDoor
open Go Go.RowKit

theorem isDigit_any (c : UInt8) (w : World) : Calls Tryz.prog 93 #[.int .u8 (c.toNat : Int)] w fun e w' => e = .returned (.bool (digit c)) ∧ w = w' := by
  by_cases h : 48 ≤ (c.toNat : Int)
  · have hf : Hid (digit c = decide ((c.toNat : Int) ≤ 57)) := by unfold Hid digit; rw [decide_eq_true h, Bool.true_and]
    go_enter Tryz.func93, Tryz.ntmps93
    go_wp2
    go_ret
    exact ⟨ret_bool hf.out.symm, rfl⟩
  · have hf : Hid (digit c = false) := by unfold Hid digit; rw [decide_eq_false h, Bool.false_and]
    go_enter Tryz.func93, Tryz.ntmps93
    go_wp2
    go_ret
    exact ⟨ret_bool hf.out.symm, rfl⟩

theorem isName_all {s : ByteArray} (h0 : 0 < s.size) (hb : small s[0] = true) (ha : ∀ j (h : j < s.size), okc s[j] = true) : isName s.data.toList = decide ((s.size : Int) ≤ 10) := by
  by_cases h : 10 < s.size
  · rw [isName_long (by rw [len_data]; exact h), decide_eq_false (by omega)]
  · rw [isName_good h0 h hb ha, decide_eq_true (by omega)]

set_option maxHeartbeats 1000000 in
theorem IsName_any (s : ByteArray) (w : World) (hs : s.size ≤ 1073741824) : Calls Tryz.prog 79 #[.string s] w fun e w' => e = .returned (.bool (isName s.data.toList)) ∧ w = w' := by
  go_enter Tryz.func79, Tryz.ntmps79
  go_wp2_with fail
  go_loop [7] (fun i => ∃ k : Nat, k ≤ s.size ∧ i = .int .i64 k ∧ (∀ j (h : j < s.size), j < k → okc s[j] = true) ∧ ∀ h : 0 < s.size, 0 < k → small s[0] = true) (fun i => s.size - (intOf i).toNat)
  case atStart => exact ⟨0, Nat.zero_le _, rfl, (fun _ _ h => by omega), fun _ h => by omega⟩
  case round =>
    obtain ⟨k, hk, rfl, ha, hs0⟩ := hrel
    have HA := Lib.hid ha
    have HS := Lib.hid hs0
    clear ha hs0
    by_cases hlt : k < s.size
    · have hc : ∃ b, small s[k] = b := ⟨_, rfl⟩
      obtain ⟨b, hb⟩ := hc
      have HB := Lib.hid hb
      unfold small at hb
      have hcs : b = true → (97 ≤ (s[k].toNat : Int) ∧ (s[k].toNat : Int) ≤ 122) := by rintro rfl; simpa using hb
      cases b
      · clear hcs
        by_cases h1 : 97 ≤ (s[k].toNat : Int)
        · have h2 : ¬ (s[k].toNat : Int) ≤ 122 := by simpa [h1] using hb
          clear hb
          by_cases hk0 : k = 0
          · subst hk0
            have HF : Hid (isName s.data.toList = false) := isName_head hlt HB.out
            go_wp2_with fail
            go_ret
            exact ⟨ret_bool HF.out.symm, rfl⟩
          · have hk1 : ((k : Int) == 0) = false := by rw [beq_eq_false_iff_ne]; omega
            obtain ⟨d, hd⟩ : ∃ b, digit s[k] = b := ⟨_, rfl⟩
            have HD := Lib.hid hd
            clear hd
            go_wp2_with fail
            refine (isDigit_any _ _).mono ?_
            rintro e w' ⟨rfl, rfl⟩
            rw [HD.out]
            cases d
            · go_wp2_with fail
              go_ret
              exact ⟨ret_bool (isName_bad hlt HB.out HD.out).symm, rfl⟩
            · go_wp2_with fail
              go_round
              case rel => exact ⟨k + 1, by omega, by go_num, (fun j h hj => by
                by_cases e : j = k
                · subst e; simp [okc, HD.out]
                · exact HA.out j h (by omega)), fun h _ => HS.out h (by omega)⟩
              case measure => simp [intOf]; omega
        · clear hb
          by_cases hk0 : k = 0
          · subst hk0
            have HF : Hid (isName s.data.toList = false) := isName_head hlt HB.out
            go_wp2_with fail
            go_ret
            exact ⟨ret_bool HF.out.symm, rfl⟩
          · have hk1 : ((k : Int) == 0) = false := by rw [beq_eq_false_iff_ne]; omega
            obtain ⟨d, hd⟩ : ∃ b, digit s[k] = b := ⟨_, rfl⟩
            have HD := Lib.hid hd
            clear hd
            go_wp2_with fail
            refine (isDigit_any _ _).mono ?_
            rintro e w' ⟨rfl, rfl⟩
            rw [HD.out]
            cases d
            · go_wp2_with fail
              go_ret
              exact ⟨ret_bool (isName_bad hlt HB.out HD.out).symm, rfl⟩
            · go_wp2_with fail
              go_round
              case rel => exact ⟨k + 1, by omega, by go_num, (fun j h hj => by
                by_cases e : j = k
                · subst e; simp [okc, HD.out]
                · exact HA.out j h (by omega)), fun h _ => HS.out h (by omega)⟩
              case measure => simp [intOf]; omega
      · obtain ⟨h1, h2⟩ := hcs rfl
        clear hcs hb
        go_wp2_with fail
        go_round
        case rel => exact ⟨k + 1, by omega, by go_num, (fun j h hj => by
          by_cases e : j = k
          · subst e; simp [okc, HB.out]
          · exact HA.out j h (by omega)), fun h _ => by
            by_cases e : k = 0
            · subst e; exact HB.out
            · exact HS.out h (by omega)⟩
        case measure => simp [intOf]; omega
    · obtain rfl : k = s.size := by omega
      clear hlt hk
      by_cases h0 : 0 < s.size
      · have HF : Hid (isName s.data.toList = decide ((s.size : Int) ≤ 10)) := isName_all h0 (HS.out h0 h0) (fun j h => HA.out j h h)
        have h01 : 1 ≤ (s.size : Int) := by omega
        go_wp2_with fail
        go_ret
        exact ⟨ret_bool HF.out.symm, rfl⟩
      · have HF : Hid (isName s.data.toList = false) := by
          have : s.data.toList = [] := List.eq_nil_of_length_eq_zero (by rw [len_data]; omega)
          unfold Hid; rw [this]; rfl
        have h01 : ¬ 1 ≤ (s.size : Int) := by omega
        go_wp2_with fail
        go_ret
        exact ⟨ret_bool HF.out.symm, rfl⟩

theorem within_any (n lo hi : Int) (w : World) : Calls Tryz.prog 70 #[.int .i64 n, .int .i64 lo, .int .i64 hi] w fun e w' => e = .returned (.bool (decide (lo ≤ n) && decide (n ≤ hi))) ∧ w = w' := by
  by_cases h : lo ≤ n
  · have hf : Hid ((decide (lo ≤ n) && decide (n ≤ hi)) = decide (n ≤ hi)) := by unfold Hid; rw [decide_eq_true h, Bool.true_and]
    go_enter Tryz.func70, Tryz.ntmps70
    go_wp2
    go_ret
    exact ⟨ret_bool hf.out.symm, rfl⟩
  · have hf : Hid ((decide (lo ≤ n) && decide (n ≤ hi)) = false) := by unfold Hid; rw [decide_eq_false h, Bool.false_and]
    go_enter Tryz.func70, Tryz.ntmps70
    go_wp2
    go_ret
    exact ⟨ret_bool hf.out.symm, rfl⟩

theorem index_any (n m : Int) (w : World) (h1 : -9223372036854775807 ≤ m) (h2 : m ≤ 9223372036854775807) : Calls Tryz.prog 72 #[.int .i64 n, .int .i64 m] w fun e w' => e = .returned (.bool (decide (0 ≤ n) && decide (n ≤ m - 1))) ∧ w = w' := by
  go_enter Tryz.func72, Tryz.ntmps72
  go_wp2_with fail
  refine (within_any _ _ _ _).mono ?_
  rintro e w' ⟨rfl, rfl⟩
  go_wp2_with fail
  go_ret
  exact ⟨rfl, rfl⟩

theorem isValue_any (n : Int) (w : World) : Calls Tryz.prog 124 #[.int .i64 n] w fun e w' => e = .returned (.bool (decide (0 ≤ n) && decide (n ≤ 63))) ∧ w = w' := by
  go_enter Tryz.func124, Tryz.ntmps124
  go_wp2_with fail
  refine (within_any _ _ _ _).mono ?_
  rintro e w' ⟨rfl, rfl⟩
  go_wp2_with fail
  go_ret
  exact ⟨rfl, rfl⟩

theorem IsAction_any (s : ByteArray) (w : World) (hs : s.size ≤ 1073741824) : Calls Tryz.prog 69 #[.string s] w fun e w' => e = .returned (.bool (isAction s.data.toList)) ∧ w = w' := by
  have hc : ∃ b, isName s.data.toList = b := ⟨_, rfl⟩
  obtain ⟨b, hb⟩ := hc
  cases b
  · have HF : Hid (isAction s.data.toList = false) := by unfold Hid isAction; rw [hb]; rfl
    have HB := Lib.hid hb
    clear hb
    go_enter Tryz.func69, Tryz.ntmps69
    go_wp2_with fail
    refine (IsName_any _ _ hs).mono ?_
    rintro e w' ⟨rfl, rfl⟩
    rw [HB.out]
    go_wp2_with fail
    go_ret
    exact ⟨ret_bool HF.out.symm, rfl⟩
  · have HF : Hid (isAction s.data.toList = !(s.toList == tauL)) := by unfold Hid isAction; rw [hb, Lib.toList_data]; rfl
    have HB := Lib.hid hb
    clear hb
    go_enter Tryz.func69, Tryz.ntmps69
    go_wp2_with fail
    refine (IsName_any _ _ hs).mono ?_
    rintro e w' ⟨rfl, rfl⟩
    rw [HB.out]
    go_wp2_with fail
    go_ret
    exact ⟨ret_bool HF.out.symm, rfl⟩

end Go.Proofs.YtkffdamgekoifaaGreatDoor
