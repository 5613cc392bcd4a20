/-
  What the reference's functions on texts and labels compute.
-/
import Derived.Test.YtkffdamgekoifaaGreatDoorRows
import Derived.Test.YtkffdamgekoifaaGreatDoorText
namespace Go.Proofs.YtkffdamgekoifaaGreatDoor
open Go Go.RowKit

theorem l01Small_any (c : UInt8) (w : World) : Calls Tryz.prog 89 #[.int .u8 (c.toNat : Int)] w fun e w' => e = .returned (.bool (small c)) ∧ w = w' := by
  by_cases h : 97 ≤ (c.toNat : Int)
  · have hf : Hid (small c = decide ((c.toNat : Int) ≤ 122)) := by unfold Hid small; rw [decide_eq_true h, Bool.true_and]
    go_enter Tryz.func89, Tryz.ntmps89
    go_wp2
    go_ret
    exact ⟨ret_bool hf.out.symm, rfl⟩
  · have hf : Hid (small c = false) := by unfold Hid small; rw [decide_eq_false h, Bool.false_and]
    go_enter Tryz.func89, Tryz.ntmps89
    go_wp2
    go_ret
    exact ⟨ret_bool hf.out.symm, rfl⟩

theorem l01Digit_any (c : UInt8) (w : World) : Calls Tryz.prog 90 #[.int .u8 (c.toNat : Int)] w fun e w' => e = .returned (.bool (digit c)) ∧ w = w' := by
  by_cases h : 48 ≤ (c.toNat : Int)
  · have hf : Hid (digit c = decide ((c.toNat : Int) ≤ 57)) := by unfold Hid digit; rw [decide_eq_true h, Bool.true_and]
    go_enter Tryz.func90, Tryz.ntmps90
    go_wp2
    go_ret
    exact ⟨ret_bool hf.out.symm, rfl⟩
  · have hf : Hid (digit c = false) := by unfold Hid digit; rw [decide_eq_false h, Bool.false_and]
    go_enter Tryz.func90, Tryz.ntmps90
    go_wp2
    go_ret
    exact ⟨ret_bool hf.out.symm, rfl⟩

set_option maxHeartbeats 400000 in
theorem l01Name_any (s : ByteArray) (w : World) : Calls Tryz.prog 77 #[.string s] w fun e w' => e = .returned (.bool (isName s.data.toList)) ∧ w = w' := by
  by_cases h0 : s.toList = []
  · have hf : Hid (isName s.data.toList = false) := by
      unfold Hid
      rw [Lib.toList_data] at h0
      rw [h0]; rfl
    go_enter Tryz.func77, Tryz.ntmps77
    go_wp2_with fail
    go_ret
    exact ⟨ret_bool hf.out.symm, rfl⟩
  · have hpos : 0 < s.size := by
      rw [Lib.toList_data] at h0
      rw [← len_data]
      exact List.length_pos_iff.2 h0
    have h0' : (!s.toList.isEmpty) = true := by simpa using h0
    have h0'' : s.toList.isEmpty = false := by simpa using h0
    by_cases h1 : 10 < s.size
    · have hf : Hid (isName s.data.toList = false) := isName_long (by rw [len_data]; exact h1)
      go_enter Tryz.func77, Tryz.ntmps77
      go_wp2_with fail
      go_ret
      exact ⟨ret_bool hf.out.symm, rfl⟩
    · have h1' : decide (10 < (s.size : Int)) = false := by simp; omega
      have hc : ∃ b, small s[0] = b := ⟨_, rfl⟩
      obtain ⟨b, hb⟩ := hc
      cases b
      · have hf : Hid (isName s.data.toList = false) := isName_head hpos hb
        have HB := Lib.hid hb
        clear hb
        go_enter Tryz.func77, Tryz.ntmps77
        go_wp2_with fail
        refine (l01Small_any _ _).mono ?_
        rintro e w' ⟨rfl, rfl⟩
        rw [HB.out]
        go_wp2_with fail
        go_ret
        exact ⟨ret_bool hf.out.symm, rfl⟩
      · have HB := Lib.hid hb
        clear hb
        go_enter Tryz.func77, Tryz.ntmps77
        go_wp2_with fail
        refine (l01Small_any _ _).mono ?_
        rintro e w' ⟨rfl, rfl⟩
        rw [HB.out]
        go_wp2_with fail
        go_loop [3] (fun i => ∃ k : Nat, k ≤ s.size ∧ i = .int .i64 k ∧ ∀ j (h : j < s.size), j < k → okc s[j] = true) (fun i => s.size - (intOf i).toNat)
        case atStart => exact ⟨0, Nat.zero_le _, rfl, fun _ _ h => by omega⟩
        case round =>
          obtain ⟨k, hk, rfl, ha⟩ := hrel
          have HA := Lib.hid ha
          clear ha
          by_cases hlt : k < s.size
          · go_wp2_with fail
            refine (l01Small_any _ _).mono ?_
            rintro e w' ⟨rfl, rfl⟩
            have hc : ∃ b, small s[k] = b := ⟨_, rfl⟩
            obtain ⟨b, hb⟩ := hc
            rw [hb]
            have HB1 := Lib.hid hb
            clear hb
            cases b
            · go_wp2_with fail
              refine (l01Digit_any _ _).mono ?_
              rintro e w' ⟨rfl, rfl⟩
              have hc : ∃ b, digit s[k] = b := ⟨_, rfl⟩
              obtain ⟨b, hb⟩ := hc
              rw [hb]
              have HB2 := Lib.hid hb
              clear hb
              cases b
              · go_wp2_with fail
                go_ret
                exact ⟨ret_bool (isName_bad hlt HB1.out HB2.out).symm, rfl⟩
              · go_wp2_with fail
                go_round
                case rel => exact ⟨k + 1, by omega, by go_num, fun j h hj => by
                  by_cases e : j = k
                  · subst e; simp [okc, HB2.out]
                  · exact HA.out j h (by omega)⟩
                case measure => simp [intOf]; omega
            · go_wp2_with fail
              go_round
              case rel => exact ⟨k + 1, by omega, by go_num, fun j h hj => by
                by_cases e : j = k
                · subst e; simp [okc, HB1.out]
                · exact HA.out j h (by omega)⟩
              case measure => simp [intOf]; omega
          · go_wp2_with fail
            go_ret
            exact ⟨ret_bool (isName_good hpos h1 HB.out (fun j h => HA.out j h (by omega))).symm, rfl⟩

theorem l01Action_any (s : ByteArray) (w : World) : Calls Tryz.prog 66 #[.string s] w fun e w' => e = .returned (.bool (isAction s.data.toList)) ∧ w = w' := by
  have hc : ∃ b, isName s.data.toList = b := ⟨_, rfl⟩
  obtain ⟨b, hb⟩ := hc
  cases b
  · have HF : Hid (isAction s.data.toList = false) := by unfold Hid isAction; rw [hb]; rfl
    have HB := Lib.hid hb
    clear hb
    go_enter Tryz.func66, Tryz.ntmps66
    go_wp2_with fail
    refine (l01Name_any _ _).mono ?_
    rintro e w' ⟨rfl, rfl⟩
    rw [HB.out]
    go_wp2_with fail
    go_ret
    exact ⟨ret_bool HF.out.symm, rfl⟩
  · have HF : Hid (isAction s.data.toList = !(s.toList == tauL)) := by unfold Hid isAction; rw [hb, Lib.toList_data]; rfl
    have HB := Lib.hid hb
    clear hb
    go_enter Tryz.func66, Tryz.ntmps66
    go_wp2_with fail
    refine (l01Name_any _ _).mono ?_
    rintro e w' ⟨rfl, rfl⟩
    rw [HB.out]
    go_wp2_with fail
    go_ret
    exact ⟨ret_bool HF.out.symm, rfl⟩

theorem l01Open_any (s : ByteArray) (w : World) (hs : s.size ≤ 1073741824) : Calls Tryz.prog 56 #[.string s] w fun e w' => e = .returned (.int .i64 (openAt s.data.toList)) ∧ w = w' := by
  go_enter Tryz.func56, Tryz.ntmps56
  go_wp2
  go_loop [3] (fun i => ∃ k : Nat, k ≤ s.size ∧ i = .int .i64 k ∧ ∀ j (h : j < s.data.toList.length), j < k → (s.data.toList[j] == (40 : UInt8)) = false) (fun i => s.size - (intOf i).toNat)
  case atStart => exact ⟨0, Nat.zero_le _, rfl, fun _ _ h => by omega⟩
  case round =>
    obtain ⟨k, hk, rfl, ha⟩ := hrel
    have HA := Lib.hid ha
    clear ha
    by_cases hlt : k < s.size
    · have hl : k < s.data.toList.length := by rw [len_data]; exact hlt
      by_cases hb : ((s[k].toNat : Int) == 40) = true
      · go_wp2
        go_ret
        refine ⟨ret_int ?_, rfl⟩
        have h40 : s.data.toList[k] = (40 : UInt8) := by
          rw [get_data s k hlt hl]
          have : (s[k].toNat : Int) = 40 := by simpa using hb
          exact UInt8.toNat_inj.1 (by show _ = 40; omega)
        have : openAt s.data.toList = k := (List.findIdx_eq hl).2 ⟨by simp [h40], fun j hj => HA.out j (by omega) hj⟩
        rw [this]
      · have hb' : ((s[k].toNat : Int) == 40) = false := by simpa using hb
        go_wp2
        go_round
        case rel => exact ⟨k + 1, by omega, by go_num, fun j h hj => by
          by_cases e : j = k
          · subst e
            rw [get_data s j hlt hl]
            simp only [beq_eq_false_iff_ne, ne_eq] at hb' ⊢
            intro hc
            rw [hc] at hb'
            exact hb' rfl
          · exact HA.out j h (by omega)⟩
        case measure => simp [intOf]; omega
    · go_wp2
      go_ret
      refine ⟨ret_int ?_, rfl⟩
      have : openAt s.data.toList = s.data.toList.length := by
        unfold openAt
        rw [List.findIdx_eq_length]
        intro x hx
        obtain ⟨j, hj, rfl⟩ := List.mem_iff_getElem.1 hx
        exact HA.out j hj (by rw [len_data] at hj; omega)
      rw [this, len_data]

theorem info_str : (Tryz.prog.info? 9).map (fun i => (i.zero, i.size, i.bytes)) = some (some (.string ⟨#[]⟩), 1, 16) := by kernel_rfl
theorem info_int64 : (Tryz.prog.info? 2).map (fun i => (i.zero, i.size, i.bytes)) = some (some (.int .i64 0), 1, 8) := by kernel_rfl

/-- A slice of texts in memory of the call's own, whose bytes are these. -/
def MadeParts (w : World) (ls : List (List UInt8)) (e : Ending) (w' : World) : Prop :=
  ∃ (v : Value) (ss : List ByteArray), e = .returned v ∧ Below w.heap.size w w' ∧ w'.ownsRow w.heap.size 9 1 v ss.length (ss.map Value.string) ∧ ss.map (fun s => s.data.toList) = ls

set_option maxRecDepth 100000 in
set_option maxHeartbeats 1000000 in
theorem l01Split_any (s : ByteArray) (c : UInt8) (w : World) (hs : s.size ≤ 1073741824) : Calls Tryz.prog 91 #[.string s, .int .u8 (c.toNat : Int)] w (MadeParts w (splitAt c s.data.toList)) := by
  obtain ⟨i0, hi, hz0, hz1, hz2⟩ := info_parts info_str
  go_enter Tryz.func91, Tryz.ntmps91
  go_wp2
  go_loopw [5, 6, 7] (fun v f i wr => ∃ (m k : Nat) (ss : List ByteArray), m ≤ k ∧ k ≤ s.size ∧ i = .int .i64 k ∧ f = .int .i64 m ∧ clean c s.data.toList m k ∧ ss.length ≤ k ∧ Below w.heap.size w wr
      ∧ wr.ownsRow w.heap.size 9 1 v ss.length (ss.map Value.string) ∧ ss.map (fun s => s.data.toList) ++ splitAt c (s.data.toList.drop m) = splitAt c s.data.toList) (fun _ _ i _ => s.size - (intOf i).toNat)
  case atStart =>
    exact ⟨0, 0, [], Nat.le_refl _, Nat.zero_le _, rfl, rfl, fun _ _ _ h => by omega, Nat.le_refl _, (Below.refl _ _).alloc (Nat.le_refl _) _, World.ownsRow_lit (size := 1) w #[] 0 (Nat.le_refl _) (by simp [maxLen]) rfl, by simp⟩
  case round =>
    obtain ⟨m, k, ss, hmk, hk, rfl, rfl, hcl, hsl, hb, ho, hsp⟩ := hrel
    have HC := Lib.hid hcl
    have HS := Lib.hid hsp
    have HB := Lib.hid hb
    have HO := Lib.hid ho
    have hsz := hb.size
    clear hcl hsp hb ho
    by_cases hlt : k < s.size
    · have hl : k < s.data.toList.length := by rw [len_data]; exact hlt
      by_cases hb : ((s[k].toNat : Int) == (c.toNat : Int)) = true
      · have hkc : (s.data.toList[k] == c) = true := by
          rw [get_data s k hlt hl]
          have : (s[k].toNat : Int) = c.toNat := by simpa using hb
          have : s[k] = c := UInt8.toNat_inj.1 (by omega)
          simp [this]
        have HS2 : Hid ((ss ++ [s.extract m k]).map (fun s => s.data.toList) ++ splitAt c (s.data.toList.drop (k + 1)) = splitAt c s.data.toList) := by
          unfold Hid
          rw [← HS.out, split_step hmk hl HC.out hkc, List.map_append, List.append_assoc]
          congr 1
          simp only [List.map_cons, List.map_nil, List.cons_append, List.nil_append, extract_data']
        go_wp2_with (at_builtin; refine wpList_append_own _ rfl _ _ 22 rfl w.heap.size 9 i0 (.string ⟨#[]⟩) 1 16 Tryz.underlying22 hi hz0 hz1 hz2 rfl (by decide) _ _ _ rfl (HO.out.alloc _) ⟨wr.heap.size, 0, none⟩ 1 1 [.string (s.extract m k)] rfl rfl ?c1 ?c2 ?c3 ?c4 ?c5 ?_)
        case c1 => exact (cell_one_new _ _ _)
        case c2 => intro u hu; simp at hu; subst hu; rfl
        case c3 => simp [maxLen]; omega
        case c4 => omega
        case c5 => simp; omega
        intro v' w1 ho1 hg1 _
        have ho2 : w1.ownsRow w.heap.size 9 1 v' (ss ++ [s.extract m k]).length ((ss ++ [s.extract m k]).map Value.string) := by
          simpa using ho1
        have HO2 := Lib.hid ho2
        have HB2 : Hid (Below w.heap.size w w1) := (HB.out.alloc hsz _).grown hg1 (by simp; omega) (fun b e => (HO.out.lt b e).1)
        clear ho1 ho2 hg1
        go_wp2
        go_roundw
        case rel => exact ⟨k + 1, k + 1, ss ++ [s.extract m k], Nat.le_refl _, by omega, by go_num, by go_num, fun _ _ _ h => by omega, by simp; omega, HB2.out, HO2.out, HS2.out⟩
        case measure => simp [intOf]; omega
      · have hb' : ((s[k].toNat : Int) == (c.toNat : Int)) = false := by simpa using hb
        have HC2 : Hid (clean c s.data.toList m (k + 1)) := fun j h h1 h2 => by
          by_cases e : j = k
          · subst e
            rw [get_data s j hlt hl]
            simp only [beq_eq_false_iff_ne, ne_eq] at hb' ⊢
            intro hc
            rw [hc] at hb'
            exact hb' rfl
          · exact HC.out j h h1 (by omega)
        clear hb
        go_wp2
        go_roundw
        case rel => exact ⟨m, k + 1, ss, by omega, by omega, by go_num, rfl, HC2.out, by omega, HB.out, HO.out, HS.out⟩
        case measure => simp [intOf]; omega
    · obtain rfl : k = s.size := by omega
      have HS2 : Hid ((ss ++ [s.extract m s.size]).map (fun s => s.data.toList) = splitAt c s.data.toList) := by
        unfold Hid
        rw [← HS.out, split_end (by rw [len_data]; exact HC.out), List.map_append]
        simp only [List.map_cons, List.map_nil, extract_data']
        rw [List.take_of_length_le (by rw [List.length_drop, len_data]; omega)]
      go_wp2_with (at_builtin; refine wpList_append_own _ rfl _ _ 22 rfl w.heap.size 9 i0 (.string ⟨#[]⟩) 1 16 Tryz.underlying22 hi hz0 hz1 hz2 rfl (by decide) _ _ _ rfl (HO.out.alloc _) ⟨wr.heap.size, 0, none⟩ 1 1 [.string (s.extract m s.size)] rfl rfl ?c1 ?c2 ?c3 ?c4 ?c5 ?_)
      case c1 => exact (cell_one_new _ _ _)
      case c2 => intro u hu; simp at hu; subst hu; rfl
      case c3 => simp [maxLen]; omega
      case c4 => omega
      case c5 => simp; omega
      intro v' w1 ho1 hg1 _
      have ho2 : w1.ownsRow w.heap.size 9 1 v' (ss ++ [s.extract m s.size]).length ((ss ++ [s.extract m s.size]).map Value.string) := by
        simpa using ho1
      have HO2 := Lib.hid ho2
      have HB2 : Hid (Below w.heap.size w w1) := (HB.out.alloc hsz _).grown hg1 (by simp; omega) (fun b e => (HO.out.lt b e).1)
      clear ho1 ho2 hg1
      go_wp2
      go_ret
      exact ⟨_, _, rfl, HB2.out, HO2.out, HS2.out⟩

def RetNum (o : Option Int) (w : World) (e : Ending) (w' : World) : Prop := e = .returned (.tuple #[.int .i64 (o.getD 0), .bool o.isSome]) ∧ w = w'

set_option maxRecDepth 100000 in
set_option maxHeartbeats 2000000 in
theorem l01Number_any (s : ByteArray) (w : World) (hs : s.size ≤ 1073741824) : Calls Tryz.prog 92 #[.string s] w (RetNum (numB s.data.toList) w) := by
  by_cases h0 : s.size = 0
  · have HF : Hid (numB s.data.toList = none) := by
      have : s.data.toList = [] := List.eq_nil_of_length_eq_zero (by rw [len_data]; exact h0)
      unfold Hid
      rw [this]; rfl
    go_enter Tryz.func92, Tryz.ntmps92
    go_wp2_with fail
    go_ret2
    exact ⟨by rw [HF.out]; rfl, rfl⟩
  · have hpos : 0 < s.size := by omega
    clear h0
    by_cases hm : ((s[0].toNat : Int) == 45) = true
    · have h45 : s[0] = 45 := by
        have : (s[0].toNat : Int) = 45 := by simpa using hm
        exact UInt8.toNat_inj.1 (by show _ = 45; omega)
      have HNB : Hid (numB s.data.toList = numDs true (s.data.toList.drop 1)) := by
        unfold Hid numB
        rw [head_data s hpos, h45, if_pos rfl, List.drop_one]
      clear h45
      by_cases h1 : s.size = 1
      · have HF : Hid (numB s.data.toList = none) := by
          unfold Hid
          rw [HNB.out]
          unfold numDs
          rw [if_pos (.inl (by rw [List.length_drop, len_data]; omega))]
        have h1' : ((s.size : Int) == 1) = true := by simp; omega
        go_enter Tryz.func92, Tryz.ntmps92
        go_wp2_with fail
        go_ret2
        exact ⟨by rw [HF.out]; rfl, rfl⟩
      · have h1' : ((s.size : Int) == 1) = false := by simp; omega
        by_cases h2 : 18 < s.size - 1
        · have HF : Hid (numB s.data.toList = none) := by
            unfold Hid
            rw [HNB.out]
            unfold numDs
            rw [if_pos (.inr (.inl (by rw [List.length_drop, len_data]; omega)))]
          go_enter Tryz.func92, Tryz.ntmps92
          go_wp2_with fail
          go_ret2
          exact ⟨by rw [HF.out]; rfl, rfl⟩
        · have h2' : decide (18 < (s.size : Int) - 1) = false := by simp; omega
          have hh : (s.data.toList.drop 1).head? = some s[1] := by
            rw [List.head?_eq_getElem?, List.getElem?_drop, List.getElem?_eq_getElem (by rw [len_data]; omega)]; rfl
          have HH := Lib.hid hh
          clear hh
          by_cases h3 : ((s[1].toNat : Int) == 48) = true
          · have HF : Hid (numB s.data.toList = none) := by
              unfold Hid
              rw [HNB.out]
              unfold numDs
              have : s[1] = 48 := by
                have : (s[1].toNat : Int) = 48 := by simpa using h3
                exact UInt8.toNat_inj.1 (by show _ = 48; omega)
              rw [if_pos (.inr (.inr (.inl ⟨by rw [HH.out, this], .inl rfl⟩)))]
            go_enter Tryz.func92, Tryz.ntmps92
            go_wp2_with fail
            go_ret2
            exact ⟨by rw [HF.out]; rfl, rfl⟩
          · have h3' : ((s[1].toNat : Int) == 48) = false := by simpa using h3
            have HBADX : Hid ((s.data.toList.drop 1).all digit = false → numB s.data.toList = none) := fun h => by
              rw [HNB.out]
              unfold numDs
              rw [if_pos (.inr (.inr (.inr h)))]
            have HGOOD : Hid ((s.data.toList.drop 1).all digit = true → numB s.data.toList = some (-(valFrom 0 (s.data.toList.drop 1) : Int))) := fun h => by
              rw [HNB.out]
              unfold numDs
              rw [if_neg, if_pos rfl]
              rw [List.length_drop, len_data, HH.out, h]
              rintro (h | h | ⟨h, -⟩ | h)
              · omega
              · omega
              · simp only [Option.some.injEq] at h
                rw [h] at h3'
                exact absurd h3' (by decide)
              · simp at h
            clear h3
            go_enter Tryz.func92, Tryz.ntmps92
            go_wp2_with fail
            go_loop [5, 6] (fun q i => ∃ k : Nat, 1 ≤ k ∧ k ≤ s.size ∧ i = .int .i64 k ∧ q = .int .i64 (valFrom 0 ((s.data.toList.drop 1).take (k - 1)) : Nat) ∧ ((s.data.toList.drop 1).take (k - 1)).all digit = true) (fun _ i => s.size - (intOf i).toNat)
            case atStart => exact ⟨1, by omega, by omega, rfl, by simp [valFrom_nil], by simp⟩
            case round =>
              obtain ⟨k, hak, hk, rfl, rfl, hall⟩ := hrel
              have HALL := Lib.hid hall
              clear hall
              by_cases hlt : k < s.size
              · have hl : k < s.data.toList.length := by rw [len_data]; exact hlt
                have hsm := val_small HALL.out (by simp; omega)
                have HSTEP := Lib.hid (val_step (a := 1) hak hl)
                rw [get_data s k hlt hl] at HSTEP
                generalize valFrom 0 ((s.data.toList.drop 1).take (k - 1)) = n at *
                go_wp2_with fail
                refine (l01Digit_any _ _).mono ?_
                rintro e w' ⟨rfl, rfl⟩
                have hc : ∃ b, digit s[k] = b := ⟨_, rfl⟩
                obtain ⟨b, hb⟩ := hc
                rw [hb]
                have HB := Lib.hid hb
                cases b
                · clear hb
                  go_wp2_with fail
                  go_ret2
                  refine ⟨?_, rfl⟩
                  rw [HBADX.out (all_bad hak hl (by rw [get_data s k hlt hl]; exact HB.out))]; rfl
                · have hd := hb
                  simp only [digit, Bool.and_eq_true, decide_eq_true_eq] at hd
                  obtain ⟨hd1, hd2⟩ := hd
                  clear hb
                  go_wp2_with fail
                  go_round
                  case rel => exact ⟨k + 1, by omega, by omega, by go_num, by rw [HSTEP.out]; go_num, all_step hak hl HALL.out HB.out⟩
                  case measure => simp [intOf]; omega
              · obtain rfl : k = s.size := by omega
                have e1 : (s.data.toList.drop 1).take (s.size - 1) = s.data.toList.drop 1 := List.take_of_length_le (by rw [List.length_drop, len_data]; omega)
                have hall := HALL.out
                rw [e1] at hall ⊢
                have HA := Lib.hid hall
                have hsm := val_small18 hall (by rw [List.length_drop, len_data]; omega)
                clear hall
                generalize hn : valFrom 0 (s.data.toList.drop 1) = n at *
                have HN := Lib.hid hn
                clear hn
                go_wp2_with fail
                go_ret2
                exact ⟨by rw [HGOOD.out HA.out]; rfl, rfl⟩
    · have hm' : ((s[0].toNat : Int) == 45) = false := by simpa using hm
      have HNB : Hid (numB s.data.toList = numDs false (s.data.toList.drop 0)) := by
        unfold Hid numB
        rw [head_data s hpos, if_neg, List.drop_zero]
        intro h
        simp only [Option.some.injEq] at h
        rw [h] at hm'
        exact absurd hm' (by decide)
      clear hm
      have h1' : ((s.size : Int) == 0) = false := by rw [beq_eq_false_iff_ne]; omega
      by_cases h2 : 18 < s.size
      · have HF : Hid (numB s.data.toList = none) := by
          unfold Hid
          rw [HNB.out]
          unfold numDs
          rw [if_pos (.inr (.inl (by rw [List.length_drop, len_data]; omega)))]
        go_enter Tryz.func92, Tryz.ntmps92
        go_wp2_with fail
        go_ret2
        exact ⟨by rw [HF.out]; rfl, rfl⟩
      · have h2' : decide (18 < (s.size : Int)) = false := by simp; omega
        by_cases h3 : ((s[0].toNat : Int) == 48) = true ∧ 1 < s.size
        · have HF : Hid (numB s.data.toList = none) := by
            unfold Hid
            rw [HNB.out]
            unfold numDs
            have : s[0] = 48 := by
              have : (s[0].toNat : Int) = 48 := by simpa using h3.1
              exact UInt8.toNat_inj.1 (by show _ = 48; omega)
            rw [if_pos (.inr (.inr (.inl ⟨by rw [List.drop_zero, head_data s hpos, this], .inr (by rw [List.length_drop, len_data]; omega)⟩)))]
          obtain ⟨h3, h4⟩ := h3
          go_enter Tryz.func92, Tryz.ntmps92
          go_wp2_with fail
          go_ret2
          exact ⟨by rw [HF.out]; rfl, rfl⟩
        · have HBADX : Hid ((s.data.toList.drop 0).all digit = false → numB s.data.toList = none) := fun h => by
            rw [HNB.out]
            unfold numDs
            rw [if_pos (.inr (.inr (.inr h)))]
          have HGOOD : Hid ((s.data.toList.drop 0).all digit = true → numB s.data.toList = some (valFrom 0 (s.data.toList.drop 0) : Int)) := fun h => by
            rw [HNB.out]
            unfold numDs
            rw [if_neg, if_neg (by simp)]
            rw [List.length_drop, len_data, h, List.drop_zero, head_data s hpos]
            rintro (h | h | ⟨h, h'⟩ | h)
            · omega
            · omega
            · simp only [Option.some.injEq] at h
              rcases h' with h' | h'
              · simp at h'
              · exact h3 ⟨by rw [h]; decide, by omega⟩
            · simp at h
          by_cases h4 : ((s[0].toNat : Int) == 48) = true
          · have h5 : decide (1 < (s.size : Int)) = false := by simp; have := not_and.1 h3 h4; omega
            clear h3
            go_enter Tryz.func92, Tryz.ntmps92
            go_wp2_with fail
            go_loop [5, 6] (fun q i => ∃ k : Nat, 0 ≤ k ∧ k ≤ s.size ∧ i = .int .i64 k ∧ q = .int .i64 (valFrom 0 ((s.data.toList.drop 0).take (k - 0)) : Nat) ∧ ((s.data.toList.drop 0).take (k - 0)).all digit = true) (fun _ i => s.size - (intOf i).toNat)
            case atStart => exact ⟨0, by omega, by omega, rfl, by simp [valFrom_nil], by simp⟩
            case round =>
              obtain ⟨k, hak, hk, rfl, rfl, hall⟩ := hrel
              have HALL := Lib.hid hall
              clear hall
              by_cases hlt : k < s.size
              · have hl : k < s.data.toList.length := by rw [len_data]; exact hlt
                have hsm := val_small HALL.out (by simp; omega)
                have HSTEP := Lib.hid (val_step (a := 0) hak hl)
                rw [get_data s k hlt hl] at HSTEP
                generalize valFrom 0 ((s.data.toList.drop 0).take (k - 0)) = n at *
                go_wp2_with fail
                refine (l01Digit_any _ _).mono ?_
                rintro e w' ⟨rfl, rfl⟩
                have hc : ∃ b, digit s[k] = b := ⟨_, rfl⟩
                obtain ⟨b, hb⟩ := hc
                rw [hb]
                have HB := Lib.hid hb
                cases b
                · clear hb
                  go_wp2_with fail
                  go_ret2
                  refine ⟨?_, rfl⟩
                  rw [HBADX.out (all_bad hak hl (by rw [get_data s k hlt hl]; exact HB.out))]; rfl
                · have hd := hb
                  simp only [digit, Bool.and_eq_true, decide_eq_true_eq] at hd
                  obtain ⟨hd1, hd2⟩ := hd
                  clear hb
                  go_wp2_with fail
                  go_round
                  case rel => exact ⟨k + 1, by omega, by omega, by go_num, by rw [HSTEP.out]; go_num, all_step hak hl HALL.out HB.out⟩
                  case measure => simp [intOf]; omega
              · obtain rfl : k = s.size := by omega
                have e1 : (s.data.toList.drop 0).take (s.size - 0) = s.data.toList.drop 0 := List.take_of_length_le (by rw [List.length_drop, len_data]; omega)
                have hall := HALL.out
                rw [e1] at hall ⊢
                have HA := Lib.hid hall
                have hsm := val_small18 hall (by rw [List.length_drop, len_data]; omega)
                clear hall
                generalize hn : valFrom 0 (s.data.toList.drop 0) = n at *
                have HN := Lib.hid hn
                clear hn
                go_wp2_with fail
                go_ret2
                exact ⟨by rw [HGOOD.out HA.out]; rfl, rfl⟩
          · have h4' : ((s[0].toNat : Int) == 48) = false := by simpa using h4
            clear h3 h4
            go_enter Tryz.func92, Tryz.ntmps92
            go_wp2_with fail
            go_loop [5, 6] (fun q i => ∃ k : Nat, 0 ≤ k ∧ k ≤ s.size ∧ i = .int .i64 k ∧ q = .int .i64 (valFrom 0 ((s.data.toList.drop 0).take (k - 0)) : Nat) ∧ ((s.data.toList.drop 0).take (k - 0)).all digit = true) (fun _ i => s.size - (intOf i).toNat)
            case atStart => exact ⟨0, by omega, by omega, rfl, by simp [valFrom_nil], by simp⟩
            case round =>
              obtain ⟨k, hak, hk, rfl, rfl, hall⟩ := hrel
              have HALL := Lib.hid hall
              clear hall
              by_cases hlt : k < s.size
              · have hl : k < s.data.toList.length := by rw [len_data]; exact hlt
                have hsm := val_small HALL.out (by simp; omega)
                have HSTEP := Lib.hid (val_step (a := 0) hak hl)
                rw [get_data s k hlt hl] at HSTEP
                generalize valFrom 0 ((s.data.toList.drop 0).take (k - 0)) = n at *
                go_wp2_with fail
                refine (l01Digit_any _ _).mono ?_
                rintro e w' ⟨rfl, rfl⟩
                have hc : ∃ b, digit s[k] = b := ⟨_, rfl⟩
                obtain ⟨b, hb⟩ := hc
                rw [hb]
                have HB := Lib.hid hb
                cases b
                · clear hb
                  go_wp2_with fail
                  go_ret2
                  refine ⟨?_, rfl⟩
                  rw [HBADX.out (all_bad hak hl (by rw [get_data s k hlt hl]; exact HB.out))]; rfl
                · have hd := hb
                  simp only [digit, Bool.and_eq_true, decide_eq_true_eq] at hd
                  obtain ⟨hd1, hd2⟩ := hd
                  clear hb
                  go_wp2_with fail
                  go_round
                  case rel => exact ⟨k + 1, by omega, by omega, by go_num, by rw [HSTEP.out]; go_num, all_step hak hl HALL.out HB.out⟩
                  case measure => simp [intOf]; omega
              · obtain rfl : k = s.size := by omega
                have e1 : (s.data.toList.drop 0).take (s.size - 0) = s.data.toList.drop 0 := List.take_of_length_le (by rw [List.length_drop, len_data]; omega)
                have hall := HALL.out
                rw [e1] at hall ⊢
                have HA := Lib.hid hall
                have hsm := val_small18 hall (by rw [List.length_drop, len_data]; omega)
                clear hall
                generalize hn : valFrom 0 (s.data.toList.drop 0) = n at *
                have HN := Lib.hid hn
                clear hn
                go_wp2_with fail
                go_ret2
                exact ⟨by rw [HGOOD.out HA.out]; rfl, rfl⟩

end Go.Proofs.YtkffdamgekoifaaGreatDoor
