/-
  What the reference's functions on texts and labels compute.
  What the reference's functions on labels compute.
  What the reference's functions on systems compute: whether they are valid and deterministic.
-/
import Derived.Test.YtjoacldbgnphkaaGreatDoorRows
import Derived.Test.YtjoacldbgnphkaaGreatDoorE1
import Derived.IntWalk
namespace Go.Proofs.YtjoacldbgnphkaaGreatDoor
open Go Go.RowKit

theorem l01Small_any (c : UInt8) (w : World) : Calls Tryz.prog 127 #[.int .u8 (c.toNat : Int)] w fun e w' => e = .returned (.bool (small c)) ∧ w = w' := by
 by_cases h : 97 ≤ (c.toNat : Int)
 ·have hf : Hid (small c = decide ((c.toNat : Int) ≤ 122)) := by unfold Hid small; rw [decide_eq_true h, Bool.true_and]
  go_enter Tryz.func127, Tryz.ntmps127
  go_wp2
  go_ret
  exact ⟨ret_bool hf.out.symm, rfl⟩
 ·have hf : Hid (small c = false) := by unfold Hid small; rw [decide_eq_false h, Bool.false_and]
  go_enter Tryz.func127, Tryz.ntmps127
  go_wp2
  go_ret
  exact ⟨ret_bool hf.out.symm, rfl⟩

theorem l01Digit_any (c : UInt8) (w : World) : Calls Tryz.prog 128 #[.int .u8 (c.toNat : Int)] w fun e w' => e = .returned (.bool (digit c)) ∧ w = w' := by
 by_cases h : 48 ≤ (c.toNat : Int)
 ·have hf : Hid (digit c = decide ((c.toNat : Int) ≤ 57)) := by unfold Hid digit; rw [decide_eq_true h, Bool.true_and]
  go_enter Tryz.func128, Tryz.ntmps128
  go_wp2
  go_ret
  exact ⟨ret_bool hf.out.symm, rfl⟩
 ·have hf : Hid (digit c = false) := by unfold Hid digit; rw [decide_eq_false h, Bool.false_and]
  go_enter Tryz.func128, Tryz.ntmps128
  go_wp2
  go_ret
  exact ⟨ret_bool hf.out.symm, rfl⟩

set_option maxHeartbeats 400000 in
theorem l01Name_any (s : ByteArray) (w : World) : Calls Tryz.prog 100 #[.string s] w fun e w' => e = .returned (.bool (isName s.data.toList)) ∧ w = w' := by
 by_cases h0 : s.toList = []
 ·have hf : Hid (isName s.data.toList = false) := by
   unfold Hid
   rw [Lib.toList_data] at h0
   rw [h0]; rfl
  go_enter Tryz.func100, Tryz.ntmps100
  go_wp2_with fail
  go_ret
  exact ⟨ret_bool hf.out.symm, rfl⟩
 ·have hpos : 0 < s.size := by
   rw [Lib.toList_data] at h0
   rw [← len_data]
   exact List.length_pos_iff.2 h0
  have h0' : (!s.toList.isEmpty) = true := by simpa using h0
  have h0'' : s.toList.isEmpty = false := by simpa using h0
  by_cases h1 : 10 < s.size
  ·have hf : Hid (isName s.data.toList = false) := isName_long (by rw [len_data]; exact h1)
   go_enter Tryz.func100, Tryz.ntmps100
   go_wp2_with fail
   go_ret
   exact ⟨ret_bool hf.out.symm, rfl⟩
  ·have h1' : decide (10 < (s.size : Int)) = false := by simp; omega
   have hc : ∃ b, small s[0] = b := ⟨_, rfl⟩
   obtain ⟨b, hb⟩ := hc
   cases b
   ·have hf : Hid (isName s.data.toList = false) := isName_head hpos hb
    have HB := Lib.hid hb
    clear hb
    go_enter Tryz.func100, Tryz.ntmps100
    go_wp2_with fail
    refine (l01Small_any _ _).mono ?_
    rintro e w' ⟨rfl, rfl⟩
    rw [HB.out]
    go_wp2_with fail
    go_ret
    exact ⟨ret_bool hf.out.symm, rfl⟩
   ·have HB := Lib.hid hb
    clear hb
    go_enter Tryz.func100, Tryz.ntmps100
    go_wp2_with fail
    refine (l01Small_any _ _).mono ?_
    rintro e w' ⟨rfl, rfl⟩
    rw [HB.out]
    go_wp2_with fail
    go_loop [3] (fun i => ∃ k : Nat, k ≤ s.size ∧ i = .int .i64 k ∧ ∀ j (h : j < s.size), j < k → okc s[j] = true) (fun i => s.size - (intOf i).toNat)
    case atStart => exact ⟨0, Nat.zero_le _, rfl, fun _ _ h => by omega⟩
    case round =>
     obtain ⟨k, hk, rfl, ha⟩ := hrel
     have HA := Lib.hid ha
     clear ha
     by_cases hlt : k < s.size
     ·go_wp2_with fail
      refine (l01Small_any _ _).mono ?_
      rintro e w' ⟨rfl, rfl⟩
      have hc : ∃ b, small s[k] = b := ⟨_, rfl⟩
      obtain ⟨b, hb⟩ := hc
      rw [hb]
      have HB1 := Lib.hid hb
      clear hb
      cases b
      ·go_wp2_with fail
       refine (l01Digit_any _ _).mono ?_
       rintro e w' ⟨rfl, rfl⟩
       have hc : ∃ b, digit s[k] = b := ⟨_, rfl⟩
       obtain ⟨b, hb⟩ := hc
       rw [hb]
       have HB2 := Lib.hid hb
       clear hb
       cases b
       ·go_wp2_with fail
        go_ret
        exact ⟨ret_bool (isName_bad hlt HB1.out HB2.out).symm, rfl⟩
       ·go_wp2_with fail
        go_round
        case rel => exact ⟨k + 1, by omega, by go_num, fun j h hj => by
         by_cases e : j = k
         ·subst e; simp [okc, HB2.out]
         ·exact HA.out j h (by omega)⟩
        case measure => simp [intOf]; omega
      ·go_wp2_with fail
       go_round
       case rel => exact ⟨k + 1, by omega, by go_num, fun j h hj => by
        by_cases e : j = k
        ·subst e; simp [okc, HB1.out]
        ·exact HA.out j h (by omega)⟩
       case measure => simp [intOf]; omega
     ·go_wp2_with fail
      go_ret
      exact ⟨ret_bool (isName_good hpos h1 HB.out (fun j h => HA.out j h (by omega))).symm, rfl⟩

theorem l01Action_any (s : ByteArray) (w : World) : Calls Tryz.prog 101 #[.string s] w fun e w' => e = .returned (.bool (isAction s.data.toList)) ∧ w = w' := by
 have hc : ∃ b, isName s.data.toList = b := ⟨_, rfl⟩
 obtain ⟨b, hb⟩ := hc
 cases b
 ·have HF : Hid (isAction s.data.toList = false) := by unfold Hid isAction; rw [hb]; rfl
  have HB := Lib.hid hb
  clear hb
  go_enter Tryz.func101, Tryz.ntmps101
  go_wp2_with fail
  refine (l01Name_any _ _).mono ?_
  rintro e w' ⟨rfl, rfl⟩
  rw [HB.out]
  go_wp2_with fail
  go_ret
  exact ⟨ret_bool HF.out.symm, rfl⟩
 ·have HF : Hid (isAction s.data.toList = !(s.toList == tauL)) := by unfold Hid isAction; rw [hb, Lib.toList_data]; rfl
  have HB := Lib.hid hb
  clear hb
  go_enter Tryz.func101, Tryz.ntmps101
  go_wp2_with fail
  refine (l01Name_any _ _).mono ?_
  rintro e w' ⟨rfl, rfl⟩
  rw [HB.out]
  go_wp2_with fail
  go_ret
  exact ⟨ret_bool HF.out.symm, rfl⟩

theorem l01Open_any (s : ByteArray) (w : World) (hs : s.size ≤ 1073741824) : Calls Tryz.prog 99 #[.string s] w fun e w' => e = .returned (.int .i64 (openAt s.data.toList)) ∧ w = w' := by
 go_enter Tryz.func99, Tryz.ntmps99
 go_wp2
 go_loop [3] (fun i => ∃ k : Nat, k ≤ s.size ∧ i = .int .i64 k ∧ ∀ j (h : j < s.data.toList.length), j < k → (s.data.toList[j] == (40 : UInt8)) = false) (fun i => s.size - (intOf i).toNat)
 case atStart => exact ⟨0, Nat.zero_le _, rfl, fun _ _ h => by omega⟩
 case round =>
  obtain ⟨k, hk, rfl, ha⟩ := hrel
  have HA := Lib.hid ha
  clear ha
  by_cases hlt : k < s.size
  ·have hl : k < s.data.toList.length := by rw [len_data]; exact hlt
   by_cases hb : ((s[k].toNat : Int) == 40) = true
   ·go_wp2
    go_ret
    refine ⟨ret_int ?_, rfl⟩
    have h40 : s.data.toList[k] = (40 : UInt8) := by
     rw [get_data s k hlt hl]
     have : (s[k].toNat : Int) = 40 := by simpa using hb
     exact UInt8.toNat_inj.1 (by show _ = 40; omega)
    have : openAt s.data.toList = k := (List.findIdx_eq hl).2 ⟨by simp [h40], fun j hj => HA.out j (by omega) hj⟩
    rw [this]
   ·have hb' : ((s[k].toNat : Int) == 40) = false := by simpa using hb
    go_wp2
    go_round
    case rel => exact ⟨k + 1, by omega, by go_num, fun j h hj => by
     by_cases e : j = k
     ·subst e
      rw [get_data s j hlt hl]
      simp only [beq_eq_false_iff_ne, ne_eq] at hb' ⊢
      intro hc
      rw [hc] at hb'
      exact hb' rfl
     ·exact HA.out j h (by omega)⟩
    case measure => simp [intOf]; omega
  ·go_wp2
   go_ret
   refine ⟨ret_int ?_, rfl⟩
   have : openAt s.data.toList = s.data.toList.length := by
    unfold openAt
    rw [List.findIdx_eq_length]
    intro x hx
    obtain ⟨j, hj, rfl⟩ := List.mem_iff_getElem.1 hx
    exact HA.out j hj (by rw [len_data] at hj; omega)
   rw [this, len_data]

theorem info_str : (Tryz.prog.info? 9).map (fun i => (i.zero, i.size, i.bytes)) = some (some (.string ⟨#[]⟩), 1, 16) := by kernel_rfl
theorem info_int64 : (Tryz.prog.info? 2).map (fun i => (i.zero, i.size, i.bytes)) = some (some (.int .i64 0), 1, 8) := by kernel_rfl

/-- A slice of texts in memory of the call's own, whose bytes are these. -/
def MadeParts (w : World) (ls : List (List UInt8)) (e : Ending) (w' : World) : Prop :=
 ∃ (v : Value) (ss : List ByteArray), e = .returned v ∧ Below w.heap.size w w' ∧ w'.ownsRow w.heap.size 9 1 v ss.length (ss.map Value.string) ∧ ss.map (fun s => s.data.toList) = ls

set_option maxRecDepth 100000 in
set_option maxHeartbeats 1000000 in
theorem l01Split_any (s : ByteArray) (c : UInt8) (w : World) (hs : s.size ≤ 1073741824) : Calls Tryz.prog 102 #[.string s, .int .u8 (c.toNat : Int)] w (MadeParts w (splitAt c s.data.toList)) := by
 obtain ⟨i0, hi, hz0, hz1, hz2⟩ := info_parts info_str
 go_enter Tryz.func102, Tryz.ntmps102
 go_wp2
 go_loopw [5, 6, 7] (fun v f i wr => ∃ (m k : Nat) (ss : List ByteArray), m ≤ k ∧ k ≤ s.size ∧ i = .int .i64 k ∧ f = .int .i64 m ∧ clean c s.data.toList m k ∧ ss.length ≤ k ∧ Below w.heap.size w wr
   ∧ wr.ownsRow w.heap.size 9 1 v ss.length (ss.map Value.string) ∧ ss.map (fun s => s.data.toList) ++ splitAt c (s.data.toList.drop m) = splitAt c s.data.toList) (fun _ _ i _ => s.size - (intOf i).toNat)
 case atStart =>
  exact ⟨0, 0, [], Nat.le_refl _, Nat.zero_le _, rfl, rfl, fun _ _ _ h => by omega, Nat.le_refl _, (Below.refl _ _).alloc (Nat.le_refl _) _, World.ownsRow_lit (size := 1) w #[] 0 (Nat.le_refl _) (by simp [maxLen]) rfl, by simp⟩
 case round =>
  obtain ⟨m, k, ss, hmk, hk, rfl, rfl, hcl, hsl, hb, ho, hsp⟩ := hrel
  have HC := Lib.hid hcl
  have HS := Lib.hid hsp
  have HB := Lib.hid hb
  have HO := Lib.hid ho
  have hsz := hb.size
  clear hcl hsp hb ho
  by_cases hlt : k < s.size
  ·have hl : k < s.data.toList.length := by rw [len_data]; exact hlt
   by_cases hb : ((s[k].toNat : Int) == (c.toNat : Int)) = true
   ·have hkc : (s.data.toList[k] == c) = true := by
     rw [get_data s k hlt hl]
     have : (s[k].toNat : Int) = c.toNat := by simpa using hb
     have : s[k] = c := UInt8.toNat_inj.1 (by omega)
     simp [this]
    have HS2 : Hid ((ss ++ [s.extract m k]).map (fun s => s.data.toList) ++ splitAt c (s.data.toList.drop (k + 1)) = splitAt c s.data.toList) := by
     unfold Hid
     rw [← HS.out, split_step hmk hl HC.out hkc, List.map_append, List.append_assoc]
     congr 1
     simp only [List.map_cons, List.map_nil, List.cons_append, List.nil_append, extract_data']
    go_wp2_with (at_builtin; refine wpList_append_own _ rfl _ _ 22 rfl w.heap.size 9 i0 (.string ⟨#[]⟩) 1 16 Tryz.underlying22 hi hz0 hz1 hz2 rfl (by decide) _ _ _ rfl (HO.out.alloc _) ⟨wr.heap.size, 0, none⟩ 1 1 [.string (s.extract m k)] rfl rfl ?c1 ?c2 ?c3 ?c4 ?c5 ?_)
    case c1 => exact (cell_one_new _ _ _)
    case c2 => intro u hu; simp at hu; subst hu; rfl
    case c3 => simp [maxLen]; omega
    case c4 => omega
    case c5 => simp; omega
    intro v' w1 ho1 hg1 _
    have ho2 : w1.ownsRow w.heap.size 9 1 v' (ss ++ [s.extract m k]).length ((ss ++ [s.extract m k]).map Value.string) := by
     simpa using ho1
    have HO2 := Lib.hid ho2
    have HB2 : Hid (Below w.heap.size w w1) := (HB.out.alloc hsz _).grown hg1 (by simp; omega) (fun b e => (HO.out.lt b e).1)
    clear ho1 ho2 hg1
    go_wp2
    go_roundw
    case rel => exact ⟨k + 1, k + 1, ss ++ [s.extract m k], Nat.le_refl _, by omega, by go_num, by go_num, fun _ _ _ h => by omega, by simp; omega, HB2.out, HO2.out, HS2.out⟩
    case measure => simp [intOf]; omega
   ·have hb' : ((s[k].toNat : Int) == (c.toNat : Int)) = false := by simpa using hb
    have HC2 : Hid (clean c s.data.toList m (k + 1)) := fun j h h1 h2 => by
     by_cases e : j = k
     ·subst e
      rw [get_data s j hlt hl]
      simp only [beq_eq_false_iff_ne, ne_eq] at hb' ⊢
      intro hc
      rw [hc] at hb'
      exact hb' rfl
     ·exact HC.out j h h1 (by omega)
    clear hb
    go_wp2
    go_roundw
    case rel => exact ⟨m, k + 1, ss, by omega, by omega, by go_num, rfl, HC2.out, by omega, HB.out, HO.out, HS.out⟩
    case measure => simp [intOf]; omega
  ·obtain rfl : k = s.size := by omega
   have HS2 : Hid ((ss ++ [s.extract m s.size]).map (fun s => s.data.toList) = splitAt c s.data.toList) := by
    unfold Hid
    rw [← HS.out, split_end (by rw [len_data]; exact HC.out), List.map_append]
    simp only [List.map_cons, List.map_nil, extract_data']
    rw [List.take_of_length_le (by rw [List.length_drop, len_data]; omega)]
   go_wp2_with (at_builtin; refine wpList_append_own _ rfl _ _ 22 rfl w.heap.size 9 i0 (.string ⟨#[]⟩) 1 16 Tryz.underlying22 hi hz0 hz1 hz2 rfl (by decide) _ _ _ rfl (HO.out.alloc _) ⟨wr.heap.size, 0, none⟩ 1 1 [.string (s.extract m s.size)] rfl rfl ?c1 ?c2 ?c3 ?c4 ?c5 ?_)
   case c1 => exact (cell_one_new _ _ _)
   case c2 => intro u hu; simp at hu; subst hu; rfl
   case c3 => simp [maxLen]; omega
   case c4 => omega
   case c5 => simp; omega
   intro v' w1 ho1 hg1 _
   have ho2 : w1.ownsRow w.heap.size 9 1 v' (ss ++ [s.extract m s.size]).length ((ss ++ [s.extract m s.size]).map Value.string) := by
    simpa using ho1
   have HO2 := Lib.hid ho2
   have HB2 : Hid (Below w.heap.size w w1) := (HB.out.alloc hsz _).grown hg1 (by simp; omega) (fun b e => (HO.out.lt b e).1)
   clear ho1 ho2 hg1
   go_wp2
   go_ret
   exact ⟨_, _, rfl, HB2.out, HO2.out, HS2.out⟩

def RetNum (o : Option Int) (w : World) (e : Ending) (w' : World) : Prop := e = .returned (.tuple #[.int .i64 (o.getD 0), .bool o.isSome]) ∧ w = w'

set_option maxRecDepth 100000 in
set_option maxHeartbeats 2000000 in
theorem l01Number_any (s : ByteArray) (w : World) (hs : s.size ≤ 1073741824) : Calls Tryz.prog 103 #[.string s] w (RetNum (numB s.data.toList) w) := by
 by_cases h0 : s.size = 0
 ·have HF : Hid (numB s.data.toList = none) := by
   have : s.data.toList = [] := List.eq_nil_of_length_eq_zero (by rw [len_data]; exact h0)
   unfold Hid
   rw [this]; rfl
  go_enter Tryz.func103, Tryz.ntmps103
  go_wp2_with fail
  go_ret2
  exact ⟨by rw [HF.out]; rfl, rfl⟩
 ·have hpos : 0 < s.size := by omega
  clear h0
  by_cases hm : ((s[0].toNat : Int) == 45) = true
  ·have h45 : s[0] = 45 := by
    have : (s[0].toNat : Int) = 45 := by simpa using hm
    exact UInt8.toNat_inj.1 (by show _ = 45; omega)
   have HNB : Hid (numB s.data.toList = numDs true (s.data.toList.drop 1)) := by
    unfold Hid numB
    rw [head_data s hpos, h45, if_pos rfl, List.drop_one]
   clear h45
   by_cases h1 : s.size = 1
   ·have HF : Hid (numB s.data.toList = none) := by
     unfold Hid
     rw [HNB.out]
     unfold numDs
     rw [if_pos (.inl (by rw [List.length_drop, len_data]; omega))]
    have h1' : ((s.size : Int) == 1) = true := by simp; omega
    go_enter Tryz.func103, Tryz.ntmps103
    go_wp2_with fail
    go_ret2
    exact ⟨by rw [HF.out]; rfl, rfl⟩
   ·have h1' : ((s.size : Int) == 1) = false := by simp; omega
    by_cases h2 : 18 < s.size - 1
    ·have HF : Hid (numB s.data.toList = none) := by
      unfold Hid
      rw [HNB.out]
      unfold numDs
      rw [if_pos (.inr (.inl (by rw [List.length_drop, len_data]; omega)))]
     go_enter Tryz.func103, Tryz.ntmps103
     go_wp2_with fail
     go_ret2
     exact ⟨by rw [HF.out]; rfl, rfl⟩
    ·have h2' : decide (18 < (s.size : Int) - 1) = false := by simp; omega
     have hh : (s.data.toList.drop 1).head? = some s[1] := by
      rw [List.head?_eq_getElem?, List.getElem?_drop, List.getElem?_eq_getElem (by rw [len_data]; omega)]; rfl
     have HH := Lib.hid hh
     clear hh
     by_cases h3 : ((s[1].toNat : Int) == 48) = true
     ·have HF : Hid (numB s.data.toList = none) := by
       unfold Hid
       rw [HNB.out]
       unfold numDs
       have : s[1] = 48 := by
        have : (s[1].toNat : Int) = 48 := by simpa using h3
        exact UInt8.toNat_inj.1 (by show _ = 48; omega)
       rw [if_pos (.inr (.inr (.inl ⟨by rw [HH.out, this], .inl rfl⟩)))]
      go_enter Tryz.func103, Tryz.ntmps103
      go_wp2_with fail
      go_ret2
      exact ⟨by rw [HF.out]; rfl, rfl⟩
     ·have h3' : ((s[1].toNat : Int) == 48) = false := by simpa using h3
      have HBADX : Hid ((s.data.toList.drop 1).all digit = false → numB s.data.toList = none) := fun h => by
       rw [HNB.out]
       unfold numDs
       rw [if_pos (.inr (.inr (.inr h)))]
      have HGOOD : Hid ((s.data.toList.drop 1).all digit = true → numB s.data.toList = some (-(valFrom 0 (s.data.toList.drop 1) : Int))) := fun h => by
       rw [HNB.out]
       unfold numDs
       rw [if_neg, if_pos rfl]
       rw [List.length_drop, len_data, HH.out, h]
       rintro (h | h | ⟨h, -⟩ | h)
       ·omega
       ·omega
       ·simp only [Option.some.injEq] at h
        rw [h] at h3'
        exact absurd h3' (by decide)
       ·simp at h
      clear h3
      go_enter Tryz.func103, Tryz.ntmps103
      go_wp2_with fail
      go_loop [5, 6] (fun q i => ∃ k : Nat, 1 ≤ k ∧ k ≤ s.size ∧ i = .int .i64 k ∧ q = .int .i64 (valFrom 0 ((s.data.toList.drop 1).take (k - 1)) : Nat) ∧ ((s.data.toList.drop 1).take (k - 1)).all digit = true) (fun _ i => s.size - (intOf i).toNat)
      case atStart => exact ⟨1, by omega, by omega, rfl, by simp [valFrom_nil], by simp⟩
      case round =>
       obtain ⟨k, hak, hk, rfl, rfl, hall⟩ := hrel
       have HALL := Lib.hid hall
       clear hall
       by_cases hlt : k < s.size
       ·have hl : k < s.data.toList.length := by rw [len_data]; exact hlt
        have hsm := val_small HALL.out (by simp; omega)
        have HSTEP := Lib.hid (val_step (a := 1) hak hl)
        rw [get_data s k hlt hl] at HSTEP
        generalize valFrom 0 ((s.data.toList.drop 1).take (k - 1)) = n at *
        go_wp2_with fail
        refine (l01Digit_any _ _).mono ?_
        rintro e w' ⟨rfl, rfl⟩
        have hc : ∃ b, digit s[k] = b := ⟨_, rfl⟩
        obtain ⟨b, hb⟩ := hc
        rw [hb]
        have HB := Lib.hid hb
        cases b
        ·clear hb
         go_wp2_with fail
         go_ret2
         refine ⟨?_, rfl⟩
         rw [HBADX.out (all_bad hak hl (by rw [get_data s k hlt hl]; exact HB.out))]; rfl
        ·have hd := hb
         simp only [digit, Bool.and_eq_true, decide_eq_true_eq] at hd
         obtain ⟨hd1, hd2⟩ := hd
         clear hb
         go_wp2_with fail
         go_round
         case rel => exact ⟨k + 1, by omega, by omega, by go_num, by rw [HSTEP.out]; go_num, all_step hak hl HALL.out HB.out⟩
         case measure => simp [intOf]; omega
       ·obtain rfl : k = s.size := by omega
        have e1 : (s.data.toList.drop 1).take (s.size - 1) = s.data.toList.drop 1 := List.take_of_length_le (by rw [List.length_drop, len_data]; omega)
        have hall := HALL.out
        rw [e1] at hall ⊢
        have HA := Lib.hid hall
        have hsm := val_small18 hall (by rw [List.length_drop, len_data]; omega)
        clear hall
        generalize hn : valFrom 0 (s.data.toList.drop 1) = n at *
        have HN := Lib.hid hn
        clear hn
        go_wp2_with fail
        go_ret2
        exact ⟨by rw [HGOOD.out HA.out]; rfl, rfl⟩
  ·have hm' : ((s[0].toNat : Int) == 45) = false := by simpa using hm
   have HNB : Hid (numB s.data.toList = numDs false (s.data.toList.drop 0)) := by
    unfold Hid numB
    rw [head_data s hpos, if_neg, List.drop_zero]
    intro h
    simp only [Option.some.injEq] at h
    rw [h] at hm'
    exact absurd hm' (by decide)
   clear hm
   have h1' : ((s.size : Int) == 0) = false := by rw [beq_eq_false_iff_ne]; omega
   by_cases h2 : 18 < s.size
   ·have HF : Hid (numB s.data.toList = none) := by
     unfold Hid
     rw [HNB.out]
     unfold numDs
     rw [if_pos (.inr (.inl (by rw [List.length_drop, len_data]; omega)))]
    go_enter Tryz.func103, Tryz.ntmps103
    go_wp2_with fail
    go_ret2
    exact ⟨by rw [HF.out]; rfl, rfl⟩
   ·have h2' : decide (18 < (s.size : Int)) = false := by simp; omega
    by_cases h3 : ((s[0].toNat : Int) == 48) = true ∧ 1 < s.size
    ·have HF : Hid (numB s.data.toList = none) := by
      unfold Hid
      rw [HNB.out]
      unfold numDs
      have : s[0] = 48 := by
       have : (s[0].toNat : Int) = 48 := by simpa using h3.1
       exact UInt8.toNat_inj.1 (by show _ = 48; omega)
      rw [if_pos (.inr (.inr (.inl ⟨by rw [List.drop_zero, head_data s hpos, this], .inr (by rw [List.length_drop, len_data]; omega)⟩)))]
     obtain ⟨h3, h4⟩ := h3
     go_enter Tryz.func103, Tryz.ntmps103
     go_wp2_with fail
     go_ret2
     exact ⟨by rw [HF.out]; rfl, rfl⟩
    ·have HBADX : Hid ((s.data.toList.drop 0).all digit = false → numB s.data.toList = none) := fun h => by
      rw [HNB.out]
      unfold numDs
      rw [if_pos (.inr (.inr (.inr h)))]
     have HGOOD : Hid ((s.data.toList.drop 0).all digit = true → numB s.data.toList = some (valFrom 0 (s.data.toList.drop 0) : Int)) := fun h => by
      rw [HNB.out]
      unfold numDs
      rw [if_neg, if_neg (by simp)]
      rw [List.length_drop, len_data, h, List.drop_zero, head_data s hpos]
      rintro (h | h | ⟨h, h'⟩ | h)
      ·omega
      ·omega
      ·simp only [Option.some.injEq] at h
       rcases h' with h' | h'
       ·simp at h'
       ·exact h3 ⟨by rw [h]; decide, by omega⟩
      ·simp at h
     by_cases h4 : ((s[0].toNat : Int) == 48) = true
     ·have h5 : decide (1 < (s.size : Int)) = false := by simp; have := not_and.1 h3 h4; omega
      clear h3
      go_enter Tryz.func103, Tryz.ntmps103
      go_wp2_with fail
      go_loop [5, 6] (fun q i => ∃ k : Nat, 0 ≤ k ∧ k ≤ s.size ∧ i = .int .i64 k ∧ q = .int .i64 (valFrom 0 ((s.data.toList.drop 0).take (k - 0)) : Nat) ∧ ((s.data.toList.drop 0).take (k - 0)).all digit = true) (fun _ i => s.size - (intOf i).toNat)
      case atStart => exact ⟨0, by omega, by omega, rfl, by simp [valFrom_nil], by simp⟩
      case round =>
       obtain ⟨k, hak, hk, rfl, rfl, hall⟩ := hrel
       have HALL := Lib.hid hall
       clear hall
       by_cases hlt : k < s.size
       ·have hl : k < s.data.toList.length := by rw [len_data]; exact hlt
        have hsm := val_small HALL.out (by simp; omega)
        have HSTEP := Lib.hid (val_step (a := 0) hak hl)
        rw [get_data s k hlt hl] at HSTEP
        generalize valFrom 0 ((s.data.toList.drop 0).take (k - 0)) = n at *
        go_wp2_with fail
        refine (l01Digit_any _ _).mono ?_
        rintro e w' ⟨rfl, rfl⟩
        have hc : ∃ b, digit s[k] = b := ⟨_, rfl⟩
        obtain ⟨b, hb⟩ := hc
        rw [hb]
        have HB := Lib.hid hb
        cases b
        ·clear hb
         go_wp2_with fail
         go_ret2
         refine ⟨?_, rfl⟩
         rw [HBADX.out (all_bad hak hl (by rw [get_data s k hlt hl]; exact HB.out))]; rfl
        ·have hd := hb
         simp only [digit, Bool.and_eq_true, decide_eq_true_eq] at hd
         obtain ⟨hd1, hd2⟩ := hd
         clear hb
         go_wp2_with fail
         go_round
         case rel => exact ⟨k + 1, by omega, by omega, by go_num, by rw [HSTEP.out]; go_num, all_step hak hl HALL.out HB.out⟩
         case measure => simp [intOf]; omega
       ·obtain rfl : k = s.size := by omega
        have e1 : (s.data.toList.drop 0).take (s.size - 0) = s.data.toList.drop 0 := List.take_of_length_le (by rw [List.length_drop, len_data]; omega)
        have hall := HALL.out
        rw [e1] at hall ⊢
        have HA := Lib.hid hall
        have hsm := val_small18 hall (by rw [List.length_drop, len_data]; omega)
        clear hall
        generalize hn : valFrom 0 (s.data.toList.drop 0) = n at *
        have HN := Lib.hid hn
        clear hn
        go_wp2_with fail
        go_ret2
        exact ⟨by rw [HGOOD.out HA.out]; rfl, rfl⟩
     ·have h4' : ((s[0].toNat : Int) == 48) = false := by simpa using h4
      clear h3 h4
      go_enter Tryz.func103, Tryz.ntmps103
      go_wp2_with fail
      go_loop [5, 6] (fun q i => ∃ k : Nat, 0 ≤ k ∧ k ≤ s.size ∧ i = .int .i64 k ∧ q = .int .i64 (valFrom 0 ((s.data.toList.drop 0).take (k - 0)) : Nat) ∧ ((s.data.toList.drop 0).take (k - 0)).all digit = true) (fun _ i => s.size - (intOf i).toNat)
      case atStart => exact ⟨0, by omega, by omega, rfl, by simp [valFrom_nil], by simp⟩
      case round =>
       obtain ⟨k, hak, hk, rfl, rfl, hall⟩ := hrel
       have HALL := Lib.hid hall
       clear hall
       by_cases hlt : k < s.size
       ·have hl : k < s.data.toList.length := by rw [len_data]; exact hlt
        have hsm := val_small HALL.out (by simp; omega)
        have HSTEP := Lib.hid (val_step (a := 0) hak hl)
        rw [get_data s k hlt hl] at HSTEP
        generalize valFrom 0 ((s.data.toList.drop 0).take (k - 0)) = n at *
        go_wp2_with fail
        refine (l01Digit_any _ _).mono ?_
        rintro e w' ⟨rfl, rfl⟩
        have hc : ∃ b, digit s[k] = b := ⟨_, rfl⟩
        obtain ⟨b, hb⟩ := hc
        rw [hb]
        have HB := Lib.hid hb
        cases b
        ·clear hb
         go_wp2_with fail
         go_ret2
         refine ⟨?_, rfl⟩
         rw [HBADX.out (all_bad hak hl (by rw [get_data s k hlt hl]; exact HB.out))]; rfl
        ·have hd := hb
         simp only [digit, Bool.and_eq_true, decide_eq_true_eq] at hd
         obtain ⟨hd1, hd2⟩ := hd
         clear hb
         go_wp2_with fail
         go_round
         case rel => exact ⟨k + 1, by omega, by omega, by go_num, by rw [HSTEP.out]; go_num, all_step hak hl HALL.out HB.out⟩
         case measure => simp [intOf]; omega
       ·obtain rfl : k = s.size := by omega
        have e1 : (s.data.toList.drop 0).take (s.size - 0) = s.data.toList.drop 0 := List.take_of_length_le (by rw [List.length_drop, len_data]; omega)
        have hall := HALL.out
        rw [e1] at hall ⊢
        have HA := Lib.hid hall
        have hsm := val_small18 hall (by rw [List.length_drop, len_data]; omega)
        clear hall
        generalize hn : valFrom 0 (s.data.toList.drop 0) = n at *
        have HN := Lib.hid hn
        clear hn
        go_wp2_with fail
        go_ret2
        exact ⟨by rw [HGOOD.out HA.out]; rfl, rfl⟩

end Go.Proofs.YtjoacldbgnphkaaGreatDoor

namespace Go.Proofs.YtjoacldbgnphkaaGreatDoor
open Go Go.RowKit

def inB (n a b : Int) : Bool := decide (a ≤ n) && decide (n ≤ b)
theorem l00In_any (n a b : Int) (w : World) : Calls Tryz.prog 35 #[.int .i64 n, .int .i64 a, .int .i64 b] w fun e w' => e = .returned (.bool (inB n a b)) ∧ w = w' := by
 by_cases h : a ≤ n
 ·have hf : Hid (inB n a b = decide (n ≤ b)) := by unfold Hid inB; rw [decide_eq_true h, Bool.true_and]
  go_enter Tryz.func35, Tryz.ntmps35
  go_wp2
  go_ret
  exact ⟨ret_bool hf.out.symm, rfl⟩
 ·have hf : Hid (inB n a b = false) := by unfold Hid inB; rw [decide_eq_false h, Bool.false_and]
  go_enter Tryz.func35, Tryz.ntmps35
  go_wp2
  go_ret
  exact ⟨ret_bool hf.out.symm, rfl⟩

/-- The values of a label and whether it is one. -/
def RetVals (l : List UInt8) (w : World) (e : Ending) (w' : World) : Prop :=
 ∃ v, e = .returned (.tuple #[v, .bool (labelOk l)]) ∧ Below w.heap.size w w' ∧ (labelOk l = true → w'.ownsRow w.heap.size 2 1 v (labelVals l).length ((labelVals l).map (Value.int .i64)))

set_option maxRecDepth 100000 in
set_option maxHeartbeats 4000000 in
theorem l01Values_any (s : ByteArray) (w : World) (hs : s.size ≤ 1073741824) : Calls Tryz.prog 79 #[.string s] w (RetVals s.data.toList w) := by
 obtain ⟨i0, hi, hz0, hz1, hz2⟩ := info_parts info_int64
 have hle := openAt_le s.data.toList
 rw [len_data] at hle
 by_cases h0 : openAt s.data.toList = s.size
 ·have h0' : ((openAt s.data.toList : Int) == s.size) = true := by simp [h0]
  have HOK : Hid (labelOk s.data.toList = isName s.data.toList) := by unfold Hid labelOk; rw [if_pos (by rw [len_data]; exact h0)]
  have HV : Hid (labelVals s.data.toList = []) := by unfold Hid labelVals; rw [if_pos (by rw [len_data]; exact h0)]
  clear h0
  generalize hk : openAt s.data.toList = k at *
  have HK := Lib.hid hk
  clear hk
  go_enter Tryz.func79, Tryz.ntmps79
  go_wp2_with fail
  refine (l01Open_any _ _ hs).mono ?_
  rintro e w' ⟨rfl, rfl⟩
  rw [HK.out]
  go_wp2_with fail
  refine (l01Name_any _ _).mono ?_
  rintro e w' ⟨rfl, rfl⟩
  go_wp2_with fail
  go_ret2
  refine ⟨.slice (some ⟨w.heap.size, 0, none⟩) 0 0, by rw [HOK.out]; rfl, (Below.refl _ _).alloc (Nat.le_refl _) _, fun _ => ?_⟩
  rw [HV.out]
  exact World.ownsRow_lit (size := 1) w #[] 0 (Nat.le_refl _) (by simp [maxLen]) rfl
 ·have h0' : ((openAt s.data.toList : Int) == s.size) = false := by rw [beq_eq_false_iff_ne]; omega
  have hlt : openAt s.data.toList < s.size := by omega
  have HLT := Lib.hid (openAt_get (l := s.data.toList) (by rw [len_data]; exact hlt))
  have HOK : Hid (labelOk s.data.toList = (isAction (s.data.toList.take (openAt s.data.toList)) && ((s.data.toList.getLast? == some 41) && ((labelParts s.data.toList).all numOk && decide ((labelParts s.data.toList).length ≤ 2))))) := by
   unfold Hid labelOk; rw [if_neg (by rw [len_data]; exact h0)]
  have HV : Hid (labelVals s.data.toList = (labelParts s.data.toList).map fun p => (numB p).getD 0) := by unfold Hid labelVals; rw [if_neg (by rw [len_data]; exact h0)]
  have HP : Hid (labelParts s.data.toList = splitAt 44 (s.extract (openAt s.data.toList + 1) (s.size - 1)).data.toList) := by
   unfold Hid labelParts
   rw [extract_data', len_data]
  have HA : Hid ((s.extract 0 (openAt s.data.toList)).data.toList = s.data.toList.take (openAt s.data.toList)) := by unfold Hid; rw [extract_data']; simp
  clear h0 hle
  generalize hk : openAt s.data.toList = k at *
  have HK := Lib.hid hk
  clear hk
  cases hb1 : isAction (s.data.toList.take k)
  ·have HB1 := Lib.hid hb1
   clear hb1
   go_enter Tryz.func79, Tryz.ntmps79
   go_wp2_with fail
   refine (l01Open_any _ _ hs).mono ?_
   rintro e w' ⟨rfl, rfl⟩
   rw [HK.out]
   go_wp2_with fail
   refine (l01Action_any _ _).mono ?_
   rintro e w' ⟨rfl, rfl⟩
   rw [HA.out, HB1.out]
   go_wp2_with fail
   go_ret2
   have : labelOk s.data.toList = false := by rw [HOK.out, HB1.out]; rfl
   exact ⟨.slice none 0 0, by rw [this]; rfl, Below.refl _ _, fun h => by rw [this] at h; cases h⟩
  ·have HB1 := Lib.hid hb1
   clear hb1
   have hpos : 0 < s.size := by omega
   by_cases hc : ((s[s.size - 1].toNat : Int) == 41) = true
   ·have hc' : (!((s[s.size - 1].toNat : Int) == 41)) = false := by rw [hc]; rfl
    have hc'' : ((s[s.size - 1].toNat : Int) != 41) = false := by simpa using hc
    have hl41 : (s.data.toList.getLast? == some 41) = true := by
     rw [last_data hpos, u8_eq (n := 41) (b := 41) rfl hc]; rfl
    have HL41 := Lib.hid hl41
    have hk1 : k + 1 ≤ s.size - 1 := by
     rcases Nat.lt_or_ge (k + 1) s.size with h | h
     ·omega
     ·exfalso
      have e : k = s.size - 1 := by omega
      have h40 := HLT.out
      have h41 := u8_eq (n := 41) (b := 41) rfl hc
      subst e
      rw [get_data s _ (by omega)] at h40
      rw [h40] at h41
      exact absurd h41 (by decide)
    clear hl41
    go_enter Tryz.func79, Tryz.ntmps79
    go_wp2_with fail
    refine (l01Open_any _ _ hs).mono ?_
    rintro e w' ⟨rfl, rfl⟩
    rw [HK.out]
    go_wp2_with fail
    refine (l01Action_any _ _).mono ?_
    rintro e w' ⟨rfl, rfl⟩
    rw [HA.out, HB1.out]
    go_wp2_with fail
    refine (l01Split_any _ 44 _ (by rw [ByteArray.size_extract]; omega)).mono ?_
    rintro e w1 ⟨v, ps, rfl, hb1, ho1, hp1⟩
    rw [← HP.out] at hp1
    have HPS := Lib.hid hp1
    have hpl : ps.length ≤ s.size + 1 := by
     have h1 := splitAt_len 44 (s.extract (k + 1) (s.size - 1)).data.toList
     rw [← HP.out, ← hp1, List.length_map, len_data, ByteArray.size_extract] at h1
     omega
    have hps : ∀ j (h : j < ps.length), ps[j].size ≤ 1073741824 := fun j h => by
     have hm : ps[j].data.toList ∈ splitAt 44 (s.extract (k + 1) (s.size - 1)).data.toList := by
      rw [← HP.out, ← hp1]
      exact List.mem_map.2 ⟨ps[j], List.getElem_mem _, rfl⟩
     have h1 := splitAt_mem hm
     rw [len_data, len_data, ByteArray.size_extract] at h1
     omega
    have HPZ := Lib.hid hps
    have HO1 := Lib.hid ho1
    have HB2 := Lib.hid hb1
    have hs1 := hb1.size
    have hsl := SliceK.of_owns (α := ByteArray) (enc := encS) encS_len rfl (by rw [flat_encS]; exact ho1)
    obtain ⟨ap, cp, rfl, hcp1, hcp2, hrow⟩ := hsl
    clear hp1 ho1 hb1 hps
    go_wp2_with fail
    go_loopw [6, 7] (fun v i wr => ∃ j : Nat, j ≤ ps.length ∧ i = .int .i64 j ∧ Below w.heap.size w wr ∧ w1.heap.size ≤ wr.heap.size ∧ Below w1.heap.size w1 wr ∧ wr.ownsRow w1.heap.size 2 1 v j (((ps.take j).map fun p => (numB p.data.toList).getD 0).map (Value.int .i64)) ∧ (∀ q (h : q < ps.length), q < j → numOk ps[q].data.toList = true)) (fun _ i _ => ps.length - (intOf i).toNat)
    case atStart =>
     exact ⟨0, Nat.zero_le _, rfl, HB2.out.alloc hs1 _, by simp, (Below.refl _ _).alloc (Nat.le_refl _) _, World.ownsRow_lit (size := 1) w1 #[] 0 (Nat.le_refl _) (by simp [maxLen]) rfl, fun _ _ h => by omega⟩
    case round =>
     obtain ⟨j, hj, rfl, hb, hs2, hb3, ho, hall⟩ := hrel
     have HB := Lib.hid hb
     have HO := Lib.hid ho
     have HA2 := Lib.hid hall
     have HB3 := Lib.hid hb3
     have hsz := hb.size
     clear hb ho hall hb3 HB2
     by_cases hlt : j < ps.length
     ·obtain ⟨b1, o1, rfl, -, hbs, c1⟩ := (hrow.below HB3.out).one hlt
      simp only [encS, List.getElem?_cons_zero] at c1
      have hpz := HPZ.out j hlt
      clear hrow
      cases hn : numB ps[j].data.toList with
      | none =>
       have HN := Lib.hid hn
       clear hn
       go_wp2_with fail
       refine (l01Number_any _ _ hpz).mono ?_
       rintro e w2 ⟨rfl, rfl⟩
       rw [HN.out]
       go_wp2_with fail
       go_ret2
       have : labelOk s.data.toList = false := by
        rw [HOK.out, ← HPS.out, all_none hlt (by unfold numOk; rw [HN.out])]; simp
       exact ⟨.slice none 0 0, by rw [this]; rfl, HB.out, fun h => by rw [this] at h; cases h⟩
      | some n =>
       have HN := Lib.hid hn
       clear hn
       cases hin : inB n 0 63
       ·have HIN := Lib.hid hin
        clear hin
        go_wp2_with fail
        refine (l01Number_any _ _ hpz).mono ?_
        rintro e w2 ⟨rfl, rfl⟩
        rw [HN.out]
        go_wp2_with fail
        refine (l00In_any _ _ _ _).mono ?_
        rintro e w2 ⟨rfl, rfl⟩
        rw [HIN.out]
        go_wp2_with fail
        go_ret2
        have : labelOk s.data.toList = false := by
         rw [HOK.out, ← HPS.out, all_none hlt (by unfold numOk; rw [HN.out]; exact HIN.out)]; simp
        exact ⟨.slice none 0 0, by rw [this]; rfl, HB.out, fun h => by rw [this] at h; cases h⟩
       ·have HIN := Lib.hid hin
        clear hin
        go_wp2_with fail
        refine (l01Number_any _ _ hpz).mono ?_
        rintro e w2 ⟨rfl, rfl⟩
        rw [HN.out]
        go_wp2_with fail
        refine (l00In_any _ _ _ _).mono ?_
        rintro e w2 ⟨rfl, rfl⟩
        rw [HIN.out]
        clear c1
        go_wp2_with (at_builtin; refine wpList_append_own _ rfl _ _ 69 rfl w1.heap.size 2 i0 (.int .i64 0) 1 8 Tryz.underlying69 hi hz0 hz1 hz2 rfl (by decide) _ _ _ rfl (HO.out.alloc _) ⟨wr.heap.size, 0, none⟩ 1 1 [.int .i64 n] rfl rfl ?c1 ?c2 ?c3 ?c4 ?c5 ?_)
        case c1 => exact (cell_one_new _ _ _)
        case c2 => intro u hu; simp at hu; subst hu; rfl
        case c3 => simp [maxLen]; omega
        case c4 => omega
        case c5 => simp; omega
        intro v' w3 ho1 hg1 _
        have ho2 : w3.ownsRow w1.heap.size 2 1 v' (j + 1) (((ps.take (j + 1)).map fun p => (numB p.data.toList).getD 0).map (Value.int .i64)) := by
         have e : ((ps.take (j + 1)).map fun p => (numB p.data.toList).getD 0).map (Value.int .i64) = List.take j (List.map (Value.int .i64 ∘ fun p => (numB p.data.toList).getD 0) ps) ++ [.int .i64 n] := by
          rw [List.map_map, List.map_take, List.take_succ_eq_append_getElem (by simpa using hlt)]
          simp [HN.out]
         rw [e]
         exact ho1
        have HO2 := Lib.hid ho2
        have HBX : Hid (Below w.heap.size w w3) := (HB.out.alloc hsz _).grown hg1 (by simp; omega) (fun b e => Nat.le_trans hs1 (HO.out.lt b e).1)
        have HBY : Hid (Below w1.heap.size w1 w3) := (HB3.out.alloc hs2 _).grown hg1 (by simp; omega) (fun b e => (HO.out.lt b e).1)
        have hs3 : w1.heap.size ≤ w3.heap.size := HBY.out.size
        clear ho1 ho2 hg1
        go_wp2
        go_roundw
        case rel => exact ⟨j + 1, by omega, by go_num, HBX.out, hs3, HBY.out, HO2.out, fun q h h' => by
         by_cases e : q = j
         ·subst e; unfold numOk; rw [HN.out]; exact HIN.out
         ·exact HA2.out q h (by omega)⟩
        case measure => simp [intOf]; omega
     ·obtain rfl : j = ps.length := by omega
      have hall : (ps.map (fun s => s.data.toList)).all numOk = true := by
       rw [List.all_eq_true]
       intro x hx
       obtain ⟨p, hp, rfl⟩ := List.mem_map.1 hx
       obtain ⟨q, hq, rfl⟩ := List.mem_iff_getElem.1 hp
       exact HA2.out q hq hq
      have HLK : Hid (labelOk s.data.toList = decide ((ps.length : Int) ≤ 2)) := by
       unfold Hid
       rw [HOK.out, HB1.out, HL41.out, ← HPS.out, hall, List.length_map]
       simp only [Bool.true_and]
       congr 1
       exact propext (by omega)
      have hvl : labelVals s.data.toList = (ps.take ps.length).map fun p => (numB p.data.toList).getD 0 := by
       rw [HV.out, ← HPS.out, List.take_length, List.map_map]; rfl
      have HVL := Lib.hid hvl
      clear hall hvl hrow
      obtain ⟨av, cv, hv, -, -⟩ := owns_slice HO.out
      subst hv
      go_wp2_with fail
      go_ret2
      exact ⟨_, by rw [HLK.out]; rfl, HB.out, fun _ => by rw [HVL.out, List.length_map, List.take_length]; exact own_lower (by have := HO.out; rw [List.take_length] at this; exact this) hs1⟩
   ·have hc' : ((s[s.size - 1].toNat : Int) == 41) = false := by simpa using hc
    have hc'' : (!((s[s.size - 1].toNat : Int) == 41)) = true := by rw [hc']; rfl
    have hl41 : (s.data.toList.getLast? == some 41) = false := by
     rw [last_data hpos]
     have := u8_ne (n := 41) (b := 41) rfl hc'
     simpa using this
    have HL41 := Lib.hid hl41
    clear hl41 hc
    go_enter Tryz.func79, Tryz.ntmps79
    go_wp2_with fail
    refine (l01Open_any _ _ hs).mono ?_
    rintro e w' ⟨rfl, rfl⟩
    rw [HK.out]
    go_wp2_with fail
    refine (l01Action_any _ _).mono ?_
    rintro e w' ⟨rfl, rfl⟩
    rw [HA.out, HB1.out]
    go_wp2_with fail
    go_ret2
    have : labelOk s.data.toList = false := by rw [HOK.out, HL41.out]; simp
    exact ⟨.slice none 0 0, by rw [this]; rfl, Below.refl _ _, fun h => by rw [this] at h; cases h⟩

theorem l01Label_any (s : ByteArray) (w : World) (hs : s.size ≤ 1073741824) : Calls Tryz.prog 56 #[.string s] w fun e w' => e = .returned (.bool (labelOk s.data.toList)) ∧ Below w.heap.size w w' := by
 go_enter Tryz.func56, Tryz.ntmps56
 go_wp2_with fail
 refine (l01Values_any _ _ hs).mono ?_
 rintro e w' ⟨v, rfl, hb, -⟩
 go_wp2_with fail
 go_ret
 exact ⟨rfl, hb⟩

end Go.Proofs.YtjoacldbgnphkaaGreatDoor

namespace Go.Proofs.YtjoacldbgnphkaaGreatDoor
open Go Go.RowKit

set_option maxHeartbeats 1000000 in
theorem l11Less_any (ba oa bb ob : Nat) (a b : Edge) (w : World) (ha : EdgeCells w ba oa a) (hb : EdgeCells w bb ob b) :
  Calls Tryz.prog 37 #[.pointer (some ⟨ba, oa, none⟩), .pointer (some ⟨bb, ob, none⟩)] w fun e w' => e = .returned (.bool (edgeLess a b)) ∧ Below w.heap.size w w' := by
 obtain ⟨a1, a2, a3⟩ := ha
 obtain ⟨b1, b2, b3⟩ := hb
 by_cases h1 : (a.src != b.src) = true
 ·have HF : Hid (edgeLess a b = decide (a.src < b.src)) := by unfold Hid edgeLess; rw [if_pos (by simpa using h1)]
  go_enter Tryz.func37, Tryz.ntmps37
  go_wp2
  go_quiet (fail)
  go_wp2
  go_quiet (fail)
  go_wp2
  go_ret
  exact ⟨ret_bool HF.out.symm, drews (drews (Below.refl _ _) _) _⟩
 ·have h1' : (a.src != b.src) = false := by simpa using h1
  clear h1
  by_cases h2 : (a.lab != b.lab) = true
  ·have HF : Hid (edgeLess a b = decide (a.lab < b.lab)) := by unfold Hid edgeLess; rw [if_neg (by simpa using h1'), if_pos (by simpa using h2)]
   go_enter Tryz.func37, Tryz.ntmps37
   go_wp2
   go_quiet (fail)
   go_wp2
   go_quiet (fail)
   go_wp2
   go_quiet (fail)
   go_wp2
   go_ret
   exact ⟨ret_bool HF.out.symm, drews (drews (drews (Below.refl _ _) _) _) _⟩
  ·have h2' : (a.lab != b.lab) = false := by simpa using h2
   have HF : Hid (edgeLess a b = decide (a.dst < b.dst)) := by unfold Hid edgeLess; rw [if_neg (by simpa using h1'), if_neg (by simpa using h2')]
   clear h2
   go_enter Tryz.func37, Tryz.ntmps37
   go_wp2
   go_quiet (fail)
   go_wp2
   go_quiet (fail)
   go_wp2
   go_quiet (fail)
   go_wp2
   go_ret
   exact ⟨ret_bool HF.out.symm, drews (drews (drews (Below.refl _ _) _) _) _⟩

set_option maxRecDepth 100000 in
set_option maxHeartbeats 1000000 in
theorem l11Names_any (v : Value) (lo : Nat) (ls : List ByteArray) (w : World) (hsh : Short ls) (hv : SliceK 1 encS lo w v ls) : Calls Tryz.prog 36 #[v] w (Decides (LabelsOk ls) w) := by
 have HSH := Lib.hid hsh
 obtain ⟨a, cap, rfl, hn, hcap, hr⟩ := hv
 clear hsh
 by_cases h0 : ls.length = 0
 ·have h0' : ((ls.length : Int) == 0) = true := by simp [h0]
  clear h0
  go_enter Tryz.func36, Tryz.ntmps36
  go_wp2_with fail
  go_ret
  refine ⟨false, rfl, ?_, Below.refl _ _⟩
  refine ⟨(fun h => by cases h), fun h => ?_⟩
  have := h.pos
  rw [beq_iff_eq] at h0'
  omega
 ·have h0' : ((ls.length : Int) == 0) = false := by rw [beq_eq_false_iff_ne]; omega
  have hpos : 0 < ls.length := by omega
  clear h0
  by_cases h1 : 12 < ls.length
  ·have h1' : decide (12 < (ls.length : Int)) = true := by simp; omega
   go_enter Tryz.func36, Tryz.ntmps36
   go_wp2_with fail
   go_ret
   refine ⟨false, rfl, ⟨(fun h => by cases h), fun h => ?_⟩, Below.refl _ _⟩
   have := h.most
   omega
  ·have h1' : decide (12 < (ls.length : Int)) = false := by simp; omega
   obtain ⟨b, off, rfl, -, hb, c0⟩ := hr.one hpos
   simp only [encS, List.getElem?_cons_zero, Nat.add_zero] at c0
   by_cases h2 : (ls[0].toList == [116, 97, 117]) = true
   ·have h2' : (!(ls[0].toList == [116, 97, 117])) = false := by rw [h2]; rfl
    have HT : Hid (ls[0].toList = tauB) := eq_of_beq h2
    go_enter Tryz.func36, Tryz.ntmps36
    go_wp2_with fail
    clear h2 h2' c0 h0' h1'
    go_loopw [3] (fun i wr => ∃ m : Nat, m + 1 ≤ ls.length ∧ i = .int .i64 ((m : Int) + 1) ∧ Below w.heap.size w wr ∧ (∀ q (h : q < ls.length), 1 ≤ q → q ≤ m → labelOk ls[q].data.toList = true ∧ ls[q].toList ≠ tauB) ∧ (∀ q (h : q + 1 < ls.length), 1 ≤ q → q + 1 ≤ m → strLess ls[q] ls[q + 1] = true)) (fun i _ => ls.length - (intOf i).toNat)
    case atStart => exact ⟨0, by omega, rfl, Below.refl _ _, fun _ _ _ _ => by omega, fun _ _ _ _ => by omega⟩
    case round =>
     obtain ⟨m, hm, rfl, hbl, hl1, hl2⟩ := hrel
     have HBL := Lib.hid hbl
     have HL1 := Lib.hid hl1
     have HL2 := Lib.hid hl2
     have hsz := hbl.size
     clear hl1 hl2
     by_cases hlt : m + 1 < ls.length
     ·have hle : (m : Int) + 1 < ls.length := by omega
      have hshk := HSH.out (m + 1) hlt
      obtain ⟨_, _, e1, -, hb1, c1⟩ := (hr.below hbl).one hlt
      simp only [Option.some.injEq, Addr.mk.injEq, and_true] at e1
      obtain ⟨rfl, rfl⟩ := e1
      obtain ⟨_, _, e1, -, -, c2⟩ := (hr.below hbl).one (show m < ls.length by omega)
      simp only [Option.some.injEq, Addr.mk.injEq, and_true] at e1
      obtain ⟨rfl, rfl⟩ := e1
      simp only [encS, List.getElem?_cons_zero] at c1 c2
      replace c1 := later_cell hb1 c1
      replace c2 := later_cell hb1 c2
      clear hbl hr
      have hcl := fun W => l01Label_any ls[m + 1] W hshk
      cases hA : labelOk ls[m + 1].data.toList
      ·rw [hA] at hcl
       have HA := Lib.hid hA
       have HCL := Lib.hid hcl
       clear hcl hA
       go_wp2
       refine wp_region_later (by kernel_rfl) (by kernel_rfl) ?_
       repeat (go_big_quiet_step ((go_at_call 56; exact later_call (HCL.out _))))
       refine wpQuiet_nil ?_
       intro _ hw9
       obtain ⟨nl, hw8⟩ := hw9
       subst hw8
       go_wp2
       go_ret
       refine ⟨false, rfl, ⟨(fun h => by cases h), fun h => ?_⟩, HBL.out.trans (nl.h.mono hsz)⟩
       have := h.label (m + 1) hlt (by omega)
       rw [HA.out] at this
       cases this
      ·rw [hA] at hcl
       have HA := Lib.hid hA
       have HCL := Lib.hid hcl
       clear hcl hA
       cases hB : (ls[m + 1].toList == [116, 97, 117])
       ·have HB : Hid (ls[m + 1].toList ≠ tauB) := fun e => by rw [e] at hB; simp [tauB] at hB
        by_cases hm1 : 1 ≤ m
        ·have g1 : decide (1 < (m : Int) + 1) = true := by simp; omega
         have g2 : (0 : Int) < m := by omega
         have g3 : 0 < m := by omega
         clear hm1
         cases hD : Op.bytesLess ls[m].toList ls[m + 1].toList
         ·go_wp2
          refine wp_region_later (by kernel_rfl) (by kernel_rfl) ?_
          repeat (go_big_quiet_step ((go_at_call 56; exact later_call (HCL.out _))))
          refine wpQuiet_nil ?_
          intro _ hw9
          obtain ⟨nl, hw8⟩ := hw9
          subst hw8
          go_wp2
          go_ret
          refine ⟨false, rfl, ⟨(fun h => by cases h), fun h => ?_⟩, HBL.out.trans (nl.h.mono hsz)⟩
          have := h.rise m hlt (by omega)
          unfold strLess at this
          rw [hD] at this
          cases this
         ·go_wp2
          refine wp_region_later (by kernel_rfl) (by kernel_rfl) ?_
          repeat (go_big_quiet_step ((go_at_call 56; exact later_call (HCL.out _))))
          refine wpQuiet_nil ?_
          intro _ hw9
          obtain ⟨nl, hw8⟩ := hw9
          subst hw8
          go_wp2
          go_roundw
          case rel => exact ⟨m + 1, by omega, by go_num, HBL.out.trans (nl.h.mono hsz), fun q h h1 h2 => by
            by_cases e : q = m + 1
            ·subst e; exact ⟨HA.out, HB.out⟩
            ·exact HL1.out q h h1 (by omega), fun q h h1 h2 => by
            by_cases e : q = m
            ·subst e; exact hD
            ·exact HL2.out q h h1 (by omega)⟩
          case measure => simp [intOf]; omega
        ·have g1 : decide (1 < (m : Int) + 1) = false := by simp; omega
         have hm0 : m ≤ 0 := by omega
         clear hm1
         go_wp2
         refine wp_region_later (by kernel_rfl) (by kernel_rfl) ?_
         repeat (go_big_quiet_step ((go_at_call 56; exact later_call (HCL.out _))))
         refine wpQuiet_nil ?_
         intro _ hw9
         obtain ⟨nl, hw8⟩ := hw9
         subst hw8
         go_wp2
         go_roundw
         case rel => exact ⟨m + 1, by omega, by go_num, HBL.out.trans (nl.h.mono hsz), fun q h h1 h2 => by
           obtain rfl : q = m + 1 := by omega
           exact ⟨HA.out, HB.out⟩, fun q h h1 h2 => by omega⟩
         case measure => simp [intOf]; omega
       ·have HB : Hid (ls[m + 1].toList = tauB) := eq_of_beq hB
        go_wp2
        refine wp_region_later (by kernel_rfl) (by kernel_rfl) ?_
        repeat (go_big_quiet_step ((go_at_call 56; exact later_call (HCL.out _))))
        refine wpQuiet_nil ?_
        intro _ hw9
        obtain ⟨nl, hw8⟩ := hw9
        subst hw8
        go_wp2
        go_ret
        refine ⟨false, rfl, ⟨(fun h => by cases h), fun h => ?_⟩, HBL.out.trans (nl.h.mono hsz)⟩
        exact absurd HB.out (h.other (m + 1) hlt (by omega))
     ·clear hr
      go_wp2
      go_ret
      refine ⟨true, rfl, ⟨fun _ => ?_, fun _ => rfl⟩, HBL.out⟩
      exact ⟨hpos, by omega, fun _ => HT.out, fun i h h1 => (HL1.out i h h1 (by omega)).1, fun i h h1 => (HL1.out i h h1 (by omega)).2, fun i h h1 => HL2.out i h h1 (by omega)⟩
   ·have h2' : (!(ls[0].toList == [116, 97, 117])) = true := by simpa using h2
    have h2'' : (ls[0].toList == [116, 97, 117]) = false := by simpa using h2
    clear h2
    go_enter Tryz.func36, Tryz.ntmps36
    go_wp2_with fail
    go_ret
    refine ⟨false, rfl, ⟨(fun h => by cases h), fun h => ?_⟩, Below.refl _ _⟩
    have := h.first hpos
    rw [this] at h2''
    simp [tauB] at h2''

end Go.Proofs.YtjoacldbgnphkaaGreatDoor
