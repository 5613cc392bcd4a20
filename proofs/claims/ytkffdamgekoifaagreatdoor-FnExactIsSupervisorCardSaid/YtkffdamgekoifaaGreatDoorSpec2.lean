/-
  What the reference's functions on labels compute.
-/
import Derived.Test.YtkffdamgekoifaaGreatDoorSpec1
namespace Go.Proofs.YtkffdamgekoifaaGreatDoor
open Go Go.RowKit

def inB (n a b : Int) : Bool := decide (a ≤ n) && decide (n ≤ b)
theorem l00In_any (n a b : Int) (w : World) : Calls Tryz.prog 51 #[.int .i64 n, .int .i64 a, .int .i64 b] w fun e w' => e = .returned (.bool (inB n a b)) ∧ w = w' := by
  by_cases h : a ≤ n
  · have hf : Hid (inB n a b = decide (n ≤ b)) := by unfold Hid inB; rw [decide_eq_true h, Bool.true_and]
    go_enter Tryz.func51, Tryz.ntmps51
    go_wp2
    go_ret
    exact ⟨ret_bool hf.out.symm, rfl⟩
  · have hf : Hid (inB n a b = false) := by unfold Hid inB; rw [decide_eq_false h, Bool.false_and]
    go_enter Tryz.func51, Tryz.ntmps51
    go_wp2
    go_ret
    exact ⟨ret_bool hf.out.symm, rfl⟩

/-- The values of a label and whether it is one. -/
def RetVals (l : List UInt8) (w : World) (e : Ending) (w' : World) : Prop :=
  ∃ v, e = .returned (.tuple #[v, .bool (labelOk l)]) ∧ Below w.heap.size w w' ∧ (labelOk l = true → w'.ownsRow w.heap.size 2 1 v (labelVals l).length ((labelVals l).map (Value.int .i64)))

set_option maxRecDepth 100000 in
set_option maxHeartbeats 4000000 in
theorem l01Values_any (s : ByteArray) (w : World) (hs : s.size ≤ 1073741824) : Calls Tryz.prog 78 #[.string s] w (RetVals s.data.toList w) := by
  obtain ⟨i0, hi, hz0, hz1, hz2⟩ := info_parts info_int64
  have hle := openAt_le s.data.toList
  rw [len_data] at hle
  by_cases h0 : openAt s.data.toList = s.size
  · have h0' : ((openAt s.data.toList : Int) == s.size) = true := by simp [h0]
    have HOK : Hid (labelOk s.data.toList = isName s.data.toList) := by unfold Hid labelOk; rw [if_pos (by rw [len_data]; exact h0)]
    have HV : Hid (labelVals s.data.toList = []) := by unfold Hid labelVals; rw [if_pos (by rw [len_data]; exact h0)]
    clear h0
    generalize hk : openAt s.data.toList = k at *
    have HK := Lib.hid hk
    clear hk
    go_enter Tryz.func78, Tryz.ntmps78
    go_wp2_with fail
    refine (l01Open_any _ _ hs).mono ?_
    rintro e w' ⟨rfl, rfl⟩
    rw [HK.out]
    go_wp2_with fail
    refine (l01Name_any _ _).mono ?_
    rintro e w' ⟨rfl, rfl⟩
    go_wp2_with fail
    go_ret2
    refine ⟨.slice (some ⟨w.heap.size, 0, none⟩) 0 0, by rw [HOK.out]; rfl, (Below.refl _ _).alloc (Nat.le_refl _) _, fun _ => ?_⟩
    rw [HV.out]
    exact World.ownsRow_lit (size := 1) w #[] 0 (Nat.le_refl _) (by simp [maxLen]) rfl
  · have h0' : ((openAt s.data.toList : Int) == s.size) = false := by rw [beq_eq_false_iff_ne]; omega
    have hlt : openAt s.data.toList < s.size := by omega
    have HLT := Lib.hid (openAt_get (l := s.data.toList) (by rw [len_data]; exact hlt))
    have HOK : Hid (labelOk s.data.toList = (isAction (s.data.toList.take (openAt s.data.toList)) && ((s.data.toList.getLast? == some 41) && ((labelParts s.data.toList).all numOk && decide ((labelParts s.data.toList).length ≤ 2))))) := by
      unfold Hid labelOk; rw [if_neg (by rw [len_data]; exact h0)]
    have HV : Hid (labelVals s.data.toList = (labelParts s.data.toList).map fun p => (numB p).getD 0) := by unfold Hid labelVals; rw [if_neg (by rw [len_data]; exact h0)]
    have HP : Hid (labelParts s.data.toList = splitAt 44 (s.extract (openAt s.data.toList + 1) (s.size - 1)).data.toList) := by
      unfold Hid labelParts
      rw [extract_data', len_data]
    have HA : Hid ((s.extract 0 (openAt s.data.toList)).data.toList = s.data.toList.take (openAt s.data.toList)) := by unfold Hid; rw [extract_data']; simp
    clear h0 hle
    generalize hk : openAt s.data.toList = k at *
    have HK := Lib.hid hk
    clear hk
    cases hb1 : isAction (s.data.toList.take k)
    · have HB1 := Lib.hid hb1
      clear hb1
      go_enter Tryz.func78, Tryz.ntmps78
      go_wp2_with fail
      refine (l01Open_any _ _ hs).mono ?_
      rintro e w' ⟨rfl, rfl⟩
      rw [HK.out]
      go_wp2_with fail
      refine (l01Action_any _ _).mono ?_
      rintro e w' ⟨rfl, rfl⟩
      rw [HA.out, HB1.out]
      go_wp2_with fail
      go_ret2
      have : labelOk s.data.toList = false := by rw [HOK.out, HB1.out]; rfl
      exact ⟨.slice none 0 0, by rw [this]; rfl, Below.refl _ _, fun h => by rw [this] at h; cases h⟩
    · have HB1 := Lib.hid hb1
      clear hb1
      have hpos : 0 < s.size := by omega
      by_cases hc : ((s[s.size - 1].toNat : Int) == 41) = true
      · have hc' : (!((s[s.size - 1].toNat : Int) == 41)) = false := by rw [hc]; rfl
        have hc'' : ((s[s.size - 1].toNat : Int) != 41) = false := by simpa using hc
        have hl41 : (s.data.toList.getLast? == some 41) = true := by
          rw [last_data hpos, u8_eq (n := 41) (b := 41) rfl hc]; rfl
        have HL41 := Lib.hid hl41
        have hk1 : k + 1 ≤ s.size - 1 := by
          rcases Nat.lt_or_ge (k + 1) s.size with h | h
          · omega
          · exfalso
            have e : k = s.size - 1 := by omega
            have h40 := HLT.out
            have h41 := u8_eq (n := 41) (b := 41) rfl hc
            subst e
            rw [get_data s _ (by omega)] at h40
            rw [h40] at h41
            exact absurd h41 (by decide)
        clear hl41
        go_enter Tryz.func78, Tryz.ntmps78
        go_wp2_with fail
        refine (l01Open_any _ _ hs).mono ?_
        rintro e w' ⟨rfl, rfl⟩
        rw [HK.out]
        go_wp2_with fail
        refine (l01Action_any _ _).mono ?_
        rintro e w' ⟨rfl, rfl⟩
        rw [HA.out, HB1.out]
        go_wp2_with fail
        refine (l01Split_any _ 44 _ (by rw [ByteArray.size_extract]; omega)).mono ?_
        rintro e w1 ⟨v, ps, rfl, hb1, ho1, hp1⟩
        rw [← HP.out] at hp1
        have HPS := Lib.hid hp1
        have hpl : ps.length ≤ s.size + 1 := by
          have h1 := splitAt_len 44 (s.extract (k + 1) (s.size - 1)).data.toList
          rw [← HP.out, ← hp1, List.length_map, len_data, ByteArray.size_extract] at h1
          omega
        have hps : ∀ j (h : j < ps.length), ps[j].size ≤ 1073741824 := fun j h => by
          have hm : ps[j].data.toList ∈ splitAt 44 (s.extract (k + 1) (s.size - 1)).data.toList := by
            rw [← HP.out, ← hp1]
            exact List.mem_map.2 ⟨ps[j], List.getElem_mem _, rfl⟩
          have h1 := splitAt_mem hm
          rw [len_data, len_data, ByteArray.size_extract] at h1
          omega
        have HPZ := Lib.hid hps
        have HO1 := Lib.hid ho1
        have HB2 := Lib.hid hb1
        have hs1 := hb1.size
        have hsl := SliceK.of_owns (α := ByteArray) (enc := encS) encS_len rfl (by rw [flat_encS]; exact ho1)
        obtain ⟨ap, cp, rfl, hcp1, hcp2, hrow⟩ := hsl
        clear hp1 ho1 hb1 hps
        go_wp2_with fail
        go_loopw [6, 7] (fun v i wr => ∃ j : Nat, j ≤ ps.length ∧ i = .int .i64 j ∧ Below w.heap.size w wr ∧ w1.heap.size ≤ wr.heap.size ∧ Below w1.heap.size w1 wr ∧ wr.ownsRow w1.heap.size 2 1 v j (((ps.take j).map fun p => (numB p.data.toList).getD 0).map (Value.int .i64)) ∧ (∀ q (h : q < ps.length), q < j → numOk ps[q].data.toList = true)) (fun _ i _ => ps.length - (intOf i).toNat)
        case atStart =>
          exact ⟨0, Nat.zero_le _, rfl, HB2.out.alloc hs1 _, by simp, (Below.refl _ _).alloc (Nat.le_refl _) _, World.ownsRow_lit (size := 1) w1 #[] 0 (Nat.le_refl _) (by simp [maxLen]) rfl, fun _ _ h => by omega⟩
        case round =>
          obtain ⟨j, hj, rfl, hb, hs2, hb3, ho, hall⟩ := hrel
          have HB := Lib.hid hb
          have HO := Lib.hid ho
          have HA2 := Lib.hid hall
          have HB3 := Lib.hid hb3
          have hsz := hb.size
          clear hb ho hall hb3 HB2
          by_cases hlt : j < ps.length
          · obtain ⟨b1, o1, rfl, -, hbs, c1⟩ := (hrow.below HB3.out).one hlt
            simp only [encS, List.getElem?_cons_zero] at c1
            have hpz := HPZ.out j hlt
            clear hrow
            cases hn : numB ps[j].data.toList with
            | none =>
              have HN := Lib.hid hn
              clear hn
              go_wp2_with fail
              refine (l01Number_any _ _ hpz).mono ?_
              rintro e w2 ⟨rfl, rfl⟩
              rw [HN.out]
              go_wp2_with fail
              go_ret2
              have : labelOk s.data.toList = false := by
                rw [HOK.out, ← HPS.out, all_none hlt (by unfold numOk; rw [HN.out])]; simp
              exact ⟨.slice none 0 0, by rw [this]; rfl, HB.out, fun h => by rw [this] at h; cases h⟩
            | some n =>
              have HN := Lib.hid hn
              clear hn
              cases hin : inB n 0 63
              · have HIN := Lib.hid hin
                clear hin
                go_wp2_with fail
                refine (l01Number_any _ _ hpz).mono ?_
                rintro e w2 ⟨rfl, rfl⟩
                rw [HN.out]
                go_wp2_with fail
                refine (l00In_any _ _ _ _).mono ?_
                rintro e w2 ⟨rfl, rfl⟩
                rw [HIN.out]
                go_wp2_with fail
                go_ret2
                have : labelOk s.data.toList = false := by
                  rw [HOK.out, ← HPS.out, all_none hlt (by unfold numOk; rw [HN.out]; exact HIN.out)]; simp
                exact ⟨.slice none 0 0, by rw [this]; rfl, HB.out, fun h => by rw [this] at h; cases h⟩
              · have HIN := Lib.hid hin
                clear hin
                go_wp2_with fail
                refine (l01Number_any _ _ hpz).mono ?_
                rintro e w2 ⟨rfl, rfl⟩
                rw [HN.out]
                go_wp2_with fail
                refine (l00In_any _ _ _ _).mono ?_
                rintro e w2 ⟨rfl, rfl⟩
                rw [HIN.out]
                clear c1
                go_wp2_with (at_builtin; refine wpList_append_own _ rfl _ _ 26 rfl w1.heap.size 2 i0 (.int .i64 0) 1 8 Tryz.underlying26 hi hz0 hz1 hz2 rfl (by decide) _ _ _ rfl (HO.out.alloc _) ⟨wr.heap.size, 0, none⟩ 1 1 [.int .i64 n] rfl rfl ?c1 ?c2 ?c3 ?c4 ?c5 ?_)
                case c1 => exact (cell_one_new _ _ _)
                case c2 => intro u hu; simp at hu; subst hu; rfl
                case c3 => simp [maxLen]; omega
                case c4 => omega
                case c5 => simp; omega
                intro v' w3 ho1 hg1 _
                have ho2 : w3.ownsRow w1.heap.size 2 1 v' (j + 1) (((ps.take (j + 1)).map fun p => (numB p.data.toList).getD 0).map (Value.int .i64)) := by
                  have e : ((ps.take (j + 1)).map fun p => (numB p.data.toList).getD 0).map (Value.int .i64) = List.take j (List.map (Value.int .i64 ∘ fun p => (numB p.data.toList).getD 0) ps) ++ [.int .i64 n] := by
                    rw [List.map_map, List.map_take, List.take_succ_eq_append_getElem (by simpa using hlt)]
                    simp [HN.out]
                  rw [e]
                  exact ho1
                have HO2 := Lib.hid ho2
                have HBX : Hid (Below w.heap.size w w3) := (HB.out.alloc hsz _).grown hg1 (by simp; omega) (fun b e => Nat.le_trans hs1 (HO.out.lt b e).1)
                have HBY : Hid (Below w1.heap.size w1 w3) := (HB3.out.alloc hs2 _).grown hg1 (by simp; omega) (fun b e => (HO.out.lt b e).1)
                have hs3 : w1.heap.size ≤ w3.heap.size := HBY.out.size
                clear ho1 ho2 hg1
                go_wp2
                go_roundw
                case rel => exact ⟨j + 1, by omega, by go_num, HBX.out, hs3, HBY.out, HO2.out, fun q h h' => by
                  by_cases e : q = j
                  · subst e; unfold numOk; rw [HN.out]; exact HIN.out
                  · exact HA2.out q h (by omega)⟩
                case measure => simp [intOf]; omega
          · obtain rfl : j = ps.length := by omega
            have hall : (ps.map (fun s => s.data.toList)).all numOk = true := by
              rw [List.all_eq_true]
              intro x hx
              obtain ⟨p, hp, rfl⟩ := List.mem_map.1 hx
              obtain ⟨q, hq, rfl⟩ := List.mem_iff_getElem.1 hp
              exact HA2.out q hq hq
            have HLK : Hid (labelOk s.data.toList = decide ((ps.length : Int) ≤ 2)) := by
              unfold Hid
              rw [HOK.out, HB1.out, HL41.out, ← HPS.out, hall, List.length_map]
              simp only [Bool.true_and]
              congr 1
              exact propext (by omega)
            have hvl : labelVals s.data.toList = (ps.take ps.length).map fun p => (numB p.data.toList).getD 0 := by
              rw [HV.out, ← HPS.out, List.take_length, List.map_map]; rfl
            have HVL := Lib.hid hvl
            clear hall hvl hrow
            obtain ⟨av, cv, hv, -, -⟩ := owns_slice HO.out
            subst hv
            go_wp2_with fail
            go_ret2
            exact ⟨_, by rw [HLK.out]; rfl, HB.out, fun _ => by rw [HVL.out, List.length_map, List.take_length]; exact own_lower (by have := HO.out; rw [List.take_length] at this; exact this) hs1⟩
      · have hc' : ((s[s.size - 1].toNat : Int) == 41) = false := by simpa using hc
        have hc'' : (!((s[s.size - 1].toNat : Int) == 41)) = true := by rw [hc']; rfl
        have hl41 : (s.data.toList.getLast? == some 41) = false := by
          rw [last_data hpos]
          have := u8_ne (n := 41) (b := 41) rfl hc'
          simpa using this
        have HL41 := Lib.hid hl41
        clear hl41 hc
        go_enter Tryz.func78, Tryz.ntmps78
        go_wp2_with fail
        refine (l01Open_any _ _ hs).mono ?_
        rintro e w' ⟨rfl, rfl⟩
        rw [HK.out]
        go_wp2_with fail
        refine (l01Action_any _ _).mono ?_
        rintro e w' ⟨rfl, rfl⟩
        rw [HA.out, HB1.out]
        go_wp2_with fail
        go_ret2
        have : labelOk s.data.toList = false := by rw [HOK.out, HL41.out]; simp
        exact ⟨.slice none 0 0, by rw [this]; rfl, Below.refl _ _, fun h => by rw [this] at h; cases h⟩

theorem l01Label_any (s : ByteArray) (w : World) (hs : s.size ≤ 1073741824) : Calls Tryz.prog 67 #[.string s] w fun e w' => e = .returned (.bool (labelOk s.data.toList)) ∧ Below w.heap.size w w' := by
  go_enter Tryz.func67, Tryz.ntmps67
  go_wp2_with fail
  refine (l01Values_any _ _ hs).mono ?_
  rintro e w' ⟨v, rfl, hb, -⟩
  go_wp2_with fail
  go_ret
  exact ⟨rfl, hb⟩

end Go.Proofs.YtkffdamgekoifaaGreatDoor
