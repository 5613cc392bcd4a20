/-
  The marks that the package laws writes into lists of numbers, and whether they still stand there.
  The marks that the package laws writes into memory, and whether they still stand there.
  Marks in lists of lists, and that they still stand.
-/
import Derived.Test.YtbjbjbnbapeajaaGreatDoorQ10
import Derived.Test.YtbjbjbnbapeajaaGreatDoorQ15
namespace Go.Proofs.YtbjbjbnbapeajaaGreatDoor
open Go Go.RowKit

set_option maxRecDepth 100000 in
set_option maxHeartbeats 400000 in
theorem markInt64S_any (lo : Nat) (v : Value) (cs : List Value) (k : Int) (w : World) (h1 : 0 ≤ k) (h2 : k + cs.length ≤ 1000000000) (hv : w.ownsRow lo 2 1 v cs.length cs) :
  Calls Tryz.prog 38 #[v, .int .i64 k] w (Marked w v (k + cs.length) (fun w' => w'.ownsRow lo 2 1 v cs.length (marked k cs cs.length))) := by
 have HV := Lib.hid hv
 rcases hv.2 with ⟨rfl, h0⟩ | ⟨b, cap, cur, rfl, -, -, hcap, hm, -⟩
 ·clear hv
  have hcs : cs = [] := List.eq_nil_of_length_eq_zero h0
  subst hcs
  go_enter Tryz.func38, Tryz.ntmps38
  go_wp2
  go_loop [1, 5] (fun q i => q = .int .i64 k ∧ i = .int .i64 0) (fun _ _ => 0)
  case atStart => exact ⟨rfl, rfl⟩
  case round =>
   obtain ⟨rfl, rfl⟩ := hrel
   go_wp2
   go_ret
   exact ⟨ret_int (by simp), grown_refl _ _, by rw [marked_zero]; exact HV.out⟩
 ·clear hv
  go_enter Tryz.func38, Tryz.ntmps38
  go_wp2
  go_loopw [1, 5] (fun q i wr => ∃ j : Nat, j ≤ cs.length ∧ q = .int .i64 (k + j) ∧ i = .int .i64 j ∧ w.grownBy wr (some b) ∧ wr.ownsRow lo 2 1 (.slice (some ⟨b, 0, none⟩) cs.length cap) cs.length (marked k cs j)) (fun _ i _ => cs.length - (intOf i).toNat)
  case atStart => exact ⟨0, Nat.zero_le _, by simp, rfl, grown_refl _ _, by rw [marked_zero]; exact HV.out⟩
  case round =>
   obtain ⟨j, hj, rfl, rfl, hg, ho⟩ := hrel
   by_cases hlt : j < cs.length
   ·have c1 := ho.cellAt j (by omega)
    rw [marked_get _ _ _ hlt] at c1
    have f1 := ho.frozenAt j
    have ho2 := ho.stored j (.int .i64 (k + j))
    rw [marked_set _ _ _ hlt] at ho2
    have HO := Lib.hid ho2
    have HG := Lib.hid hg
    clear ho ho2 hg HV
    go_wp2
    go_roundw
    case rel => exact ⟨j + 1, by omega, by go_num, by go_num, grown_trans HG.out HO.out.2, HO.out.1⟩
    case measure => simp [intOf]; omega
   ·go_wp2
    go_ret
    obtain rfl : j = cs.length := by omega
    exact ⟨rfl, hg, ho⟩


set_option maxRecDepth 100000 in
set_option maxHeartbeats 400000 in
theorem heldInt64S_same (v : Value) (lo n : Nat) (k : Int) (w : World) (h1 : 0 ≤ k) (h2 : k + n ≤ 1000000000) (hv : SliceK 1 encI lo w v (seqI k n)) :
  Calls Tryz.prog 39 #[v, .int .i64 k] w fun e w' => e = .returned (.int .i64 (k + n)) ∧ w = w' := by
 obtain ⟨a, cap, rfl, hn, hcap, hr⟩ := hv
 have hl : (seqI k n).length = n := by simp [seqI]
 rw [hl] at hn ⊢
 have HL := Lib.hid hl
 clear hl
 go_enter Tryz.func39, Tryz.ntmps39
 go_wp2
 go_loop [1, 5] (fun q i => ∃ j : Nat, j ≤ n ∧ q = .int .i64 (k + j) ∧ i = .int .i64 j) (fun _ i => n - (intOf i).toNat)
 case atStart => exact ⟨0, Nat.zero_le _, by simp, rfl⟩
 case round =>
  obtain ⟨j, hj, rfl, rfl⟩ := hrel
  by_cases hlt : j < n
  ·obtain ⟨b, off, rfl, -, -, c1⟩ := hr.one (i := j) (by rw [HL.out]; exact hlt)
   simp only [encI, List.getElem?_cons_zero, seqI, List.getElem_map, List.getElem_range] at c1
   clear hr
   go_wp2
   go_round
   case rel => exact ⟨j + 1, by omega, by go_num, by go_num⟩
   case measure => simp [intOf]; omega
  ·clear hr
   go_wp2
   go_ret
   obtain rfl : j = n := by omega
   exact ⟨rfl, rfl⟩

end Go.Proofs.YtbjbjbnbapeajaaGreatDoor

namespace Go.Proofs.YtbjbjbnbapeajaaGreatDoor
open Go Go.RowKit



set_option maxHeartbeats 400000 in
theorem heldInt64SS_same (v : Value) (lo : Nat) (xss : List (List Int)) (k : Int) (w : World) (h1 : 0 ≤ k) (h2 : k + total xss ≤ 1000000000) (hv : IntssAt lo w v (renum k xss)) :
  Calls Tryz.prog 16 #[v, .int .i64 k] w fun e w' => e = .returned (.int .i64 (k + total xss)) ∧ w = w' := by
 obtain ⟨vs, hvl, ⟨a, cap, rfl, hn, hcap, hr⟩, hvs⟩ := hv
 rw [renum_len] at hvl
 have HV := Lib.hid hvs
 have HL := Lib.hid hvl
 clear hvs hvl
 go_enter Tryz.func16, Tryz.ntmps16
 go_wp2
 go_loop [1, 5] (fun q i => ∃ j : Nat, j ≤ vs.length ∧ q = .int .i64 (k + total (xss.take j)) ∧ i = .int .i64 j) (fun _ i => vs.length - (intOf i).toNat)
 case atStart => exact ⟨0, Nat.zero_le _, by simp [total], rfl⟩
 case round =>
  obtain ⟨j, hj, rfl, rfl⟩ := hrel
  by_cases hlt : j < vs.length
  ·have hx : j < xss.length := by rw [← HL.out]; exact hlt
   obtain ⟨b, off, rfl, -, -, c1⟩ := hr.one hlt
   have s1 := HV.out j hlt (by rw [renum_len]; exact hx)
   rw [renum_get _ _ _ hx] at s1
   have ht := total_take xss j hx
   have htl := total_take_le xss (j + 1)
   simp only [encV, List.getElem?_cons_zero] at c1
   generalize vs[j] = p at *
   have S1 := Lib.hid s1
   obtain ⟨_, _, rfl, -⟩ := s1
   have HT := Lib.hid ht
   have hle : k + total (xss.take j) + xss[j].length ≤ 1000000000 := by omega
   clear hr ht htl
   go_wp2_with fail
   refine (heldInt64S_same _ lo xss[j].length _ _ (by omega) hle S1.out).mono ?_
   rintro e w1 ⟨rfl, rfl⟩
   go_wp2_with fail
   go_round
   case rel => exact ⟨j + 1, by omega, by rw [HT.out]; go_num, by go_num⟩
   case measure => simp [intOf]; omega
  ·clear hr
   go_wp2
   go_ret
   obtain rfl : j = vs.length := by omega
   exact ⟨ret_int (by rw [HL.out]; simp), rfl⟩

end Go.Proofs.YtbjbjbnbapeajaaGreatDoor

namespace Go.Proofs.YtbjbjbnbapeajaaGreatDoor
open Go Go.RowKit

set_option maxHeartbeats 400000 in
theorem markInt64SS_is (lo : Nat) (v : Value) (vs : List Value) (xss : List (List Int)) (k : Int) (w : World) (h1 : 0 ≤ k) (h2 : k + total xss ≤ 1000000000) (hlo : lo ≤ w.heap.size) (hv : OwnIntss 68 2 lo w v vs xss) :
  Calls Tryz.prog 15 #[v, .int .i64 k] w fun e w' => e = .returned (.int .i64 (k + total xss)) ∧ Below lo w w' ∧ OwnIntss 68 2 lo w' v vs (renum k xss) ∧ Only [2] w w' := by
 have HV := Lib.hid hv
 rcases hv.2.1.2 with ⟨rfl, h0⟩ | ⟨g, cap, cur, rfl, -, -, hnc, hcm, -⟩
 ·have hx : xss = [] := List.eq_nil_of_length_eq_zero (by rw [← hv.1]; exact h0)
  subst hx
  clear hv
  go_enter Tryz.func15, Tryz.ntmps15
  go_wp2
  go_loop [1, 5] (fun q i => q = .int .i64 k ∧ i = .int .i64 0) (fun _ _ => 0)
  case atStart => exact ⟨rfl, rfl⟩
  case round =>
   obtain ⟨rfl, rfl⟩ := hrel
   go_wp2
   go_ret
   exact ⟨ret_int (by simp [total]), Below.refl _ _, HV.out, Only.refl _ _⟩
 ·have HL := Lib.hid hv.1
  have hmx : vs.length ≤ 9223372036854775807 := by simp only [maxLen] at hcm; omega
  clear hv hcm hnc
  go_enter Tryz.func15, Tryz.ntmps15
  go_wp2
  go_loopw [1, 5] (fun q i wr => ∃ j : Nat, j ≤ vs.length ∧ q = .int .i64 (k + total (xss.take j)) ∧ i = .int .i64 j ∧ Below lo w wr ∧ OwnIntss 68 2 lo wr (.slice (some ⟨g, 0, none⟩) vs.length cap) vs (renum k (xss.take j) ++ xss.drop j) ∧ Only [2] w wr) (fun _ i _ => vs.length - (intOf i).toNat)
  case atStart => exact ⟨0, Nat.zero_le _, by simp [total], rfl, Below.refl _ _, by simpa [renum] using HV.out, Only.refl _ _⟩
  case round =>
   obtain ⟨j, hj, rfl, rfl, hb, ho, hon⟩ := hrel
   have HON := Lib.hid hon
   clear hon
   have HB := Lib.hid hb
   have HO := Lib.hid ho
   have hsz := hb.size
   clear hb HV
   by_cases hlt : j < vs.length
   ·have hx : j < xss.length := by rw [← HL.out]; exact hlt
    have c1 := ho.2.1.cellAt j (by omega)
    rw [List.getElem?_eq_getElem hlt] at c1
    have hzl : j < (renum k (xss.take j) ++ xss.drop j).length := by simp [renum_len]; omega
    have hrow := ho.2.2.1 j hlt hzl
    have hz : (renum k (xss.take j) ++ xss.drop j)[j] = xss[j] := by
     rw [List.getElem_append_right (by rw [renum_len]; simp; omega)]
     simp only [renum_len, List.length_take, Nat.min_eq_left (Nat.le_of_lt hx), Nat.sub_self, List.getElem_drop, Nat.add_zero]
    rw [hz] at hrow
    have ht := total_take xss j hx
    have htl := total_take_le xss (j + 1)
    have HT := Lib.hid ht
    have hle : k + total (xss.take j) + (xss[j].map (Value.int .i64)).length ≤ 1000000000 := by simp; omega
    have HR := Lib.hid hrow
    have hp : ∃ p, p = vs[j] := ⟨_, rfl⟩
    obtain ⟨p, hp⟩ := hp
    rw [← hp] at c1
    have HP := Lib.hid hp
    clear hp hrow ht htl ho hz
    go_wp2_with fail
    refine (markInt64S_any lo p (xss[j].map (Value.int .i64)) _ _ (by omega) hle ?_).mono ?_
    ·rw [HP.out, List.length_map]; exact HR.out
    rintro e w1 ⟨rfl, hg, hq⟩
    have hb2 : Below lo wr w1 := below_grown hg (by omega) (fun b e => by rw [HP.out] at e; exact (HR.out.lt b e).1)
    have HO2 : Hid (OwnIntss 68 2 lo w1 (.slice (some ⟨g, 0, none⟩) vs.length cap) vs (renum k (xss.take (j + 1)) ++ xss.drop (j + 1))) := by
     have := OwnIntss.row HO.out j hlt (seqI (k + total (xss.take j)) xss[j].length) (by rw [← HP.out]; exact hg) ?_
     ·rw [renum_step _ _ _ hx] at this
      exact this
     ·rw [marked_all, HP.out] at hq
      simp only [List.length_map] at hq
      simp only [seqI, List.length_map, List.length_range, List.map_map]
      exact hq
    have HB2 := Lib.hid hb2
    have HON2 : Hid (Only [2] w w1) := HON.out.step (by have := Only.grown HR.out (by rw [← HP.out]; exact hg); exact this)
    clear hg hq hb2 HO HR
    simp only [List.length_map]
    go_wp2_with fail
    go_roundw
    case rel => exact ⟨j + 1, by omega, by rw [HT.out]; go_num, by go_num, HB.out.trans HB2.out, HO2.out, HON2.out⟩
    case measure => simp [intOf]; omega
   ·clear ho
    go_wp2
    go_ret
    obtain rfl : j = vs.length := by omega
    exact ⟨ret_int (by rw [HL.out]; simp), HB.out, by rw [show renum k xss = renum k (xss.take vs.length) ++ xss.drop vs.length from by rw [HL.out]; simp]; exact HO.out, HON.out⟩

end Go.Proofs.YtbjbjbnbapeajaaGreatDoor
