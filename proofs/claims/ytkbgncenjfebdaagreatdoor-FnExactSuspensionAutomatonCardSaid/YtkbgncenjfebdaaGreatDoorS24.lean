/-
  The functions of the laws that mark texts, edges, a system: what they turn.
  The marks that the package laws writes into memory, and whether they still stand there.
  Marks in lists of lists, and that they still stand.
  What the joining walks of the exact laws share: copies of systems, boxes, which blocks a mark can turn.
-/
import Derived.Test.YtkbgncenjfebdaaGreatDoorS18
import Derived.Test.YtkbgncenjfebdaaGreatDoorS23
namespace Go.Proofs.YtkbgncenjfebdaaGreatDoor
open Go Go.RowKit

set_option maxRecDepth 100000 in
set_option maxHeartbeats 400000 in
theorem markStringS_any (lo hi b n cap : Nat) (cs : List Value) (k : Int) (w : World) (h1 : 0 ≤ k) (h2 : k + n ≤ 1000000000) (hb1 : lo ≤ b) (hb2 : b < hi) (hv : w.ownsRow lo 9 1 (.slice (some ⟨b, 0, none⟩) n cap) n cs) :
  Calls Tryz.prog 19 #[.slice (some ⟨b, 0, none⟩) n cap, .int .i64 k] w (MarkedIn lo hi w (k + n)) := by
 have HV := Lib.hid hv
 clear hv
 go_enter Tryz.func19, Tryz.ntmps19
 go_wp2
 go_loopw [1, 5] (fun q i wr => ∃ (j : Nat) (cs : List Value), j ≤ n ∧ q = .int .i64 (k + j) ∧ i = .int .i64 j ∧ Turns lo hi w wr ∧ wr.ownsRow lo 9 1 (.slice (some ⟨b, 0, none⟩) n cap) n cs) (fun _ i _ => n - (intOf i).toNat)
 case atStart => exact ⟨0, cs, Nat.zero_le _, by simp, rfl, turns_refl _ _ _, HV.out⟩
 case round =>
  obtain ⟨j, cs, hj, rfl, rfl, hg, ho⟩ := hrel
  have HG := Lib.hid hg
  have HO := Lib.hid ho
  clear hg ho HV
  by_cases hlt : j < n
  ·go_wp2_with fail
   refine (markText_any _ _ (by omega) (by omega)).mono ?_
   rintro e w1 ⟨s, rfl, hb⟩
   have ho1 := owns_below HO.out hb
   obtain ⟨xc1, c1⟩ := own_cell ho1 (j) (by omega)
   have f1 := ho1.frozenAt j
   have HO2 := Lib.hid (ho1.stored j (.string s)).1
   have HB := Lib.hid hb
   clear ho1 hb
   go_wp2
   go_roundw
   case rel => exact ⟨j + 1, _, by omega, by go_num, by go_num, turns_trans (turns_trans HG.out (turns_below HB.out)) (turns_set _ _ _ hb1 hb2), HO2.out⟩
   case measure => simp [intOf]; omega
  ·go_wp2
   go_ret
   obtain rfl : j = n := by omega
   exact ⟨rfl, HG.out⟩

set_option maxRecDepth 100000 in
set_option maxHeartbeats 1000000 in
theorem markEdgeS_any (lo hi b n cap : Nat) (cs : List Value) (k : Int) (w : World) (h1 : 0 ≤ k) (h2 : k + 3 * n ≤ 1000000000) (hb1 : lo ≤ b) (hb2 : b < hi) (hv : w.ownsRow lo 93 3 (.slice (some ⟨b, 0, none⟩) n cap) n cs) :
  Calls Tryz.prog 51 #[.slice (some ⟨b, 0, none⟩) n cap, .int .i64 k] w (MarkedIn lo hi w (k + 3 * n)) := by
 have HV := Lib.hid hv
 clear hv
 go_enter Tryz.func51, Tryz.ntmps51
 go_wp2
 go_loopw [1, 5] (fun q i wr => ∃ (j : Nat) (cs : List Value), j ≤ n ∧ q = .int .i64 (k + 3 * j) ∧ i = .int .i64 j ∧ Turns lo hi w wr ∧ wr.ownsRow lo 93 3 (.slice (some ⟨b, 0, none⟩) n cap) n cs) (fun _ i _ => n - (intOf i).toNat)
 case atStart => exact ⟨0, cs, Nat.zero_le _, by simp, rfl, turns_refl _ _ _, HV.out⟩
 case round =>
  obtain ⟨j, cs, hj, rfl, rfl, hg, ho⟩ := hrel
  have HG := Lib.hid hg
  clear hg HV
  by_cases hlt : j < n
  ·obtain ⟨xc0, c0⟩ := own_cell ho (j * 3) (by omega)
   have s0 := (ho.stored (j * 3) (.int .i64 (k + 3 * j))).1
   obtain ⟨xc1, c1⟩ := own_cell s0 (j * 3 + 1) (by omega)
   have s1 := (s0.stored (j * 3 + 1) (.int .i64 (k + 3 * j + 1))).1
   obtain ⟨xc2, c2⟩ := own_cell s1 (j * 3 + 2) (by omega)
   have HO := Lib.hid (s1.stored (j * 3 + 2) (.int .i64 (k + 3 * j + 1 + 1))).1
   obtain ⟨xg1, g1⟩ := own_cell ho (j * 3 + 1) (by omega)
   obtain ⟨xg2, g2⟩ := own_cell ho (j * 3 + 2) (by omega)
   have f0 := ho.frozenAt (j * 3)
   have f1 := ho.frozenAt (j * 3 + 1)
   have f2 := ho.frozenAt (j * 3 + 2)
   clear ho s0 s1
   go_wp2
   go_roundw
   case rel => exact ⟨j + 1, _, by omega, by go_num, by go_num, turns_trans (turns_trans (turns_trans HG.out (turns_set _ _ _ hb1 hb2)) (turns_set _ _ _ hb1 hb2)) (turns_set _ _ _ hb1 hb2), HO.out⟩
   case measure => simp [intOf]; omega
  ·go_wp2
   go_ret
   obtain rfl : j = n := by omega
   exact ⟨rfl, HG.out⟩

set_option maxHeartbeats 1000000 in
theorem markLts_any (lo hi b1 b2 n1 n2 : Nat) (x y : Int) (cs1 cs2 : List Value) (k : Int) (w : World) (h1 : 0 ≤ k) (h2 : k + n1 + 3 * n2 ≤ 1000000000) (hb1 : lo ≤ b1) (hb2 : b1 < hi) (hb3 : lo ≤ b2) (hb4 : b2 < hi) (hhi : hi ≤ w.heap.size) (hne : b1 ≠ b2)
  (hv1 : w.ownsRow lo 9 1 (.slice (some ⟨b1, 0, none⟩) n1 n1) n1 cs1) (hv2 : w.ownsRow lo 93 3 (.slice (some ⟨b2, 0, none⟩) n2 n2) n2 cs2) :
  Calls Tryz.prog 18 #[.agg #[.int .i64 x, .int .i64 y, .slice (some ⟨b1, 0, none⟩) n1 n1, .slice (some ⟨b2, 0, none⟩) n2 n2], .int .i64 k] w (MarkedIn lo hi w (k + n1 + 3 * n2)) := by
 have V1 := Lib.hid hv1
 have V2 := Lib.hid hv2
 have HN := Lib.hid hne
 clear hv1 hv2 hne
 go_enter Tryz.func18, Tryz.ntmps18
 go_wp2_with fail
 refine (markStringS_any b1 (b1 + 1) b1 n1 n1 cs1 _ _ h1 (by omega) (Nat.le_refl _) (Nat.lt_succ_self _) ?_).mono ?_
 ·have := owns_below V1.out ((Below.refl _ w).alloc (Nat.le_refl _) (.cells #[.int .i64 x, .int .i64 y, .slice (some ⟨b1, 0, none⟩) n1 n1, .slice (some ⟨b2, 0, none⟩) n2 n2] 30))
  exact own_base this
 rintro e w1 ⟨rfl, ht1⟩
 have A := Lib.hid ((Blk.new w [.int .i64 x, .int .i64 y, .slice (some ⟨b1, 0, none⟩) n1 n1, .slice (some ⟨b2, 0, none⟩) n2 n2] 30).turns ht1 (by omega))
 have c3 := A.out.cell 3 rfl
 have T1 : Hid (Turns lo hi w w1) := turns_trans (turns_below ((Below.refl _ w).alloc (Nat.le_refl _) _)) (turns_wide ht1 (by omega) (by omega))
 have W2 := Lib.hid (owns_turns (owns_below V2.out ((Below.refl _ w).alloc (Nat.le_refl _) _)) ht1 (fun b e => by simp [Value.ownBlock] at e; have := HN.out; omega))
 clear ht1
 go_wp2_with fail
 refine (markEdgeS_any lo hi b2 n2 n2 cs2 _ _ (by omega) (by omega) hb3 hb4 W2.out).mono ?_
 rintro e w2 ⟨rfl, ht2⟩
 have T2 := Lib.hid ht2
 clear ht2
 go_wp2_with fail
 go_ret
 exact ⟨rfl, turns_trans T1.out T2.out⟩

end Go.Proofs.YtkbgncenjfebdaaGreatDoor

namespace Go.Proofs.YtkbgncenjfebdaaGreatDoor
open Go Go.RowKit

set_option maxRecDepth 100000 in
set_option maxHeartbeats 400000 in
theorem markInt64S_any (lo : Nat) (v : Value) (cs : List Value) (k : Int) (w : World) (h1 : 0 ≤ k) (h2 : k + cs.length ≤ 1000000000) (hv : w.ownsRow lo 2 1 v cs.length cs) :
  Calls Tryz.prog 53 #[v, .int .i64 k] w (Marked w v (k + cs.length) (fun w' => w'.ownsRow lo 2 1 v cs.length (marked k cs cs.length))) := by
 have HV := Lib.hid hv
 rcases hv.2 with ⟨rfl, h0⟩ | ⟨b, cap, cur, rfl, -, -, hcap, hm, -⟩
 ·clear hv
  have hcs : cs = [] := List.eq_nil_of_length_eq_zero h0
  subst hcs
  go_enter Tryz.func53, Tryz.ntmps53
  go_wp2
  go_loop [1, 5] (fun q i => q = .int .i64 k ∧ i = .int .i64 0) (fun _ _ => 0)
  case atStart => exact ⟨rfl, rfl⟩
  case round =>
   obtain ⟨rfl, rfl⟩ := hrel
   go_wp2
   go_ret
   exact ⟨ret_int (by simp), grown_refl _ _, by rw [marked_zero]; exact HV.out⟩
 ·clear hv
  go_enter Tryz.func53, Tryz.ntmps53
  go_wp2
  go_loopw [1, 5] (fun q i wr => ∃ j : Nat, j ≤ cs.length ∧ q = .int .i64 (k + j) ∧ i = .int .i64 j ∧ w.grownBy wr (some b) ∧ wr.ownsRow lo 2 1 (.slice (some ⟨b, 0, none⟩) cs.length cap) cs.length (marked k cs j)) (fun _ i _ => cs.length - (intOf i).toNat)
  case atStart => exact ⟨0, Nat.zero_le _, by simp, rfl, grown_refl _ _, by rw [marked_zero]; exact HV.out⟩
  case round =>
   obtain ⟨j, hj, rfl, rfl, hg, ho⟩ := hrel
   by_cases hlt : j < cs.length
   ·have c1 := ho.cellAt j (by omega)
    rw [marked_get _ _ _ hlt] at c1
    have f1 := ho.frozenAt j
    have ho2 := ho.stored j (.int .i64 (k + j))
    rw [marked_set _ _ _ hlt] at ho2
    have HO := Lib.hid ho2
    have HG := Lib.hid hg
    clear ho ho2 hg HV
    go_wp2
    go_roundw
    case rel => exact ⟨j + 1, by omega, by go_num, by go_num, grown_trans HG.out HO.out.2, HO.out.1⟩
    case measure => simp [intOf]; omega
   ·go_wp2
    go_ret
    obtain rfl : j = cs.length := by omega
    exact ⟨rfl, hg, ho⟩


set_option maxRecDepth 100000 in
set_option maxHeartbeats 400000 in
theorem heldInt64S_same (v : Value) (lo n : Nat) (k : Int) (w : World) (h1 : 0 ≤ k) (h2 : k + n ≤ 1000000000) (hv : SliceK 1 encI lo w v (seqI k n)) :
  Calls Tryz.prog 55 #[v, .int .i64 k] w fun e w' => e = .returned (.int .i64 (k + n)) ∧ w = w' := by
 obtain ⟨a, cap, rfl, hn, hcap, hr⟩ := hv
 have hl : (seqI k n).length = n := by simp [seqI]
 rw [hl] at hn ⊢
 have HL := Lib.hid hl
 clear hl
 go_enter Tryz.func55, Tryz.ntmps55
 go_wp2
 go_loop [1, 5] (fun q i => ∃ j : Nat, j ≤ n ∧ q = .int .i64 (k + j) ∧ i = .int .i64 j) (fun _ i => n - (intOf i).toNat)
 case atStart => exact ⟨0, Nat.zero_le _, by simp, rfl⟩
 case round =>
  obtain ⟨j, hj, rfl, rfl⟩ := hrel
  by_cases hlt : j < n
  ·obtain ⟨b, off, rfl, -, -, c1⟩ := hr.one (i := j) (by rw [HL.out]; exact hlt)
   simp only [encI, List.getElem?_cons_zero, seqI, List.getElem_map, List.getElem_range] at c1
   clear hr
   go_wp2
   go_round
   case rel => exact ⟨j + 1, by omega, by go_num, by go_num⟩
   case measure => simp [intOf]; omega
  ·clear hr
   go_wp2
   go_ret
   obtain rfl : j = n := by omega
   exact ⟨rfl, rfl⟩

set_option maxHeartbeats 400000 in
theorem heldInt64SS_same (v : Value) (lo : Nat) (xss : List (List Int)) (k : Int) (w : World) (h1 : 0 ≤ k) (h2 : k + total xss ≤ 1000000000) (hv : IntssAt lo w v (renum k xss)) :
  Calls Tryz.prog 22 #[v, .int .i64 k] w fun e w' => e = .returned (.int .i64 (k + total xss)) ∧ w = w' := by
 obtain ⟨vs, hvl, ⟨a, cap, rfl, hn, hcap, hr⟩, hvs⟩ := hv
 rw [renum_len] at hvl
 have HV := Lib.hid hvs
 have HL := Lib.hid hvl
 clear hvs hvl
 go_enter Tryz.func22, Tryz.ntmps22
 go_wp2
 go_loop [1, 5] (fun q i => ∃ j : Nat, j ≤ vs.length ∧ q = .int .i64 (k + total (xss.take j)) ∧ i = .int .i64 j) (fun _ i => vs.length - (intOf i).toNat)
 case atStart => exact ⟨0, Nat.zero_le _, by simp [total], rfl⟩
 case round =>
  obtain ⟨j, hj, rfl, rfl⟩ := hrel
  by_cases hlt : j < vs.length
  ·have hx : j < xss.length := by rw [← HL.out]; exact hlt
   obtain ⟨b, off, rfl, -, -, c1⟩ := hr.one hlt
   have s1 := HV.out j hlt (by rw [renum_len]; exact hx)
   rw [renum_get _ _ _ hx] at s1
   have ht := total_take xss j hx
   have htl := total_take_le xss (j + 1)
   simp only [encV, List.getElem?_cons_zero] at c1
   generalize vs[j] = p at *
   have S1 := Lib.hid s1
   obtain ⟨_, _, rfl, -⟩ := s1
   have HT := Lib.hid ht
   have hle : k + total (xss.take j) + xss[j].length ≤ 1000000000 := by omega
   clear hr ht htl
   go_wp2_with fail
   refine (heldInt64S_same _ lo xss[j].length _ _ (by omega) hle S1.out).mono ?_
   rintro e w1 ⟨rfl, rfl⟩
   go_wp2_with fail
   go_round
   case rel => exact ⟨j + 1, by omega, by rw [HT.out]; go_num, by go_num⟩
   case measure => simp [intOf]; omega
  ·clear hr
   go_wp2
   go_ret
   obtain rfl : j = vs.length := by omega
   exact ⟨ret_int (by rw [HL.out]; simp), rfl⟩

end Go.Proofs.YtkbgncenjfebdaaGreatDoor

namespace Go.Proofs.YtkbgncenjfebdaaGreatDoor
open Go Go.RowKit

set_option maxHeartbeats 400000 in
theorem markInt64SS_is (lo : Nat) (v : Value) (vs : List Value) (xss : List (List Int)) (k : Int) (w : World) (h1 : 0 ≤ k) (h2 : k + total xss ≤ 1000000000) (hlo : lo ≤ w.heap.size) (hv : OwnIntss 56 2 lo w v vs xss) :
  Calls Tryz.prog 20 #[v, .int .i64 k] w fun e w' => e = .returned (.int .i64 (k + total xss)) ∧ Below lo w w' ∧ OwnIntss 56 2 lo w' v vs (renum k xss) ∧ Only [2] w w' := by
 have HV := Lib.hid hv
 rcases hv.2.1.2 with ⟨rfl, h0⟩ | ⟨g, cap, cur, rfl, -, -, hnc, hcm, -⟩
 ·have hx : xss = [] := List.eq_nil_of_length_eq_zero (by rw [← hv.1]; exact h0)
  subst hx
  clear hv
  go_enter Tryz.func20, Tryz.ntmps20
  go_wp2
  go_loop [1, 5] (fun q i => q = .int .i64 k ∧ i = .int .i64 0) (fun _ _ => 0)
  case atStart => exact ⟨rfl, rfl⟩
  case round =>
   obtain ⟨rfl, rfl⟩ := hrel
   go_wp2
   go_ret
   exact ⟨ret_int (by simp [total]), Below.refl _ _, HV.out, Only.refl _ _⟩
 ·have HL := Lib.hid hv.1
  have hmx : vs.length ≤ 9223372036854775807 := by simp only [maxLen] at hcm; omega
  clear hv hcm hnc
  go_enter Tryz.func20, Tryz.ntmps20
  go_wp2
  go_loopw [1, 5] (fun q i wr => ∃ j : Nat, j ≤ vs.length ∧ q = .int .i64 (k + total (xss.take j)) ∧ i = .int .i64 j ∧ Below lo w wr ∧ OwnIntss 56 2 lo wr (.slice (some ⟨g, 0, none⟩) vs.length cap) vs (renum k (xss.take j) ++ xss.drop j) ∧ Only [2] w wr) (fun _ i _ => vs.length - (intOf i).toNat)
  case atStart => exact ⟨0, Nat.zero_le _, by simp [total], rfl, Below.refl _ _, by simpa [renum] using HV.out, Only.refl _ _⟩
  case round =>
   obtain ⟨j, hj, rfl, rfl, hb, ho, hon⟩ := hrel
   have HON := Lib.hid hon
   clear hon
   have HB := Lib.hid hb
   have HO := Lib.hid ho
   have hsz := hb.size
   clear hb HV
   by_cases hlt : j < vs.length
   ·have hx : j < xss.length := by rw [← HL.out]; exact hlt
    have c1 := ho.2.1.cellAt j (by omega)
    rw [List.getElem?_eq_getElem hlt] at c1
    have hzl : j < (renum k (xss.take j) ++ xss.drop j).length := by simp [renum_len]; omega
    have hrow := ho.2.2.1 j hlt hzl
    have hz : (renum k (xss.take j) ++ xss.drop j)[j] = xss[j] := by
     rw [List.getElem_append_right (by rw [renum_len]; simp; omega)]
     simp only [renum_len, List.length_take, Nat.min_eq_left (Nat.le_of_lt hx), Nat.sub_self, List.getElem_drop, Nat.add_zero]
    rw [hz] at hrow
    have ht := total_take xss j hx
    have htl := total_take_le xss (j + 1)
    have HT := Lib.hid ht
    have hle : k + total (xss.take j) + (xss[j].map (Value.int .i64)).length ≤ 1000000000 := by simp; omega
    have HR := Lib.hid hrow
    have hp : ∃ p, p = vs[j] := ⟨_, rfl⟩
    obtain ⟨p, hp⟩ := hp
    rw [← hp] at c1
    have HP := Lib.hid hp
    clear hp hrow ht htl ho hz
    go_wp2_with fail
    refine (markInt64S_any lo p (xss[j].map (Value.int .i64)) _ _ (by omega) hle ?_).mono ?_
    ·rw [HP.out, List.length_map]; exact HR.out
    rintro e w1 ⟨rfl, hg, hq⟩
    have hb2 : Below lo wr w1 := below_grown hg (by omega) (fun b e => by rw [HP.out] at e; exact (HR.out.lt b e).1)
    have HO2 : Hid (OwnIntss 56 2 lo w1 (.slice (some ⟨g, 0, none⟩) vs.length cap) vs (renum k (xss.take (j + 1)) ++ xss.drop (j + 1))) := by
     have := OwnIntss.row HO.out j hlt (seqI (k + total (xss.take j)) xss[j].length) (by rw [← HP.out]; exact hg) ?_
     ·rw [renum_step _ _ _ hx] at this
      exact this
     ·rw [marked_all, HP.out] at hq
      simp only [List.length_map] at hq
      simp only [seqI, List.length_map, List.length_range, List.map_map]
      exact hq
    have HB2 := Lib.hid hb2
    have HON2 : Hid (Only [2] w w1) := HON.out.step (by have := Only.grown HR.out (by rw [← HP.out]; exact hg); exact this)
    clear hg hq hb2 HO HR
    simp only [List.length_map]
    go_wp2_with fail
    go_roundw
    case rel => exact ⟨j + 1, by omega, by rw [HT.out]; go_num, by go_num, HB.out.trans HB2.out, HO2.out, HON2.out⟩
    case measure => simp [intOf]; omega
   ·clear ho
    go_wp2
    go_ret
    obtain rfl : j = vs.length := by omega
    exact ⟨ret_int (by rw [HL.out]; simp), HB.out, by rw [show renum k xss = renum k (xss.take vs.length) ++ xss.drop vs.length from by rw [HL.out]; simp]; exact HO.out, HON.out⟩

end Go.Proofs.YtkbgncenjfebdaaGreatDoor

namespace Go.Proofs.YtkbgncenjfebdaaGreatDoor
open Go Go.RowKit

theorem blk4 {w : World} {b : Nat} {c0 c1 c2 c3 : Value} {T : TypeId} (h : Blk w b [c0, c1, c2, c3] T) :
  w.cell? ⟨b, 0, none⟩ = some c0 ∧ w.cell? ⟨b, 1, none⟩ = some c1 ∧ w.cell? ⟨b, 2, none⟩ = some c2 ∧ w.cell? ⟨b, 3, none⟩ = some c3 :=
 ⟨h.cell 0 rfl, h.cell 1 rfl, h.cell 2 rfl, h.cell 3 rfl⟩
theorem boxNew (w : World) (a : Array Value) (T : TypeId) : Below w.heap.size w (w.alloc (.cells a T)) := (Below.refl _ _).alloc (Nat.le_refl _) _

/-- A copy of a system, with both slices in blocks of its own. -/
structure Copy (B : Nat) (t : Lts) (b1 b2 : Nat) (w : World) : Prop where
 h1 : B ≤ b1
 h2 : b1 < b2
 h3 : b2 < w.heap.size
 o1 : w.ownsRow B 9 1 (.slice (some ⟨b1, 0, none⟩) t.labels.length t.labels.length) t.labels.length (t.labels.map .string)
 o2 : w.ownsRow b2 93 3 (.slice (some ⟨b2, 0, none⟩) t.edges.length t.edges.length) t.edges.length (t.edges.flatMap encE)
theorem Copy.below {B : Nat} {t : Lts} {b1 b2 : Nat} {w w' : World} (h : Copy B t b1 b2 w) (hb : Below w.heap.size w w') : Copy B t b1 b2 w' :=
 ⟨h.h1, h.h2, Nat.lt_of_lt_of_le h.h3 hb.size, owns_below h.o1 hb, owns_below h.o2 hb⟩
theorem Copy.labels {B : Nat} {t : Lts} {b1 b2 : Nat} {w : World} (h : Copy B t b1 b2 w) : SliceK 1 encS 0 w (.slice (some ⟨b1, 0, none⟩) t.labels.length t.labels.length) t.labels :=
 SliceK.of_owns (e := 9) encS_len rfl (by rw [flat_encS]; exact own_lower h.o1 (Nat.zero_le _))
theorem Copy.edges {B : Nat} {t : Lts} {b1 b2 : Nat} {w : World} (h : Copy B t b1 b2 w) : SliceK 3 encE 0 w (.slice (some ⟨b2, 0, none⟩) t.edges.length t.edges.length) t.edges :=
 SliceK.of_owns (e := 93) encE_len rfl (own_lower h.o2 (Nat.zero_le _))
theorem Copy.at {B : Nat} {t : Lts} {b1 b2 : Nat} {w : World} (h : Copy B t b1 b2 w) : LtsAt 0 w (.agg #[.int .i64 t.states, .int .i64 t.initial, .slice (some ⟨b1, 0, none⟩) t.labels.length t.labels.length, .slice (some ⟨b2, 0, none⟩) t.edges.length t.edges.length]) t :=
 ⟨_, _, rfl, h.labels, h.edges⟩
theorem Copy.turns {B : Nat} {t : Lts} {b1 b2 lo hi : Nat} {w w' : World} (h : Copy B t b1 b2 w) (ht : Turns lo hi w w') (hB : hi ≤ B) : Copy B t b1 b2 w' :=
 ⟨h.h1, h.h2, Nat.lt_of_lt_of_le h.h3 ht.size, owns_turns h.o1 ht (fun b e => by have := (h.o1.lt b e).1; omega), owns_turns h.o2 ht (fun b e => by have := (h.o2.lt b e).1; have := h.h1; have := h.h2; omega)⟩
def CopyMade (t : Lts) (w : World) (e : Ending) (w' : World) : Prop := ∃ b1 b2, e = .returned (.agg #[.int .i64 t.states, .int .i64 t.initial, .slice (some ⟨b1, 0, none⟩) t.labels.length t.labels.length, .slice (some ⟨b2, 0, none⟩) t.edges.length t.edges.length]) ∧ Below w.heap.size w w' ∧ Copy w.heap.size t b1 b2 w'
theorem copy_any (lo : Nat) (t : Lts) (lv ev : Value) (w : World) (hl : t.labels.length ≤ 1048576) (he : t.edges.length ≤ 1048576) (h1 : SliceK 1 encS lo w lv t.labels) (h2 : SliceK 3 encE lo w ev t.edges) :
  Calls Tryz.prog 12 #[.agg #[.int .i64 t.states, .int .i64 t.initial, lv, ev]] w (CopyMade t w) :=
 (toLts_any (.agg #[.int .i64 t.states, .int .i64 t.initial, lv, ev]) lo t w hl he ⟨lv, ev, rfl, h1, h2⟩).mono fun _ _ ⟨b1, b2, he, hb, h1, h2, h3, h4, h5⟩ => ⟨b1, b2, he, hb, h1, h2, h3, h4, h5⟩

theorem Only.lts {Ts : List TypeId} {w w' : World} (h : Only Ts w w') {lo : Nat} {lv ev : Value} {t : Lts} (ho : OwnLts lo w lv ev t) (h1 : 9 ∉ Ts) (h2 : 93 ∉ Ts) : OwnLts lo w' lv ev t := ⟨h.own ho.1 h1, h.own ho.2 h2⟩
theorem Only.intss {Ts : List TypeId} {w w' : World} (h : Only Ts w w') {eo ei lo : Nat} {v : Value} {vs : List Value} {xss : List (List Int)} (ho : OwnIntss eo ei lo w v vs xss) (h1 : eo ∉ Ts) (h2 : ei ∉ Ts) : OwnIntss eo ei lo w' v vs xss := by
 obtain ⟨a1, a2, a3, a4, a5⟩ := ho
 exact ⟨a1, h.own a2 h1, fun i hi hi' => h.own (a3 i hi hi') h2, a4, a5⟩

end Go.Proofs.YtkbgncenjfebdaaGreatDoor
