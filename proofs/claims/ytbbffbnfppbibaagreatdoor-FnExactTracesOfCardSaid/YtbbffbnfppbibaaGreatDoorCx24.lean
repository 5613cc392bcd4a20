/-
  The marks that the package laws writes into memory, and whether they still stand there.
  The texts that marks are, lists of texts and edges marked, and that the marks still stand.
  A pile of rows of the call's own, no two in one block; a slice of such rows.
-/
import Derived.Test.YtbbffbnfppbibaaGreatDoorCx23
import Derived.Test.YtbbffbnfppbibaaGreatDoorCx1
namespace Go.Proofs.YtbbffbnfppbibaaGreatDoor
open Go Go.RowKit

def SomeText (w : World) (e : Ending) (w' : World) : Prop := ∃ s, e = .returned (.string s) ∧ Below w.heap.size w w'

/-- A text out of one digit's byte. -/
theorem digit_text (w : World) (n : Int) (_h0 : 0 ≤ n) :
    (convert 110 9 (.slice (some ⟨w.heap.size, 0, none⟩) 1 1)).run Tryz.prog (w.alloc (.cells #[.int .u8 (48 + n % 10)] 5)) = .ok (.string ⟨#[UInt8.ofNat (48 + n % 10).toNat]⟩) (w.alloc (.cells #[.int .u8 (48 + n % 10)] 5)) := by
  refine run_convert_bytes_back (P := Tryz.prog) _ 110 9 5 ⟨w.heap.size, 0, none⟩ 1 [UInt8.ofNat (48 + n % 10).toNat] Tryz.underlying110 Tryz.underlying5 Tryz.underlying9 ?_
  intro j hj
  obtain rfl : j = 0 := by simpa using hj
  simp [Addr.add]
  omega

set_option maxRecDepth 100000 in
set_option maxHeartbeats 400000 in
theorem markText_any (k : Int) (w : World) (h1 : 0 ≤ k) (h2 : k ≤ 1000000000) : Calls Tryz.prog 58 #[.int .i64 k] w (SomeText w) := by
  by_cases h0 : k ≤ 0
  · go_enter Tryz.func58, Tryz.ntmps58
    go_wp2
    go_ret
    exact ⟨_, rfl, Below.refl _ _⟩
  · go_enter Tryz.func58, Tryz.ntmps58
    go_wp2
    go_loopw [0, 3] (fun q s wr => ∃ (n : Int) (t : ByteArray), 0 ≤ n ∧ t.size + n ≤ 1000000000 ∧ q = .int .i64 n ∧ s = .string t ∧ Below w.heap.size w wr) (fun q _ _ => (intOf q).toNat)
    case atStart => exact ⟨_, _, by omega, by show ((0 : Nat) : Int) + k ≤ _; omega, rfl, rfl, Below.refl _ _⟩
    case round =>
      obtain ⟨n, t, hn, hn2, rfl, rfl, hbl⟩ := hrel
      by_cases hp : 0 < n
      · have kc := digit_text wr n hn
        go_wp2
        go_roundw
        case rel =>
          have hz : (ByteArray.mk #[UInt8.ofNat (48 + n % 10).toNat] ++ t).size = 1 + t.size := by rw [ByteArray.size_append]; rfl
          exact ⟨_, _, by omega, by rw [hz]; omega, rfl, rfl, hbl.alloc hbl.size _⟩
        case measure => simp [intOf]; omega
      · go_wp2
        go_ret
        exact ⟨_, rfl, hbl⟩

/-- What a function that marks a slice does: it returns the next mark, and turns no block but the slice's own. -/
def Marked (w : World) (v : Value) (r : Int) (C : World → Prop) (e : Ending) (w' : World) : Prop := e = .returned (.int .i64 r) ∧ w.grownBy w' v.ownBlock ∧ C w'

set_option maxRecDepth 100000 in
set_option maxHeartbeats 400000 in
theorem markInt64S_any (lo : Nat) (v : Value) (cs : List Value) (k : Int) (w : World) (h1 : 0 ≤ k) (h2 : k + cs.length ≤ 1000000000) (hv : w.ownsRow lo 2 1 v cs.length cs) :
    Calls Tryz.prog 48 #[v, .int .i64 k] w (Marked w v (k + cs.length) (fun w' => w'.ownsRow lo 2 1 v cs.length (marked k cs cs.length))) := by
  have HV := Lib.hid hv
  rcases hv.2 with ⟨rfl, h0⟩ | ⟨b, cap, cur, rfl, -, -, hcap, hm, -⟩
  · clear hv
    have hcs : cs = [] := List.eq_nil_of_length_eq_zero h0
    subst hcs
    go_enter Tryz.func48, Tryz.ntmps48
    go_wp2
    go_loop [1, 5] (fun q i => q = .int .i64 k ∧ i = .int .i64 0) (fun _ _ => 0)
    case atStart => exact ⟨rfl, rfl⟩
    case round =>
      obtain ⟨rfl, rfl⟩ := hrel
      go_wp2
      go_ret
      exact ⟨ret_int (by simp), grown_refl _ _, by rw [marked_zero]; exact HV.out⟩
  · clear hv
    go_enter Tryz.func48, Tryz.ntmps48
    go_wp2
    go_loopw [1, 5] (fun q i wr => ∃ j : Nat, j ≤ cs.length ∧ q = .int .i64 (k + j) ∧ i = .int .i64 j ∧ w.grownBy wr (some b) ∧ wr.ownsRow lo 2 1 (.slice (some ⟨b, 0, none⟩) cs.length cap) cs.length (marked k cs j)) (fun _ i _ => cs.length - (intOf i).toNat)
    case atStart => exact ⟨0, Nat.zero_le _, by simp, rfl, grown_refl _ _, by rw [marked_zero]; exact HV.out⟩
    case round =>
      obtain ⟨j, hj, rfl, rfl, hg, ho⟩ := hrel
      by_cases hlt : j < cs.length
      · have c1 := ho.cellAt j (by omega)
        rw [marked_get _ _ _ hlt] at c1
        have f1 := ho.frozenAt j
        have ho2 := ho.stored j (.int .i64 (k + j))
        rw [marked_set _ _ _ hlt] at ho2
        have HO := Lib.hid ho2
        have HG := Lib.hid hg
        clear ho ho2 hg HV
        go_wp2
        go_roundw
        case rel => exact ⟨j + 1, by omega, by go_num, by go_num, grown_trans HG.out HO.out.2, HO.out.1⟩
        case measure => simp [intOf]; omega
      · go_wp2
        go_ret
        obtain rfl : j = cs.length := by omega
        exact ⟨rfl, hg, ho⟩

def MarkedIn (lo hi : Nat) (w : World) (r : Int) (e : Ending) (w' : World) : Prop := e = .returned (.int .i64 r) ∧ Turns lo hi w w'

set_option maxRecDepth 100000 in
set_option maxHeartbeats 400000 in
theorem markStringS_any (lo hi b n cap : Nat) (cs : List Value) (k : Int) (w : World) (h1 : 0 ≤ k) (h2 : k + n ≤ 1000000000) (hb1 : lo ≤ b) (hb2 : b < hi) (hv : w.ownsRow lo 9 1 (.slice (some ⟨b, 0, none⟩) n cap) n cs) :
    Calls Tryz.prog 29 #[.slice (some ⟨b, 0, none⟩) n cap, .int .i64 k] w (MarkedIn lo hi w (k + n)) := by
  have HV := Lib.hid hv
  clear hv
  go_enter Tryz.func29, Tryz.ntmps29
  go_wp2
  go_loopw [1, 5] (fun q i wr => ∃ (j : Nat) (cs : List Value), j ≤ n ∧ q = .int .i64 (k + j) ∧ i = .int .i64 j ∧ Turns lo hi w wr ∧ wr.ownsRow lo 9 1 (.slice (some ⟨b, 0, none⟩) n cap) n cs) (fun _ i _ => n - (intOf i).toNat)
  case atStart => exact ⟨0, cs, Nat.zero_le _, by simp, rfl, turns_refl _ _ _, HV.out⟩
  case round =>
    obtain ⟨j, cs, hj, rfl, rfl, hg, ho⟩ := hrel
    have HG := Lib.hid hg
    have HO := Lib.hid ho
    clear hg ho HV
    by_cases hlt : j < n
    · go_wp2_with fail
      refine (markText_any _ _ (by omega) (by omega)).mono ?_
      rintro e w1 ⟨s, rfl, hb⟩
      have ho1 := owns_below HO.out hb
      obtain ⟨xc1, c1⟩ := own_cell ho1 (j) (by omega)
      have f1 := ho1.frozenAt j
      have HO2 := Lib.hid (ho1.stored j (.string s)).1
      have HB := Lib.hid hb
      clear ho1 hb
      go_wp2
      go_roundw
      case rel => exact ⟨j + 1, _, by omega, by go_num, by go_num, turns_trans (turns_trans HG.out (turns_below HB.out)) (turns_set _ _ _ hb1 hb2), HO2.out⟩
      case measure => simp [intOf]; omega
    · go_wp2
      go_ret
      obtain rfl : j = n := by omega
      exact ⟨rfl, HG.out⟩

set_option maxRecDepth 100000 in
set_option maxHeartbeats 1000000 in
theorem markEdgeS_any (lo hi b n cap : Nat) (cs : List Value) (k : Int) (w : World) (h1 : 0 ≤ k) (h2 : k + 3 * n ≤ 1000000000) (hb1 : lo ≤ b) (hb2 : b < hi) (hv : w.ownsRow lo 62 3 (.slice (some ⟨b, 0, none⟩) n cap) n cs) :
    Calls Tryz.prog 47 #[.slice (some ⟨b, 0, none⟩) n cap, .int .i64 k] w (MarkedIn lo hi w (k + 3 * n)) := by
  have HV := Lib.hid hv
  clear hv
  go_enter Tryz.func47, Tryz.ntmps47
  go_wp2
  go_loopw [1, 5] (fun q i wr => ∃ (j : Nat) (cs : List Value), j ≤ n ∧ q = .int .i64 (k + 3 * j) ∧ i = .int .i64 j ∧ Turns lo hi w wr ∧ wr.ownsRow lo 62 3 (.slice (some ⟨b, 0, none⟩) n cap) n cs) (fun _ i _ => n - (intOf i).toNat)
  case atStart => exact ⟨0, cs, Nat.zero_le _, by simp, rfl, turns_refl _ _ _, HV.out⟩
  case round =>
    obtain ⟨j, cs, hj, rfl, rfl, hg, ho⟩ := hrel
    have HG := Lib.hid hg
    clear hg HV
    by_cases hlt : j < n
    · obtain ⟨xc0, c0⟩ := own_cell ho (j * 3) (by omega)
      have s0 := (ho.stored (j * 3) (.int .i64 (k + 3 * j))).1
      obtain ⟨xc1, c1⟩ := own_cell s0 (j * 3 + 1) (by omega)
      have s1 := (s0.stored (j * 3 + 1) (.int .i64 (k + 3 * j + 1))).1
      obtain ⟨xc2, c2⟩ := own_cell s1 (j * 3 + 2) (by omega)
      have HO := Lib.hid (s1.stored (j * 3 + 2) (.int .i64 (k + 3 * j + 1 + 1))).1
      obtain ⟨xg1, g1⟩ := own_cell ho (j * 3 + 1) (by omega)
      obtain ⟨xg2, g2⟩ := own_cell ho (j * 3 + 2) (by omega)
      have f0 := ho.frozenAt (j * 3)
      have f1 := ho.frozenAt (j * 3 + 1)
      have f2 := ho.frozenAt (j * 3 + 2)
      clear ho s0 s1
      go_wp2
      go_roundw
      case rel => exact ⟨j + 1, _, by omega, by go_num, by go_num, turns_trans (turns_trans (turns_trans HG.out (turns_set _ _ _ hb1 hb2)) (turns_set _ _ _ hb1 hb2)) (turns_set _ _ _ hb1 hb2), HO.out⟩
      case measure => simp [intOf]; omega
    · go_wp2
      go_ret
      obtain rfl : j = n := by omega
      exact ⟨rfl, HG.out⟩

set_option maxHeartbeats 1000000 in
theorem markLts_any (lo hi b1 b2 n1 n2 : Nat) (x y : Int) (cs1 cs2 : List Value) (k : Int) (w : World) (h1 : 0 ≤ k) (h2 : k + n1 + 3 * n2 ≤ 1000000000) (hb1 : lo ≤ b1) (hb2 : b1 < hi) (hb3 : lo ≤ b2) (hb4 : b2 < hi) (hhi : hi ≤ w.heap.size) (hne : b1 ≠ b2)
    (hv1 : w.ownsRow lo 9 1 (.slice (some ⟨b1, 0, none⟩) n1 n1) n1 cs1) (hv2 : w.ownsRow lo 62 3 (.slice (some ⟨b2, 0, none⟩) n2 n2) n2 cs2) :
    Calls Tryz.prog 17 #[.agg #[.int .i64 x, .int .i64 y, .slice (some ⟨b1, 0, none⟩) n1 n1, .slice (some ⟨b2, 0, none⟩) n2 n2], .int .i64 k] w (MarkedIn lo hi w (k + n1 + 3 * n2)) := by
  have V1 := Lib.hid hv1
  have V2 := Lib.hid hv2
  have HN := Lib.hid hne
  clear hv1 hv2 hne
  go_enter Tryz.func17, Tryz.ntmps17
  go_wp2_with fail
  refine (markStringS_any b1 (b1 + 1) b1 n1 n1 cs1 _ _ h1 (by omega) (Nat.le_refl _) (Nat.lt_succ_self _) ?_).mono ?_
  · have := owns_below V1.out ((Below.refl _ w).alloc (Nat.le_refl _) (.cells #[.int .i64 x, .int .i64 y, .slice (some ⟨b1, 0, none⟩) n1 n1, .slice (some ⟨b2, 0, none⟩) n2 n2] 31))
    exact own_base this
  rintro e w1 ⟨rfl, ht1⟩
  have A := Lib.hid ((Blk.new w [.int .i64 x, .int .i64 y, .slice (some ⟨b1, 0, none⟩) n1 n1, .slice (some ⟨b2, 0, none⟩) n2 n2] 31).turns ht1 (by omega))
  have c3 := A.out.cell 3 rfl
  have T1 : Hid (Turns lo hi w w1) := turns_trans (turns_below ((Below.refl _ w).alloc (Nat.le_refl _) _)) (turns_wide ht1 (by omega) (by omega))
  have W2 := Lib.hid (owns_turns (owns_below V2.out ((Below.refl _ w).alloc (Nat.le_refl _) _)) ht1 (fun b e => by simp [Value.ownBlock] at e; have := HN.out; omega))
  clear ht1
  go_wp2_with fail
  refine (markEdgeS_any lo hi b2 n2 n2 cs2 _ _ (by omega) (by omega) hb3 hb4 W2.out).mono ?_
  rintro e w2 ⟨rfl, ht2⟩
  have T2 := Lib.hid ht2
  clear ht2
  go_wp2_with fail
  go_ret
  exact ⟨rfl, turns_trans T1.out T2.out⟩

set_option maxRecDepth 100000 in
set_option maxHeartbeats 400000 in
theorem heldInt64S_same (v : Value) (lo n : Nat) (k : Int) (w : World) (h1 : 0 ≤ k) (h2 : k + n ≤ 1000000000) (hv : SliceK 1 encI lo w v (seqI k n)) :
    Calls Tryz.prog 50 #[v, .int .i64 k] w fun e w' => e = .returned (.int .i64 (k + n)) ∧ w = w' := by
  obtain ⟨a, cap, rfl, hn, hcap, hr⟩ := hv
  have hl : (seqI k n).length = n := by simp [seqI]
  rw [hl] at hn ⊢
  have HL := Lib.hid hl
  clear hl
  go_enter Tryz.func50, Tryz.ntmps50
  go_wp2
  go_loop [1, 5] (fun q i => ∃ j : Nat, j ≤ n ∧ q = .int .i64 (k + j) ∧ i = .int .i64 j) (fun _ i => n - (intOf i).toNat)
  case atStart => exact ⟨0, Nat.zero_le _, by simp, rfl⟩
  case round =>
    obtain ⟨j, hj, rfl, rfl⟩ := hrel
    by_cases hlt : j < n
    · obtain ⟨b, off, rfl, -, -, c1⟩ := hr.one (i := j) (by rw [HL.out]; exact hlt)
      simp only [encI, List.getElem?_cons_zero, seqI, List.getElem_map, List.getElem_range] at c1
      clear hr
      go_wp2
      go_round
      case rel => exact ⟨j + 1, by omega, by go_num, by go_num⟩
      case measure => simp [intOf]; omega
    · clear hr
      go_wp2
      go_ret
      obtain rfl : j = n := by omega
      exact ⟨rfl, rfl⟩

set_option maxHeartbeats 400000 in
theorem heldInt64SS_same (v : Value) (lo : Nat) (xss : List (List Int)) (k : Int) (w : World) (h1 : 0 ≤ k) (h2 : k + total xss ≤ 1000000000) (hv : IntssAt lo w v (renum k xss)) :
    Calls Tryz.prog 20 #[v, .int .i64 k] w fun e w' => e = .returned (.int .i64 (k + total xss)) ∧ w = w' := by
  obtain ⟨vs, hvl, ⟨a, cap, rfl, hn, hcap, hr⟩, hvs⟩ := hv
  rw [renum_len] at hvl
  have HV := Lib.hid hvs
  have HL := Lib.hid hvl
  clear hvs hvl
  go_enter Tryz.func20, Tryz.ntmps20
  go_wp2
  go_loop [1, 5] (fun q i => ∃ j : Nat, j ≤ vs.length ∧ q = .int .i64 (k + total (xss.take j)) ∧ i = .int .i64 j) (fun _ i => vs.length - (intOf i).toNat)
  case atStart => exact ⟨0, Nat.zero_le _, by simp [total], rfl⟩
  case round =>
    obtain ⟨j, hj, rfl, rfl⟩ := hrel
    by_cases hlt : j < vs.length
    · have hx : j < xss.length := by rw [← HL.out]; exact hlt
      obtain ⟨b, off, rfl, -, -, c1⟩ := hr.one hlt
      have s1 := HV.out j hlt (by rw [renum_len]; exact hx)
      rw [renum_get _ _ _ hx] at s1
      have ht := total_take xss j hx
      have htl := total_take_le xss (j + 1)
      simp only [encV, List.getElem?_cons_zero] at c1
      generalize vs[j] = p at *
      have S1 := Lib.hid s1
      obtain ⟨_, _, rfl, -⟩ := s1
      have HT := Lib.hid ht
      have hle : k + total (xss.take j) + xss[j].length ≤ 1000000000 := by omega
      clear hr ht htl
      go_wp2_with fail
      refine (heldInt64S_same _ lo xss[j].length _ _ (by omega) hle S1.out).mono ?_
      rintro e w1 ⟨rfl, rfl⟩
      go_wp2_with fail
      go_round
      case rel => exact ⟨j + 1, by omega, by rw [HT.out]; go_num, by go_num⟩
      case measure => simp [intOf]; omega
    · clear hr
      go_wp2
      go_ret
      obtain rfl : j = vs.length := by omega
      exact ⟨ret_int (by rw [HL.out]; simp), rfl⟩

set_option maxHeartbeats 400000 in
theorem markInt64SS_any (lo : Nat) (v : Value) (vs : List Value) (xss : List (List Int)) (k : Int) (w : World) (h1 : 0 ≤ k) (h2 : k + total xss ≤ 1000000000) (hlo : lo ≤ w.heap.size) (hv : OwnIntss 60 2 lo w v vs xss) :
    Calls Tryz.prog 18 #[v, .int .i64 k] w fun e w' => e = .returned (.int .i64 (k + total xss)) ∧ Below lo w w' ∧ OwnIntss 60 2 lo w' v vs (renum k xss) := by
  have HV := Lib.hid hv
  rcases hv.2.1.2 with ⟨rfl, h0⟩ | ⟨g, cap, cur, rfl, -, -, hnc, hcm, -⟩
  · have hx : xss = [] := List.eq_nil_of_length_eq_zero (by rw [← hv.1]; exact h0)
    subst hx
    clear hv
    go_enter Tryz.func18, Tryz.ntmps18
    go_wp2
    go_loop [1, 5] (fun q i => q = .int .i64 k ∧ i = .int .i64 0) (fun _ _ => 0)
    case atStart => exact ⟨rfl, rfl⟩
    case round =>
      obtain ⟨rfl, rfl⟩ := hrel
      go_wp2
      go_ret
      exact ⟨ret_int (by simp [total]), Below.refl _ _, HV.out⟩
  · have HL := Lib.hid hv.1
    have hmx : vs.length ≤ 9223372036854775807 := by simp only [maxLen] at hcm; omega
    clear hv hcm hnc
    go_enter Tryz.func18, Tryz.ntmps18
    go_wp2
    go_loopw [1, 5] (fun q i wr => ∃ j : Nat, j ≤ vs.length ∧ q = .int .i64 (k + total (xss.take j)) ∧ i = .int .i64 j ∧ Below lo w wr ∧ OwnIntss 60 2 lo wr (.slice (some ⟨g, 0, none⟩) vs.length cap) vs (renum k (xss.take j) ++ xss.drop j)) (fun _ i _ => vs.length - (intOf i).toNat)
    case atStart => exact ⟨0, Nat.zero_le _, by simp [total], rfl, Below.refl _ _, by simpa [renum] using HV.out⟩
    case round =>
      obtain ⟨j, hj, rfl, rfl, hb, ho⟩ := hrel
      have HB := Lib.hid hb
      have HO := Lib.hid ho
      have hsz := hb.size
      clear hb HV
      by_cases hlt : j < vs.length
      · have hx : j < xss.length := by rw [← HL.out]; exact hlt
        have c1 := ho.2.1.cellAt j (by omega)
        rw [List.getElem?_eq_getElem hlt] at c1
        have hzl : j < (renum k (xss.take j) ++ xss.drop j).length := by simp [renum_len]; omega
        have hrow := ho.2.2.1 j hlt hzl
        have hz : (renum k (xss.take j) ++ xss.drop j)[j] = xss[j] := by
          rw [List.getElem_append_right (by rw [renum_len]; simp; omega)]
          simp only [renum_len, List.length_take, Nat.min_eq_left (Nat.le_of_lt hx), Nat.sub_self, List.getElem_drop, Nat.add_zero]
        rw [hz] at hrow
        have ht := total_take xss j hx
        have htl := total_take_le xss (j + 1)
        have HT := Lib.hid ht
        have hle : k + total (xss.take j) + (xss[j].map (Value.int .i64)).length ≤ 1000000000 := by simp; omega
        have HR := Lib.hid hrow
        have hp : ∃ p, p = vs[j] := ⟨_, rfl⟩
        obtain ⟨p, hp⟩ := hp
        rw [← hp] at c1
        have HP := Lib.hid hp
        clear hp hrow ht htl ho hz
        go_wp2_with fail
        refine (markInt64S_any lo p (xss[j].map (Value.int .i64)) _ _ (by omega) hle ?_).mono ?_
        · rw [HP.out, List.length_map]; exact HR.out
        rintro e w1 ⟨rfl, hg, hq⟩
        have hb2 : Below lo wr w1 := below_grown hg (by omega) (fun b e => by rw [HP.out] at e; exact (HR.out.lt b e).1)
        have HO2 : Hid (OwnIntss 60 2 lo w1 (.slice (some ⟨g, 0, none⟩) vs.length cap) vs (renum k (xss.take (j + 1)) ++ xss.drop (j + 1))) := by
          have := OwnIntss.row HO.out j hlt (seqI (k + total (xss.take j)) xss[j].length) (by rw [← HP.out]; exact hg) ?_
          · rw [renum_step _ _ _ hx] at this
            exact this
          · rw [marked_all, HP.out] at hq
            simp only [List.length_map] at hq
            simp only [seqI, List.length_map, List.length_range, List.map_map]
            exact hq
        have HB2 := Lib.hid hb2
        clear hg hq hb2 HO HR
        simp only [List.length_map]
        go_wp2_with fail
        go_roundw
        case rel => exact ⟨j + 1, by omega, by rw [HT.out]; go_num, by go_num, HB.out.trans HB2.out, HO2.out⟩
        case measure => simp [intOf]; omega
      · clear ho
        go_wp2
        go_ret
        obtain rfl : j = vs.length := by omega
        exact ⟨ret_int (by rw [HL.out]; simp), HB.out, by rw [show renum k xss = renum k (xss.take vs.length) ++ xss.drop vs.length from by rw [HL.out]; simp]; exact HO.out⟩

end Go.Proofs.YtbbffbnfppbibaaGreatDoor

namespace Go.Proofs.YtbbffbnfppbibaaGreatDoor
open Go Go.RowKit

def mdig : Nat → Int → ByteArray → ByteArray
  | 0, _, t => t
  | f + 1, n, t => if 0 < n then mdig f (n / 10) (⟨#[UInt8.ofNat (48 + n % 10).toNat]⟩ ++ t) else t
/-- The text of a mark. -/
def mtxt (k : Int) : ByteArray := if k ≤ 0 then ⟨#[109, 48]⟩ else ⟨#[109]⟩ ++ mdig 10 k ⟨#[]⟩
theorem mdig_stop (f : Nat) {n : Int} (t : ByteArray) (h : ¬ 0 < n) : mdig f n t = t := by
  cases f with
  | zero => rfl
  | succ f => rw [mdig, if_neg h]

set_option maxRecDepth 100000 in
set_option maxHeartbeats 400000 in
theorem markText_is (k : Int) (w : World) (h1 : 0 ≤ k) (h2 : k ≤ 1000000000) : Calls Tryz.prog 58 #[.int .i64 k] w fun e w' => e = .returned (.string (mtxt k)) ∧ Below w.heap.size w w' := by
  obtain ⟨R, hR⟩ : ∃ R, R = mtxt k := ⟨_, rfl⟩
  rw [← hR]
  by_cases h0 : k ≤ 0
  · unfold mtxt at hR
    rw [if_pos h0] at hR
    subst hR
    go_enter Tryz.func58, Tryz.ntmps58
    go_wp2
    go_ret
    exact ⟨rfl, Below.refl _ _⟩
  · unfold mtxt at hR
    rw [if_neg h0] at hR
    obtain ⟨D, hD⟩ : ∃ D, D = mdig 10 k ⟨#[]⟩ := ⟨_, rfl⟩
    rw [← hD] at hR
    have HD := Lib.hid hD
    have HR := Lib.hid hR
    clear hD hR
    go_enter Tryz.func58, Tryz.ntmps58
    go_wp2
    go_loopw [0, 3] (fun q s wr => ∃ (n : Int) (t : ByteArray) (f : Nat), 0 ≤ n ∧ t.size + n ≤ 1000000000 ∧ n < (10 : Int) ^ f ∧ mdig f n t = D ∧ q = .int .i64 n ∧ s = .string t ∧ Below w.heap.size w wr) (fun q _ _ => (intOf q).toNat)
    case atStart => exact ⟨k, ⟨#[]⟩, 10, by omega, by show ((0 : Nat) : Int) + k ≤ _; omega, by show k < 10000000000; omega, HD.out.symm, rfl, rfl, Below.refl _ _⟩
    case round =>
      obtain ⟨n, t, f, hn, hn2, hf, hd, rfl, rfl, hbl⟩ := hrel
      have HDD := Lib.hid hd
      have HF := Lib.hid hf
      clear hd hf
      by_cases hp : 0 < n
      · have kc := digit_text wr n hn
        go_wp2
        go_roundw
        case rel =>
          have hz : (ByteArray.mk #[UInt8.ofNat (48 + n % 10).toNat] ++ t).size = 1 + t.size := by rw [ByteArray.size_append]; rfl
          have hf := HF.out
          cases f with
          | zero => exfalso; rw [Int.pow_zero] at hf; omega
          | succ f =>
            have hd := HDD.out
            rw [mdig, if_pos hp] at hd
            refine ⟨_, _, f, by omega, by rw [hz]; omega, ?_, hd, rfl, rfl, hbl.alloc hbl.size _⟩
            rw [Int.pow_succ] at hf
            omega
        case measure => simp [intOf]; omega
      · have HE : Hid (t = D) := by have := HDD.out; rw [mdig_stop f t hp] at this; exact this
        go_wp2
        go_ret
        exact ⟨by rw [HR.out, HE.out]; rfl, hbl⟩

/-- The marks from k on, as texts. -/
def mrkS (k : Int) (n : Nat) : List ByteArray := (List.range n).map fun i => mtxt (k + (i : Nat))
def markedS (k : Int) (cs : List Value) (j : Nat) : List Value := (mrkS k j).map Value.string ++ cs.drop j
theorem mrkS_len (k : Int) (n : Nat) : (mrkS k n).length = n := by simp [mrkS]
theorem markedS_zero (k : Int) (cs : List Value) : markedS k cs 0 = cs := by simp [markedS, mrkS]
theorem markedS_all (k : Int) (cs : List Value) : markedS k cs cs.length = (mrkS k cs.length).map Value.string := by simp [markedS]
theorem markedS_get (k : Int) (cs : List Value) (j : Nat) (h : j < cs.length) : (markedS k cs j)[j]? = some cs[j] := by
  unfold markedS
  rw [List.getElem?_append_right (by simp [mrkS])]
  simp [h, mrkS]
theorem markedS_set (k : Int) (cs : List Value) (j : Nat) (h : j < cs.length) : (markedS k cs j).set j (.string (mtxt (k + (j : Nat)))) = markedS k cs (j + 1) := by
  unfold markedS mrkS
  rw [List.set_append_right _ _ (by simp), List.range_succ, List.map_append, List.map_append, List.append_assoc, List.drop_eq_getElem_cons h]
  simp only [List.length_map, List.length_range, Nat.sub_self, List.set_cons_zero, List.map_cons, List.map_nil, List.cons_append, List.nil_append]

set_option maxRecDepth 100000 in
set_option maxHeartbeats 400000 in
theorem markStringS_is (lo : Nat) (v : Value) (cs : List Value) (k : Int) (w : World) (h1 : 0 ≤ k) (h2 : k + cs.length ≤ 1000000000) (hv : w.ownsRow lo 9 1 v cs.length cs) :
    Calls Tryz.prog 29 #[v, .int .i64 k] w (Marked w v (k + cs.length) (fun w' => w'.ownsRow lo 9 1 v cs.length ((mrkS k cs.length).map Value.string))) := by
  have HV := Lib.hid hv
  rcases hv.2 with ⟨rfl, h0⟩ | ⟨b, cap, cur, rfl, -, -, hcap, hm, -⟩
  · clear hv
    have hcs : cs = [] := List.eq_nil_of_length_eq_zero h0
    subst hcs
    go_enter Tryz.func29, Tryz.ntmps29
    go_wp2
    go_loop [1, 5] (fun q i => q = .int .i64 k ∧ i = .int .i64 0) (fun _ _ => 0)
    case atStart => exact ⟨rfl, rfl⟩
    case round =>
      obtain ⟨rfl, rfl⟩ := hrel
      go_wp2
      go_ret
      exact ⟨ret_int (by simp), grown_refl _ _, HV.out⟩
  · clear hv
    obtain ⟨N, hN⟩ : ∃ N, N = cs.length := ⟨_, rfl⟩
    rw [← hN] at h2 hcap HV ⊢
    have HN := Lib.hid hN
    clear hN
    go_enter Tryz.func29, Tryz.ntmps29
    go_wp2
    go_loopw [1, 5] (fun q i wr => ∃ j : Nat, j ≤ N ∧ q = .int .i64 (k + j) ∧ i = .int .i64 j ∧ w.grownBy wr (some b) ∧ wr.ownsRow lo 9 1 (.slice (some ⟨b, 0, none⟩) N cap) N (markedS k cs j)) (fun _ i _ => N - (intOf i).toNat)
    case atStart => exact ⟨0, Nat.zero_le _, by simp, rfl, grown_refl _ _, by rw [markedS_zero]; exact HV.out⟩
    case round =>
      obtain ⟨j, hj, rfl, rfl, hg, ho⟩ := hrel
      have HG := Lib.hid hg
      have HO := Lib.hid ho
      clear hg ho HV
      by_cases hlt : j < N
      · go_wp2_with fail
        refine (markText_is _ _ (by omega) (by omega)).mono ?_
        rintro e w1 ⟨rfl, hb⟩
        have hjc : j < cs.length := by rw [← HN.out]; exact hlt
        have ho1 := owns_below HO.out hb
        have c1 := ho1.cellAt j (by omega)
        rw [markedS_get _ _ _ hjc] at c1
        have f1 := ho1.frozenAt j
        have ho2 := ho1.stored j (.string (mtxt (k + j)))
        rw [markedS_set _ _ _ hjc] at ho2
        have HO2 := Lib.hid ho2
        have HB := Lib.hid (grown_below hb (some b))
        clear ho1 ho2 hb
        go_wp2
        go_roundw
        case rel => exact ⟨j + 1, by omega, by go_num, by go_num, grown_trans (grown_trans HG.out HB.out) HO2.out.2, HO2.out.1⟩
        case measure => simp [intOf]; omega
      · go_wp2
        go_ret
        obtain rfl : j = N := by omega
        refine ⟨rfl, HG.out, ?_⟩
        have := HO.out
        rw [HN.out, markedS_all, ← HN.out] at this
        exact this

set_option maxRecDepth 100000 in
set_option maxHeartbeats 400000 in
theorem heldStringS_is (v : Value) (lo n : Nat) (k : Int) (w : World) (h1 : 0 ≤ k) (h2 : k + n ≤ 1000000000) (hv : SliceK 1 encS lo w v (mrkS k n)) :
    Calls Tryz.prog 30 #[v, .int .i64 k] w fun e w' => e = .returned (.int .i64 (k + n)) ∧ Below w.heap.size w w' := by
  obtain ⟨a, cap, rfl, hn, hcap, hr⟩ := hv
  have hl := mrkS_len k n
  rw [hl] at hn ⊢
  have HL := Lib.hid hl
  have HR := Lib.hid hr
  clear hl hr
  go_enter Tryz.func30, Tryz.ntmps30
  go_wp2
  go_loopw [1, 5] (fun q i wr => ∃ j : Nat, j ≤ n ∧ q = .int .i64 (k + j) ∧ i = .int .i64 j ∧ Below w.heap.size w wr) (fun _ i _ => n - (intOf i).toNat)
  case atStart => exact ⟨0, Nat.zero_le _, by simp, rfl, Below.refl _ _⟩
  case round =>
    obtain ⟨j, hj, rfl, rfl, hb⟩ := hrel
    have HB := Lib.hid hb
    by_cases hlt : j < n
    · obtain ⟨b, off, rfl, -, hbl, c1⟩ := (HR.out.below hb).one (i := j) (by rw [HL.out]; exact hlt)
      simp only [encS, List.getElem?_cons_zero, mrkS, List.getElem_map, List.getElem_range] at c1
      have l1 := later_cell hbl c1
      have HM := Lib.hid (fun w' => markText_is (k + j) w' (by omega) (by omega))
      clear hb c1
      go_wp2
      refine wp_region_later (by kernel_rfl) (by kernel_rfl) ?_
      repeat (go_big_quiet_step (((go_at_call 58; refine later_call (HM.out _)))))
      refine wpQuiet_nil ?_
      intro _ hw9
      obtain ⟨nl, hw8⟩ := hw9
      subst hw8
      have HB2 := Lib.hid (HB.out.trans (nl.h.mono HB.out.size))
      clear l1
      go_wp2
      go_roundw
      case rel => exact ⟨j + 1, by omega, by go_num, by go_num, HB2.out⟩
      case measure => simp [intOf]; omega
    · clear hb
      go_wp2
      go_ret
      obtain rfl : j = n := by omega
      exact ⟨rfl, HB.out⟩

end Go.Proofs.YtbbffbnfppbibaaGreatDoor

namespace Go.Proofs.YtbbffbnfppbibaaGreatDoor
open Go Go.RowKit

/-- Rows of the call's own, no two in one block. -/
structure Pile (ei lo : Nat) (w : World) (vs : List Value) (css : List (List Value)) : Prop where
  len : vs.length = css.length
  row : ∀ (i : Nat) (h : i < vs.length) (h' : i < css.length), w.ownsRow lo ei 1 vs[i] css[i].length css[i]
  far : ∀ (i j : Nat) (h : i < vs.length) (h' : j < vs.length), i ≠ j → vs[i].ownBlock = none ∨ vs[i].ownBlock ≠ vs[j].ownBlock
theorem Pile.nil (ei lo : Nat) (w : World) : Pile ei lo w [] [] := ⟨rfl, fun _ h => absurd h (Nat.not_lt_zero _), fun _ _ h => absurd h (Nat.not_lt_zero _)⟩
theorem Pile.below {ei lo : Nat} {w w' : World} {vs : List Value} {css : List (List Value)} (h : Pile ei lo w vs css) (hb : Below w.heap.size w w') : Pile ei lo w' vs css :=
  ⟨h.len, fun i hi hi' => owns_below (h.row i hi hi') hb, h.far⟩
theorem Pile.lower {ei lo lo' : Nat} {w : World} {vs : List Value} {css : List (List Value)} (h : Pile ei lo w vs css) (hl : lo' ≤ lo) : Pile ei lo' w vs css :=
  ⟨h.len, fun i hi hi' => own_lower (h.row i hi hi') hl, h.far⟩
theorem Pile.turns {ei base lo hi : Nat} {w w' : World} {vs : List Value} {css : List (List Value)} (h : Pile ei base w vs css) (ht : Turns lo hi w w') (hb : hi ≤ base) : Pile ei base w' vs css :=
  ⟨h.len, fun i hi hi' => owns_turns (h.row i hi hi') ht (fun b e => .inr (Nat.le_trans hb ((h.row i hi hi').lt b e).1)), h.far⟩
theorem Pile.kept {ei lo : Nat} {w w' : World} {vs : List Value} {css : List (List Value)} {row : Option Nat} (h : Pile ei lo w vs css) (hg : w.grownBy w' row) (hr : ∀ (i : Nat) (h : i < vs.length), vs[i].ownBlock = none ∨ vs[i].ownBlock ≠ row) : Pile ei lo w' vs css :=
  ⟨h.len, fun i hi hi' => (h.row i hi hi').kept hg (hr i hi), h.far⟩
/-- A row of another type was written. -/
theorem Pile.other {ei eo lo lo2 size n : Nat} {w w' : World} {vs : List Value} {css : List (List Value)} {v : Value} {xs : List Value} (h : Pile ei lo w vs css) (he : ei ≠ eo) (ho : w.ownsRow lo2 eo size v n xs) (hg : w.grownBy w' v.ownBlock) : Pile ei lo w' vs css :=
  h.kept hg fun i hi => own_types (h.row i hi (by rw [← h.len]; exact hi)) ho he
theorem own_type_far {w : World} {base e size n b : Nat} {v : Value} {xs : List Value} (ho : w.ownsRow base e size v n xs) {a : Array Value} {t : TypeId} {fr : Nat × Nat} (hb : w.heap[b]? = some (.cells a t fr)) (he : e ≠ t) : v.ownBlock = none ∨ v.ownBlock ≠ some b := by
  rcases ho.2 with ⟨rfl, -⟩ | ⟨g, c, u, rfl, -, hg, -⟩
  · exact .inl rfl
  · refine .inr fun e2 => ?_
    simp only [Value.ownBlock, Option.some.injEq] at e2
    subst e2
    rw [hg] at hb
    simp only [Option.some.injEq, Obj.cells.injEq] at hb
    exact he hb.2.1
/-- A cell of a block of another type was written. -/
theorem Pile.set {ei lo : Nat} {w : World} {vs : List Value} {css : List (List Value)} (h : Pile ei lo w vs css) {b : Nat} {cs : List Value} {t : TypeId} (hb : Blk w b cs t) (he : ei ≠ t) (i : Nat) (u : Value) : Pile ei lo (w.setCell ⟨b, i, none⟩ u) vs css :=
  h.kept (grown_setCell w ⟨b, i, none⟩ u) fun j hj => own_type_far (h.row j hj (by rw [← h.len]; exact hj)) hb he
/-- One row is written. -/
theorem Pile.put {ei lo : Nat} {w w' : World} {vs : List Value} {css : List (List Value)} (h : Pile ei lo w vs css) (j : Nat) (hj : j < vs.length) (ys : List Value) (hg : w.grownBy w' vs[j].ownBlock) (ho : w'.ownsRow lo ei 1 vs[j] ys.length ys) : Pile ei lo w' vs (css.set j ys) := by
  refine ⟨by simpa using h.len, fun i hi hi' => ?_, h.far⟩
  by_cases hij : j = i
  · subst hij
    simpa using ho
  · rw [List.getElem_set_ne hij]
    exact (h.row i hi (by simpa using hi')).kept hg (h.far i j hi hj (fun e => hij e.symm))
/-- One row more, which lies behind all that was there. -/
theorem Pile.push {ei lo B : Nat} {w0 w : World} {rv : Value} {vs : List Value} {css : List (List Value)} {ys : List Value} (h : Pile ei lo w0 vs css) (hB : w0.heap.size ≤ B) (hb : Below w0.heap.size w0 w) (hr : w.ownsRow B ei 1 rv ys.length ys) (hlo : lo ≤ B) :
    Pile ei lo w (vs ++ [rv]) (css ++ [ys]) := by
  have hk := h.below hb
  have hl := h.len
  refine ⟨by simp [hl], fun i hi hi' => ?_, fun i j hi hj hij => ?_⟩
  · by_cases hlt : i < vs.length
    · rw [List.getElem_append_left hlt]
      simp only [List.getElem_append_left (show i < css.length by omega)]
      exact hk.row i hlt (by omega)
    · have e : i = vs.length := by simp at hi; omega
      subst e
      rw [List.getElem_concat_length rfl]
      have : (css ++ [ys])[vs.length] = ys := by simp [hl]
      rw [this]
      exact own_lower hr hlo
  · have hold : ∀ (i : Nat) (h : i < vs.length) b, vs[i].ownBlock = some b → b < w0.heap.size := fun i hi b e => ((h.row i hi (by omega)).lt b e).2
    have hnb : ∀ b, rv.ownBlock = some b → B ≤ b := fun b e => (hr.lt b e).1
    by_cases h1' : i < vs.length <;> by_cases h2' : j < vs.length
    · rw [List.getElem_append_left h1', List.getElem_append_left h2']
      exact h.far i j h1' h2' hij
    · have e : j = vs.length := by simp at hj; omega
      subst e
      rw [List.getElem_append_left h1', List.getElem_concat_length rfl]
      cases hb1 : vs[i].ownBlock with
      | none => exact .inl rfl
      | some b => exact .inr fun e => by have := hold i h1' b hb1; have := hnb b e.symm; omega
    · have e : i = vs.length := by simp at hi; omega
      subst e
      rw [List.getElem_append_left h2', List.getElem_concat_length rfl]
      cases hb1 : rv.ownBlock with
      | none => exact .inl rfl
      | some b => exact .inr fun e => by have := hold j h2' b e.symm; have := hnb b hb1; omega
    · simp at hi hj; omega
theorem Pile.one {ei lo B : Nat} {w : World} {rv : Value} {ys : List Value} (hr : w.ownsRow B ei 1 rv ys.length ys) (hlo : lo ≤ B) : Pile ei lo w [rv] [ys] := by
  refine ⟨rfl, fun i hi hi' => ?_, fun i j hi hj hij => ?_⟩
  · obtain rfl : i = 0 := by simp at hi; omega
    exact own_lower hr hlo
  · simp at hi hj; omega
theorem Pile.old {ei lo : Nat} {w : World} {vs : List Value} {css : List (List Value)} (h : Pile ei lo w vs css) {i : Nat} (hi : i < vs.length) {b : Nat} (e : vs[i].ownBlock = some b) : lo ≤ b ∧ b < w.heap.size :=
  (h.row i hi (by rw [← h.len]; exact hi)).lt b e

/-- Blocks of types other than these are as they were. -/
def Only (Ts : List TypeId) (w w' : World) : Prop := ∀ (b : Nat) (a : Array Value) (T : TypeId) (fr : Nat × Nat), w.heap[b]? = some (.cells a T fr) → T ∉ Ts → w'.heap[b]? = some (.cells a T fr)
theorem Only.refl (Ts : List TypeId) (w : World) : Only Ts w w := fun _ _ _ _ h _ => h
theorem Only.trans {Ts Us : List TypeId} {a b c : World} (h : Only Ts a b) (k : Only Us b c) : Only (Ts ++ Us) a c := fun x y T fr hx hT => by
  rw [List.mem_append] at hT
  exact k x y T fr (h x y T fr hx (fun e => hT (.inl e))) (fun e => hT (.inr e))
theorem Only.step {Ts : List TypeId} {a b c : World} (h : Only Ts a b) (k : Only Ts b c) : Only Ts a c := fun x y T fr hx hT => k x y T fr (h x y T fr hx hT) hT
theorem Only.below {w w' : World} (Ts : List TypeId) (hb : Below w.heap.size w w') : Only Ts w w' := fun b a T fr h _ => (hb.block b (Array.getElem?_eq_some_iff.1 h).1).trans h
theorem Only.grown {base e size n : Nat} {w w' : World} {v : Value} {xs : List Value} (ho : w.ownsRow base e size v n xs) (hg : w.grownBy w' v.ownBlock) : Only [e] w w' := fun b a T fr h hT => by
  refine (hg.block b (Array.getElem?_eq_some_iff.1 h).1 ?_).trans h
  intro e2
  rcases own_type_far ho h (fun e3 => hT (by rw [e3]; simp)) with h1 | h1
  · rw [h1] at e2; cases e2
  · exact h1 e2.symm
theorem Only.own {Ts : List TypeId} {w w' : World} (h : Only Ts w w') {base e size n : Nat} {v : Value} {xs : List Value} (ho : w.ownsRow base e size v n xs) (he : e ∉ Ts) : w'.ownsRow base e size v n xs := by
  refine ⟨ho.1, ?_⟩
  rcases ho.2 with hn | ⟨g, cap, cur, rfl, hb, hgg, rest⟩
  · exact .inl hn
  · exact .inr ⟨g, cap, cur, rfl, hb, h g _ _ _ hgg he, rest⟩
theorem Only.blk {Ts : List TypeId} {w w' : World} (h : Only Ts w w') {b : Nat} {cs : List Value} {t : TypeId} (hb : Blk w b cs t) (he : t ∉ Ts) : Blk w' b cs t := h b _ _ _ hb he
theorem Only.mono {Ts Us : List TypeId} {w w' : World} (h : Only Ts w w') (hs : ∀ T ∈ Ts, T ∈ Us) : Only Us w w' := fun b a T fr hb hT => h b a T fr hb (fun e => hT (hs T e))
theorem Only.pile {Ts : List TypeId} {w w' : World} (h : Only Ts w w') {ei lo : Nat} {vs : List Value} {css : List (List Value)} (ho : Pile ei lo w vs css) (he : ei ∉ Ts) : Pile ei lo w' vs css :=
  ⟨ho.len, fun i hi hi' => h.own (ho.row i hi hi') he, ho.far⟩

end Go.Proofs.YtbbffbnfppbibaaGreatDoor
