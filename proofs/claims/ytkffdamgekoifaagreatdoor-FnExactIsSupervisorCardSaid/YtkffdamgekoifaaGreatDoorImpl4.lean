/-
  What the implementation's readNumbers computes.
-/
import Derived.Test.YtkffdamgekoifaaGreatDoorImpl3
namespace Go.Proofs.YtkffdamgekoifaaGreatDoor
open Go Go.RowKit

/-- Words read as numbers. -/
def decs (ss : List ByteArray) : List Int := ss.map fun s => (readDec s.data.toList).getD 0
def decsOk (ss : List ByteArray) : Bool := ss.all fun s => (readDec s.data.toList).isSome
def RetNums (ss : List ByteArray) (w : World) (e : Ending) (w' : World) : Prop :=
  ∃ v, e = .returned (.tuple #[v, .bool (decsOk ss)]) ∧ Below w.heap.size w w' ∧ (decsOk ss = true → w'.ownsRow w.heap.size 2 1 v (decs ss).length ((decs ss).map (Value.int .i64)))

theorem decsOk_none {ss : List ByteArray} {j : Nat} (h : j < ss.length) (hn : readDec ss[j].data.toList = none) : decsOk ss = false := by
  unfold decsOk
  rw [List.all_eq_false]
  exact ⟨ss[j], List.getElem_mem _, by rw [hn]; simp⟩

set_option maxRecDepth 100000 in
set_option maxHeartbeats 2000000 in
theorem readNumbers_any (lo : Nat) (v : Value) (ss : List ByteArray) (w : World) (hs : ∀ i (h : i < ss.length), ss[i].size ≤ 1073741824) (hl : ss.length ≤ 1073741824) (hv : SliceK 1 encS lo w v ss) (g : Glob w) :
    Calls Tryz.prog 85 #[v] w (RetNums ss w) := by
  obtain ⟨a, c, rfl, hcn, hcc, hrow⟩ := hv
  obtain ⟨i0, hi, hz0, hz1, hz2⟩ := info_parts info_int64
  have G := Lib.hid g
  have HSZ := Lib.hid hs
  clear g hs
  go_enter Tryz.func85, Tryz.ntmps85
  go_wp2_with fail
  go_loopw [4, 11] (fun v i wr => ∃ k : Nat, k ≤ ss.length ∧ i = .int .i64 k ∧ Below w.heap.size w wr ∧ wr.ownsRow w.heap.size 2 1 v k ((decs (ss.take k)).map (Value.int .i64)) ∧ ∀ q (h : q < ss.length), q < k → (readDec ss[q].data.toList).isSome = true) (fun _ i _ => ss.length - (intOf i).toNat)
  case atStart => exact ⟨0, Nat.zero_le _, rfl, Below.refl _ _, World.ownsRow_nil _ _ _ _, fun _ _ h => by omega⟩
  case round =>
    obtain ⟨k, hk, rfl, hb, ho, ha⟩ := hrel
    have HA := Lib.hid ha
    have HB := Lib.hid hb
    have HO := Lib.hid ho
    have hsz := hb.size
    clear ha hb ho
    by_cases hlt : k < ss.length
    · obtain ⟨b1, o1, rfl, -, hbs, c1⟩ := (hrow.below HB.out).one hlt
      simp only [encS, List.getElem?_cons_zero] at c1
      clear hrow
      obtain ⟨p, hp⟩ : ∃ p, p = ss[k] := ⟨_, rfl⟩
      rw [← hp] at c1
      have HP := Lib.hid hp
      have hpz : p.size ≤ 1073741824 := by rw [hp]; exact HSZ.out k hlt
      clear hp
      obtain ⟨o, hd⟩ : ∃ o, readDec p.data.toList = o := ⟨_, rfl⟩
      have HD := Lib.hid hd
      clear hd
      go_wp2_with fail
      refine (ReadDecimal_any _ _ hpz (G.out.below HB.out)).mono ?_
      rintro e w1 ⟨rfl, hb1⟩
      have HB1 := Lib.hid hb1
      have hs1 := hb1.size
      clear hb1
      rw [HD.out]
      cases o with
      | none =>
        simp only [Option.isSome_none, Option.getD_none]
        go_wp2_with fail
        go_ret2
        have hf : decsOk ss = false := decsOk_none hlt (by rw [← HP.out]; exact HD.out)
        exact ⟨.slice none 0 0, by rw [hf]; rfl, HB.out.trans (HB1.out.mono hsz), fun h => by rw [hf] at h; cases h⟩
      | some n =>
        simp only [Option.isSome_some, Option.getD_some]
        have HO1 := Lib.hid (owns_below HO.out HB1.out)
        have HBB := Lib.hid (HB.out.trans (HB1.out.mono hsz))
        clear c1
        go_wp2_with (at_builtin; refine wpList_append_own _ rfl _ _ 26 rfl w.heap.size 2 i0 (.int .i64 0) 1 8 Tryz.underlying26 hi hz0 hz1 hz2 rfl (by decide) _ _ _ rfl (HO1.out.alloc _) ⟨w1.heap.size, 0, none⟩ 1 1 [.int .i64 n] rfl rfl ?c1 ?c2 ?c3 ?c4 ?c5 ?_)
        case c1 => exact (cell_one_new _ _ _)
        case c2 => intro u hu; simp at hu; subst hu; rfl
        case c3 => simp [maxLen]; omega
        case c4 => omega
        case c5 => simp; omega
        intro v' w3 ho1 hg1 _
        have HO2 : Hid (w3.ownsRow w.heap.size 2 1 v' (k + 1) ((decs (ss.take (k + 1))).map (Value.int .i64))) := by
          have e : (decs (ss.take (k + 1))).map (Value.int .i64) = (decs (ss.take k)).map (Value.int .i64) ++ [.int .i64 n] := by
            unfold decs
            rw [List.take_succ_eq_append_getElem hlt, List.map_append, List.map_append, ← HP.out]
            simp [HD.out]
          unfold Hid
          rw [e]
          exact ho1
        have HBX : Hid (Below w.heap.size w w3) := (HBB.out.alloc (by omega) _).grown hg1 (by simp; omega) (fun b e => (HO1.out.lt b e).1)
        clear ho1 hg1
        go_wp2
        go_roundw
        case rel => exact ⟨k + 1, by omega, by go_num, HBX.out, HO2.out, fun q h h' => by
          by_cases e : q = k
          · subst e; rw [← HP.out, HD.out]; rfl
          · exact HA.out q h (by omega)⟩
        case measure => simp [intOf]; omega
    · obtain rfl : k = ss.length := by omega
      have HF : Hid (decsOk ss = true) := by
        unfold Hid decsOk
        rw [List.all_eq_true]
        intro x hx
        obtain ⟨q, hq, rfl⟩ := List.mem_iff_getElem.1 hx
        exact HA.out q hq hq
      have HO2 : Hid (wr.ownsRow w.heap.size 2 1 u4 (decs ss).length ((decs ss).map (Value.int .i64))) := by
        have := HO.out
        rw [List.take_length] at this
        unfold Hid
        rw [show (decs ss).length = ss.length from by simp [decs]]
        exact this
      clear hrow HO
      go_wp2_with fail
      go_ret2
      exact ⟨_, by rw [HF.out]; rfl, HB.out, fun _ => HO2.out⟩

end Go.Proofs.YtkffdamgekoifaaGreatDoor
