/-
  The law's copy of a monitor.
  The marks that the package laws writes into lists of numbers, and whether they still stand there.
  The texts that marks are, lists of texts and edges marked, and that the marks still stand.
  Marks in edges and in systems of the call's own, and that they still stand.
  What a size that fits says of a system's parts.
  What the joining walks of the exact laws share: copies of systems, boxes, which blocks a mark can turn.
  The law's marks in a monitor, and that they still stand.
  A monitor among the law's arguments: its copy, what its size bounds.
-/
import Derived.Test.YtjghfgaincnegaaGreatDoorN21
import Derived.Test.YtjghfgaincnegaaGreatDoorN11
import Derived.Test.YtjghfgaincnegaaGreatDoorN1
namespace Go.Proofs.YtjghfgaincnegaaGreatDoor
open Go Go.RowKit

theorem own_setLow {w : World} {base e size n : Nat} {v : Value} {xs : List Value} (h : w.ownsRow base e size v n xs) {b : Nat} (hb : b < base) (i : Nat) (u : Value) : (w.setCell ⟨b, i, none⟩ u).ownsRow base e size v n xs :=
 owns_setOther h _ _ fun k => by have := (h.lt b k).1; omega
/-- A copy of a monitor, in memory of the call's own: its slices lie in three new blocks, one behind the other. -/
def MadeMon (w : World) (m : Mon) (e : Ending) (w' : World) : Prop :=
 ∃ b1 b2 b3, e = .returned (.agg #[.int .i64 m.sys.states, .int .i64 m.sys.initial, .slice (some ⟨b1, 0, none⟩) m.sys.labels.length m.sys.labels.length, .slice (some ⟨b2, 0, none⟩) m.sys.edges.length m.sys.edges.length, .slice (some ⟨b3, 0, none⟩) m.vs.length m.vs.length]) ∧ Below w.heap.size w w' ∧ w.heap.size ≤ b1 ∧ b1 < b2 ∧ b2 < b3 ∧ b3 < w'.heap.size
  ∧ w'.ownsRow w.heap.size 9 1 (.slice (some ⟨b1, 0, none⟩) m.sys.labels.length m.sys.labels.length) m.sys.labels.length (m.sys.labels.map .string) ∧ w'.ownsRow b2 78 3 (.slice (some ⟨b2, 0, none⟩) m.sys.edges.length m.sys.edges.length) m.sys.edges.length (m.sys.edges.flatMap encE)
  ∧ w'.ownsRow b3 2 1 (.slice (some ⟨b3, 0, none⟩) m.vs.length m.vs.length) m.vs.length (m.vs.map (Value.int .i64))

set_option maxRecDepth 100000 in
set_option maxHeartbeats 2000000 in
theorem toMonitor_any (lo : Nat) (p : Mon) (lv ev mv : Value) (w : World) (h1 : p.sys.labels.length ≤ 1048576) (h2 : p.sys.edges.length ≤ 1048576) (h3 : p.vs.length ≤ 1048576) (hp : MonIn lo w lv ev mv p) :
  Calls Tryz.prog 7 #[.agg #[.int .i64 p.sys.states, .int .i64 p.sys.initial, lv, ev, mv]] w (MadeMon w p) := by
 obtain ⟨n0, hn0⟩ : ∃ n0, n0 = w.heap.size := ⟨_, rfl⟩
 obtain ⟨W, hW⟩ : ∃ W, W = ((w.alloc (.cells #[.int .i64 p.sys.states, .int .i64 p.sys.initial, lv, ev, mv] 28)).alloc (.cells #[.int .i64 0, .int .i64 0, .slice none 0 0, .slice none 0 0, .slice none 0 0] 34)).alloc (.cells #[.int .i64 0, .int .i64 0, .slice none 0 0, .slice none 0 0, .slice none 0 0] 34) := ⟨_, rfl⟩
 have hbW : Below w.heap.size w W := by rw [hW]; exact (((Below.refl _ _).alloc (Nat.le_refl _) _).alloc (by simp) _).alloc (by simp; omega) _
 have B0 : Blk W n0 [.int .i64 p.sys.states, .int .i64 p.sys.initial, lv, ev, mv] 28 := by
  rw [hW, hn0]; exact ((Blk.new w [.int .i64 p.sys.states, .int .i64 p.sys.initial, lv, ev, mv] _).alloc _).alloc _
 have B1 : Blk W (n0 + 1) [.int .i64 0, .int .i64 0, .slice none 0 0, .slice none 0 0, .slice none 0 0] 34 := by
  rw [hW, hn0]
  have := Blk.new (w.alloc (.cells #[.int .i64 p.sys.states, .int .i64 p.sys.initial, lv, ev, mv] 28)) [.int .i64 0, .int .i64 0, .slice none 0 0, .slice none 0 0, .slice none 0 0] 34
  rw [World.size_alloc] at this
  exact this.alloc _
 have B2 : Blk W (n0 + 1 + 1) [.int .i64 0, .int .i64 0, .slice none 0 0, .slice none 0 0, .slice none 0 0] 34 := by
  rw [hW, hn0]
  have := Blk.new ((w.alloc (.cells #[.int .i64 p.sys.states, .int .i64 p.sys.initial, lv, ev, mv] 28)).alloc (.cells #[.int .i64 0, .int .i64 0, .slice none 0 0, .slice none 0 0, .slice none 0 0] 34)) [.int .i64 0, .int .i64 0, .slice none 0 0, .slice none 0 0, .slice none 0 0] 34
  rw [World.size_alloc, World.size_alloc] at this
  exact this
 have hWs : W.heap.size = n0 + 1 + 1 + 1 := by rw [hW, hn0]; simp
 have HP := Lib.hid (hp.below hbW)
 have hp0 := Lib.hid hp
 have HBW := Lib.hid hbW
 have HB0 := Lib.hid B0
 have HB1 := Lib.hid B1
 have HB2 := Lib.hid B2
 have HW := Lib.hid hW
 have HN0 := Lib.hid hn0
 have HWS := Lib.hid hWs
 have HC1 := Lib.hid (toLts_any (.agg #[.int .i64 p.sys.states, .int .i64 p.sys.initial, lv, ev]) lo p.sys W h1 h2 ⟨lv, ev, rfl, HP.out.labels, HP.out.edges⟩)
 obtain ⟨⟨al, cl, rfl, -⟩, ⟨ae, ce, rfl, -⟩, ⟨am, cm, rfl, -⟩⟩ := hp
 clear hbW B0 B1 B2 hW hn0 hWs h1 h2
 go_enter Tryz.func7, Tryz.ntmps7
 go_wp2_with fail
 rw [← HW.out, ← HN0.out]
 refine Calls.mono HC1.out ?_
 rintro e w1 ⟨b1, b2, rfl, hb1, hlb1, hlb2, hlb3, ho1, ho2⟩
 rw [HWS.out] at hlb1 ho1
 have R1 := Lib.hid ho1
 have R2 := Lib.hid ho2
 have X0 := Lib.hid (HB0.out.below hb1)
 have X1 := Lib.hid (HB1.out.below hb1)
 have X2 := Lib.hid (HB2.out.below hb1)
 have HE1 := Lib.hid (HBW.out.trans (hb1.mono HBW.out.size))
 have f0 := X2.out.frozen 0
 have f1 := X2.out.frozen 1
 have f2 := X2.out.frozen 2
 have f3 := X2.out.frozen 3
 have y0 := X2.out.cell 0 rfl
 have y1 := X2.out.cell 1 rfl
 have y2 := X2.out.cell 2 rfl
 have y3 := X2.out.cell 3 rfl
 have x4 := X0.out.cell 4 rfl
 clear hb1 ho1 ho2 HC1 HB0 HB1 HB2
 go_wp2_with fail
 obtain ⟨w2, hw2⟩ : ∃ w2, w2 = (((w1.setCell ⟨n0 + 1 + 1, 0, none⟩ (.int .i64 p.sys.states)).setCell ⟨n0 + 1 + 1, 1, none⟩ (.int .i64 p.sys.initial)).setCell ⟨n0 + 1 + 1, 2, none⟩ (.slice (some ⟨b1, 0, none⟩) p.sys.labels.length p.sys.labels.length)).setCell ⟨n0 + 1 + 1, 3, none⟩ (.slice (some ⟨b2, 0, none⟩) p.sys.edges.length p.sys.edges.length) := ⟨_, rfl⟩
 have hlow : w.heap.size ≤ n0 + 1 + 1 := by have := HN0.out; omega
 have hlow1 : w.heap.size ≤ n0 + 1 := by have := HN0.out; omega
 have E2 : Hid (Below w.heap.size w w2) := by unfold Hid; rw [hw2]; exact (((HE1.out.setCell hlow _).setCell hlow _).setCell hlow _).setCell hlow _
 have Q1 : Hid (w2.ownsRow (n0 + 1 + 1 + 1) 9 1 (.slice (some ⟨b1, 0, none⟩) p.sys.labels.length p.sys.labels.length) p.sys.labels.length (p.sys.labels.map .string)) := by
  unfold Hid; rw [hw2]; exact own_setLow (own_setLow (own_setLow (own_setLow R1.out (by omega) _ _) (by omega) _ _) (by omega) _ _) (by omega) _ _
 have Q2 : Hid (w2.ownsRow b2 78 3 (.slice (some ⟨b2, 0, none⟩) p.sys.edges.length p.sys.edges.length) p.sys.edges.length (p.sys.edges.flatMap encE)) := by
  unfold Hid; rw [hw2]; exact own_setLow (own_setLow (own_setLow (own_setLow R2.out (by omega) _ _) (by omega) _ _) (by omega) _ _) (by omega) _ _
 have Y2 : Hid (Blk w2 (n0 + 1 + 1) [.int .i64 p.sys.states, .int .i64 p.sys.initial, (.slice (some ⟨b1, 0, none⟩) p.sys.labels.length p.sys.labels.length), (.slice (some ⟨b2, 0, none⟩) p.sys.edges.length p.sys.edges.length), .slice none 0 0] 34) := by
  rw [hw2]; exact (((X2.out.set 0 _).set 1 _).set 2 _).set 3 _
 have Y1 : Hid (Blk w2 (n0 + 1) [.int .i64 0, .int .i64 0, .slice none 0 0, .slice none 0 0, .slice none 0 0] 34) := by
  rw [hw2]; exact (((X1.out.setOther ⟨n0 + 1 + 1, 0, none⟩ _ (by simp)).setOther ⟨n0 + 1 + 1, 1, none⟩ _ (by simp)).setOther ⟨n0 + 1 + 1, 2, none⟩ _ (by simp)).setOther ⟨n0 + 1 + 1, 3, none⟩ _ (by simp)
 have HPM := Lib.hid (toInt64S_any _ lo p.vs w2 h3 (hp0.out.marks.below E2.out))
 have hz2 : b2 < w2.heap.size := (Q2.out.lt b2 rfl).2
 have HW2 := Lib.hid hw2
 clear hw2 f0 f1 f2 f3 y0 y1 y2 y3 x4 X0 X1 X2 R1 R2 HE1 hlb3
 rw [← HW2.out]
 refine Calls.mono HPM.out ?_
 rintro e w3 ⟨rfl, hb3, hs3, ho3⟩
 have M3 := Lib.hid ho3
 have L3 := Lib.hid (owns_below Q1.out hb3)
 have E3 := Lib.hid (owns_below Q2.out hb3)
 have EB3 := Lib.hid (E2.out.trans (hb3.mono E2.out.size))
 have C2 := Lib.hid (Y2.out.below hb3)
 have C1 := Lib.hid (Y1.out.below hb3)
 obtain ⟨b3, hb3e⟩ : ∃ b3, b3 = w2.heap.size := ⟨_, rfl⟩
 rw [← hb3e] at M3 hz2 hs3 ⊢
 have c0 := C2.out.cell 0 rfl
 have c1 := C2.out.cell 1 rfl
 have c2 := C2.out.cell 2 rfl
 have c3 := C2.out.cell 3 rfl
 have c4 := C2.out.cell 4 rfl
 have f4 := C2.out.frozen 4
 have d0 := C1.out.cell 0 rfl
 have d1 := C1.out.cell 1 rfl
 have d2 := C1.out.cell 2 rfl
 have d3 := C1.out.cell 3 rfl
 have d4 := C1.out.cell 4 rfl
 have g0 := C1.out.frozen 0
 have g1 := C1.out.frozen 1
 have g2 := C1.out.frozen 2
 have g3 := C1.out.frozen 3
 have g4 := C1.out.frozen 4
 clear hb3 ho3 Q1 Q2 E2 Y2 Y1 hb3e HPM
 go_wp2_with fail
 refine bodyPost_ret (v := .agg #[.int .i64 p.sys.states, .int .i64 p.sys.initial, (.slice (some ⟨b1, 0, none⟩) p.sys.labels.length p.sys.labels.length), (.slice (some ⟨b2, 0, none⟩) p.sys.edges.length p.sys.edges.length), .slice (some ⟨b3, 0, none⟩) p.vs.length p.vs.length])
  (by simp [results, Tryz.results7, go_sem, d0, d1, d2, d3, d4]) rfl ⟨b1, b2, b3, rfl, ?_, ?_, hlb2, hz2, ?_, ?_, ?_, ?_⟩
 ·exact (((((EB3.out.setCell hlow _).setCell hlow1 _).setCell hlow1 _).setCell hlow1 _).setCell hlow1 _).setCell hlow1 _
 ·have := HN0.out; omega
 ·simpa using hs3
 ·exact own_lower (own_setLow (own_setLow (own_setLow (own_setLow (own_setLow (own_setLow L3.out (by omega) _ _) (by omega) _ _) (by omega) _ _) (by omega) _ _) (by omega) _ _) (by omega) _ _) (by have := HN0.out; omega)
 ·exact own_setLow (own_setLow (own_setLow (own_setLow (own_setLow (own_setLow E3.out (by omega) _ _) (by omega) _ _) (by omega) _ _) (by omega) _ _) (by omega) _ _) (by omega) _ _
 ·exact own_setLow (own_setLow (own_setLow (own_setLow (own_setLow (own_setLow M3.out (by omega) _ _) (by omega) _ _) (by omega) _ _) (by omega) _ _) (by omega) _ _) (by omega) _ _

end Go.Proofs.YtjghfgaincnegaaGreatDoor

namespace Go.Proofs.YtjghfgaincnegaaGreatDoor
open Go Go.RowKit

set_option maxRecDepth 100000 in
set_option maxHeartbeats 400000 in
theorem markInt64S_any (lo : Nat) (v : Value) (cs : List Value) (k : Int) (w : World) (h1 : 0 ≤ k) (h2 : k + cs.length ≤ 1000000000) (hv : w.ownsRow lo 2 1 v cs.length cs) :
  Calls Tryz.prog 25 #[v, .int .i64 k] w (Marked w v (k + cs.length) (fun w' => w'.ownsRow lo 2 1 v cs.length (marked k cs cs.length))) := by
 have HV := Lib.hid hv
 rcases hv.2 with ⟨rfl, h0⟩ | ⟨b, cap, cur, rfl, -, -, hcap, hm, -⟩
 ·clear hv
  have hcs : cs = [] := List.eq_nil_of_length_eq_zero h0
  subst hcs
  go_enter Tryz.func25, Tryz.ntmps25
  go_wp2
  go_loop [1, 5] (fun q i => q = .int .i64 k ∧ i = .int .i64 0) (fun _ _ => 0)
  case atStart => exact ⟨rfl, rfl⟩
  case round =>
   obtain ⟨rfl, rfl⟩ := hrel
   go_wp2
   go_ret
   exact ⟨ret_int (by simp), grown_refl _ _, by rw [marked_zero]; exact HV.out⟩
 ·clear hv
  go_enter Tryz.func25, Tryz.ntmps25
  go_wp2
  go_loopw [1, 5] (fun q i wr => ∃ j : Nat, j ≤ cs.length ∧ q = .int .i64 (k + j) ∧ i = .int .i64 j ∧ w.grownBy wr (some b) ∧ wr.ownsRow lo 2 1 (.slice (some ⟨b, 0, none⟩) cs.length cap) cs.length (marked k cs j)) (fun _ i _ => cs.length - (intOf i).toNat)
  case atStart => exact ⟨0, Nat.zero_le _, by simp, rfl, grown_refl _ _, by rw [marked_zero]; exact HV.out⟩
  case round =>
   obtain ⟨j, hj, rfl, rfl, hg, ho⟩ := hrel
   by_cases hlt : j < cs.length
   ·have c1 := ho.cellAt j (by omega)
    rw [marked_get _ _ _ hlt] at c1
    have f1 := ho.frozenAt j
    have ho2 := ho.stored j (.int .i64 (k + j))
    rw [marked_set _ _ _ hlt] at ho2
    have HO := Lib.hid ho2
    have HG := Lib.hid hg
    clear ho ho2 hg HV
    go_wp2
    go_roundw
    case rel => exact ⟨j + 1, by omega, by go_num, by go_num, grown_trans HG.out HO.out.2, HO.out.1⟩
    case measure => simp [intOf]; omega
   ·go_wp2
    go_ret
    obtain rfl : j = cs.length := by omega
    exact ⟨rfl, hg, ho⟩


set_option maxRecDepth 100000 in
set_option maxHeartbeats 400000 in
theorem heldInt64S_same (v : Value) (lo n : Nat) (k : Int) (w : World) (h1 : 0 ≤ k) (h2 : k + n ≤ 1000000000) (hv : SliceK 1 encI lo w v (seqI k n)) :
  Calls Tryz.prog 27 #[v, .int .i64 k] w fun e w' => e = .returned (.int .i64 (k + n)) ∧ w = w' := by
 obtain ⟨a, cap, rfl, hn, hcap, hr⟩ := hv
 have hl : (seqI k n).length = n := by simp [seqI]
 rw [hl] at hn ⊢
 have HL := Lib.hid hl
 clear hl
 go_enter Tryz.func27, Tryz.ntmps27
 go_wp2
 go_loop [1, 5] (fun q i => ∃ j : Nat, j ≤ n ∧ q = .int .i64 (k + j) ∧ i = .int .i64 j) (fun _ i => n - (intOf i).toNat)
 case atStart => exact ⟨0, Nat.zero_le _, by simp, rfl⟩
 case round =>
  obtain ⟨j, hj, rfl, rfl⟩ := hrel
  by_cases hlt : j < n
  ·obtain ⟨b, off, rfl, -, -, c1⟩ := hr.one (i := j) (by rw [HL.out]; exact hlt)
   simp only [encI, List.getElem?_cons_zero, seqI, List.getElem_map, List.getElem_range] at c1
   clear hr
   go_wp2
   go_round
   case rel => exact ⟨j + 1, by omega, by go_num, by go_num⟩
   case measure => simp [intOf]; omega
  ·clear hr
   go_wp2
   go_ret
   obtain rfl : j = n := by omega
   exact ⟨rfl, rfl⟩

end Go.Proofs.YtjghfgaincnegaaGreatDoor

namespace Go.Proofs.YtjghfgaincnegaaGreatDoor
open Go Go.RowKit

def mdig : Nat → Int → ByteArray → ByteArray
 | 0, _, t => t
 | f + 1, n, t => if 0 < n then mdig f (n / 10) (⟨#[UInt8.ofNat (48 + n % 10).toNat]⟩ ++ t) else t
/-- The text of a mark. -/
def mtxt (k : Int) : ByteArray := if k ≤ 0 then ⟨#[109, 48]⟩ else ⟨#[109]⟩ ++ mdig 10 k ⟨#[]⟩
theorem mdig_stop (f : Nat) {n : Int} (t : ByteArray) (h : ¬ 0 < n) : mdig f n t = t := by
 cases f with
 | zero => rfl
 | succ f => rw [mdig, if_neg h]

set_option maxRecDepth 100000 in
set_option maxHeartbeats 400000 in
theorem markText_is (k : Int) (w : World) (h1 : 0 ≤ k) (h2 : k ≤ 1000000000) : Calls Tryz.prog 84 #[.int .i64 k] w fun e w' => e = .returned (.string (mtxt k)) ∧ Below w.heap.size w w' := by
 obtain ⟨R, hR⟩ : ∃ R, R = mtxt k := ⟨_, rfl⟩
 rw [← hR]
 by_cases h0 : k ≤ 0
 ·unfold mtxt at hR
  rw [if_pos h0] at hR
  subst hR
  go_enter Tryz.func84, Tryz.ntmps84
  go_wp2
  go_ret
  exact ⟨rfl, Below.refl _ _⟩
 ·unfold mtxt at hR
  rw [if_neg h0] at hR
  obtain ⟨D, hD⟩ : ∃ D, D = mdig 10 k ⟨#[]⟩ := ⟨_, rfl⟩
  rw [← hD] at hR
  have HD := Lib.hid hD
  have HR := Lib.hid hR
  clear hD hR
  go_enter Tryz.func84, Tryz.ntmps84
  go_wp2
  go_loopw [0, 3] (fun q s wr => ∃ (n : Int) (t : ByteArray) (f : Nat), 0 ≤ n ∧ t.size + n ≤ 1000000000 ∧ n < (10 : Int) ^ f ∧ mdig f n t = D ∧ q = .int .i64 n ∧ s = .string t ∧ Below w.heap.size w wr) (fun q _ _ => (intOf q).toNat)
  case atStart => exact ⟨k, ⟨#[]⟩, 10, by omega, by show ((0 : Nat) : Int) + k ≤ _; omega, by show k < 10000000000; omega, HD.out.symm, rfl, rfl, Below.refl _ _⟩
  case round =>
   obtain ⟨n, t, f, hn, hn2, hf, hd, rfl, rfl, hbl⟩ := hrel
   have HDD := Lib.hid hd
   have HF := Lib.hid hf
   clear hd hf
   by_cases hp : 0 < n
   ·have kc := digit_text wr n hn
    go_wp2
    go_roundw
    case rel =>
     have hz : (ByteArray.mk #[UInt8.ofNat (48 + n % 10).toNat] ++ t).size = 1 + t.size := by rw [ByteArray.size_append]; rfl
     have hf := HF.out
     cases f with
     | zero => exfalso; rw [Int.pow_zero] at hf; omega
     | succ f =>
      have hd := HDD.out
      rw [mdig, if_pos hp] at hd
      refine ⟨_, _, f, by omega, by rw [hz]; omega, ?_, hd, rfl, rfl, hbl.alloc hbl.size _⟩
      rw [Int.pow_succ] at hf
      omega
    case measure => simp [intOf]; omega
   ·have HE : Hid (t = D) := by have := HDD.out; rw [mdig_stop f t hp] at this; exact this
    go_wp2
    go_ret
    exact ⟨by rw [HR.out, HE.out]; rfl, hbl⟩

/-- The marks from k on, as texts. -/
def mrkS (k : Int) (n : Nat) : List ByteArray := (List.range n).map fun i => mtxt (k + (i : Nat))
def markedS (k : Int) (cs : List Value) (j : Nat) : List Value := (mrkS k j).map Value.string ++ cs.drop j
theorem mrkS_len (k : Int) (n : Nat) : (mrkS k n).length = n := by simp [mrkS]
theorem markedS_zero (k : Int) (cs : List Value) : markedS k cs 0 = cs := by simp [markedS, mrkS]
theorem markedS_all (k : Int) (cs : List Value) : markedS k cs cs.length = (mrkS k cs.length).map Value.string := by simp [markedS]
theorem markedS_get (k : Int) (cs : List Value) (j : Nat) (h : j < cs.length) : (markedS k cs j)[j]? = some cs[j] := by
 unfold markedS
 rw [List.getElem?_append_right (by simp [mrkS])]
 simp [h, mrkS]
theorem markedS_set (k : Int) (cs : List Value) (j : Nat) (h : j < cs.length) : (markedS k cs j).set j (.string (mtxt (k + (j : Nat)))) = markedS k cs (j + 1) := by
 unfold markedS mrkS
 rw [List.set_append_right _ _ (by simp), List.range_succ, List.map_append, List.map_append, List.append_assoc, List.drop_eq_getElem_cons h]
 simp only [List.length_map, List.length_range, Nat.sub_self, List.set_cons_zero, List.map_cons, List.map_nil, List.cons_append, List.nil_append]

set_option maxRecDepth 100000 in
set_option maxHeartbeats 400000 in
theorem markStringS_is (lo : Nat) (v : Value) (cs : List Value) (k : Int) (w : World) (h1 : 0 ≤ k) (h2 : k + cs.length ≤ 1000000000) (hv : w.ownsRow lo 9 1 v cs.length cs) :
  Calls Tryz.prog 38 #[v, .int .i64 k] w (Marked w v (k + cs.length) (fun w' => w'.ownsRow lo 9 1 v cs.length ((mrkS k cs.length).map Value.string))) := by
 have HV := Lib.hid hv
 rcases hv.2 with ⟨rfl, h0⟩ | ⟨b, cap, cur, rfl, -, -, hcap, hm, -⟩
 ·clear hv
  have hcs : cs = [] := List.eq_nil_of_length_eq_zero h0
  subst hcs
  go_enter Tryz.func38, Tryz.ntmps38
  go_wp2
  go_loop [1, 5] (fun q i => q = .int .i64 k ∧ i = .int .i64 0) (fun _ _ => 0)
  case atStart => exact ⟨rfl, rfl⟩
  case round =>
   obtain ⟨rfl, rfl⟩ := hrel
   go_wp2
   go_ret
   exact ⟨ret_int (by simp), grown_refl _ _, HV.out⟩
 ·clear hv
  obtain ⟨N, hN⟩ : ∃ N, N = cs.length := ⟨_, rfl⟩
  rw [← hN] at h2 hcap HV ⊢
  have HN := Lib.hid hN
  clear hN
  go_enter Tryz.func38, Tryz.ntmps38
  go_wp2
  go_loopw [1, 5] (fun q i wr => ∃ j : Nat, j ≤ N ∧ q = .int .i64 (k + j) ∧ i = .int .i64 j ∧ w.grownBy wr (some b) ∧ wr.ownsRow lo 9 1 (.slice (some ⟨b, 0, none⟩) N cap) N (markedS k cs j)) (fun _ i _ => N - (intOf i).toNat)
  case atStart => exact ⟨0, Nat.zero_le _, by simp, rfl, grown_refl _ _, by rw [markedS_zero]; exact HV.out⟩
  case round =>
   obtain ⟨j, hj, rfl, rfl, hg, ho⟩ := hrel
   have HG := Lib.hid hg
   have HO := Lib.hid ho
   clear hg ho HV
   by_cases hlt : j < N
   ·go_wp2_with fail
    refine (markText_is _ _ (by omega) (by omega)).mono ?_
    rintro e w1 ⟨rfl, hb⟩
    have hjc : j < cs.length := by rw [← HN.out]; exact hlt
    have ho1 := owns_below HO.out hb
    have c1 := ho1.cellAt j (by omega)
    rw [markedS_get _ _ _ hjc] at c1
    have f1 := ho1.frozenAt j
    have ho2 := ho1.stored j (.string (mtxt (k + j)))
    rw [markedS_set _ _ _ hjc] at ho2
    have HO2 := Lib.hid ho2
    have HB := Lib.hid (grown_below hb (some b))
    clear ho1 ho2 hb
    go_wp2
    go_roundw
    case rel => exact ⟨j + 1, by omega, by go_num, by go_num, grown_trans (grown_trans HG.out HB.out) HO2.out.2, HO2.out.1⟩
    case measure => simp [intOf]; omega
   ·go_wp2
    go_ret
    obtain rfl : j = N := by omega
    refine ⟨rfl, HG.out, ?_⟩
    have := HO.out
    rw [HN.out, markedS_all, ← HN.out] at this
    exact this

set_option maxRecDepth 100000 in
set_option maxHeartbeats 400000 in
theorem heldStringS_is (v : Value) (lo n : Nat) (k : Int) (w : World) (h1 : 0 ≤ k) (h2 : k + n ≤ 1000000000) (hv : SliceK 1 encS lo w v (mrkS k n)) :
  Calls Tryz.prog 63 #[v, .int .i64 k] w fun e w' => e = .returned (.int .i64 (k + n)) ∧ Below w.heap.size w w' := by
 obtain ⟨a, cap, rfl, hn, hcap, hr⟩ := hv
 have hl := mrkS_len k n
 rw [hl] at hn ⊢
 have HL := Lib.hid hl
 have HR := Lib.hid hr
 clear hl hr
 go_enter Tryz.func63, Tryz.ntmps63
 go_wp2
 go_loopw [1, 5] (fun q i wr => ∃ j : Nat, j ≤ n ∧ q = .int .i64 (k + j) ∧ i = .int .i64 j ∧ Below w.heap.size w wr) (fun _ i _ => n - (intOf i).toNat)
 case atStart => exact ⟨0, Nat.zero_le _, by simp, rfl, Below.refl _ _⟩
 case round =>
  obtain ⟨j, hj, rfl, rfl, hb⟩ := hrel
  have HB := Lib.hid hb
  by_cases hlt : j < n
  ·obtain ⟨b, off, rfl, -, hbl, c1⟩ := (HR.out.below hb).one (i := j) (by rw [HL.out]; exact hlt)
   simp only [encS, List.getElem?_cons_zero, mrkS, List.getElem_map, List.getElem_range] at c1
   have l1 := later_cell hbl c1
   have HM := Lib.hid (fun w' => markText_is (k + j) w' (by omega) (by omega))
   clear hb c1
   go_wp2
   refine wp_region_later (by kernel_rfl) (by kernel_rfl) ?_
   repeat (go_big_quiet_step (((go_at_call 84; refine later_call (HM.out _)))))
   refine wpQuiet_nil ?_
   intro _ hw9
   obtain ⟨nl, hw8⟩ := hw9
   subst hw8
   have HB2 := Lib.hid (HB.out.trans (nl.h.mono HB.out.size))
   clear l1
   go_wp2
   go_roundw
   case rel => exact ⟨j + 1, by omega, by go_num, by go_num, HB2.out⟩
   case measure => simp [intOf]; omega
  ·clear hb
   go_wp2
   go_ret
   obtain rfl : j = n := by omega
   exact ⟨rfl, HB.out⟩

end Go.Proofs.YtjghfgaincnegaaGreatDoor

namespace Go.Proofs.YtjghfgaincnegaaGreatDoor
open Go Go.RowKit

def mrkE (k : Int) (n : Nat) : List Edge := (List.range n).map fun i => ⟨k + 3 * (i : Nat), k + 3 * (i : Nat) + 1, k + 3 * (i : Nat) + 1 + 1⟩
def markedE (k : Int) (cs : List Value) (j : Nat) : List Value := (mrkE k j).flatMap encE ++ cs.drop (j * 3)
theorem mrkE_len (k : Int) (n : Nat) : (mrkE k n).length = n := by simp [mrkE]
theorem flatE_len (es : List Edge) : (es.flatMap encE).length = es.length * 3 := by
 have := filledE_len es es.length (Nat.le_refl _)
 rw [List.take_length] at this
 exact this
theorem mrkE_flat (k : Int) (n : Nat) : ((mrkE k n).flatMap encE).length = n * 3 := by rw [flatE_len, mrkE_len]
theorem markedE_zero (k : Int) (cs : List Value) : markedE k cs 0 = cs := by simp [markedE, mrkE]
theorem markedE_all (k : Int) (cs : List Value) (n : Nat) (h : cs.length = n * 3) : markedE k cs n = (mrkE k n).flatMap encE := by simp [markedE, ← h]
theorem markedE_set (k : Int) (cs : List Value) (j : Nat) (h : j * 3 + 2 < cs.length) :
  (((markedE k cs j).set (j * 3) (.int .i64 (k + 3 * (j : Nat)))).set (j * 3 + 1) (.int .i64 (k + 3 * (j : Nat) + 1))).set (j * 3 + 2) (.int .i64 (k + 3 * (j : Nat) + 1 + 1)) = markedE k cs (j + 1) := by
 have hl := mrkE_flat k j
 have hm : mrkE k (j + 1) = mrkE k j ++ [⟨k + 3 * (j : Nat), k + 3 * (j : Nat) + 1, k + 3 * (j : Nat) + 1 + 1⟩] := by simp [mrkE, List.range_succ]
 unfold markedE
 rw [hm, List.flatMap_append, List.append_assoc, List.drop_eq_getElem_cons (show j * 3 < cs.length by omega), List.drop_eq_getElem_cons (show j * 3 + 1 < cs.length by omega), List.drop_eq_getElem_cons (show j * 3 + 1 + 1 < cs.length by omega)]
 rw [List.set_append_right _ _ (by omega), List.set_append_right _ _ (by omega), List.set_append_right _ _ (by omega), hl, show j * 3 - j * 3 = 0 from by omega, show j * 3 + 1 - j * 3 = 1 from by omega, show j * 3 + 2 - j * 3 = 2 from by omega,
  show (j + 1) * 3 = j * 3 + 1 + 1 + 1 from by omega]
 simp only [List.set_cons_zero, List.set_cons_succ, List.flatMap_cons, List.flatMap_nil, encE, List.append_nil, List.cons_append, List.nil_append]

set_option maxRecDepth 100000 in
set_option maxHeartbeats 1000000 in
theorem markEdgeS_is (lo : Nat) (v : Value) (n : Nat) (cs : List Value) (k : Int) (w : World) (h1 : 0 ≤ k) (h2 : k + 3 * n ≤ 1000000000) (hv : w.ownsRow lo 78 3 v n cs) :
  Calls Tryz.prog 39 #[v, .int .i64 k] w (Marked w v (k + 3 * n) (fun w' => w'.ownsRow lo 78 3 v n ((mrkE k n).flatMap encE))) := by
 have HV := Lib.hid hv
 have hcl := hv.1
 rcases hv.2 with ⟨rfl, rfl⟩ | ⟨b, cap, cur, rfl, -, -, hcap, hm, -⟩
 ·clear hv
  have hcs : cs = [] := List.eq_nil_of_length_eq_zero (by omega)
  subst hcs
  go_enter Tryz.func39, Tryz.ntmps39
  go_wp2
  go_loop [1, 5] (fun q i => q = .int .i64 k ∧ i = .int .i64 0) (fun _ _ => 0)
  case atStart => exact ⟨rfl, rfl⟩
  case round =>
   obtain ⟨rfl, rfl⟩ := hrel
   go_wp2
   go_ret
   exact ⟨ret_int (by simp), grown_refl _ _, HV.out⟩
 ·clear hv
  have HCL := Lib.hid hcl
  clear hcl
  go_enter Tryz.func39, Tryz.ntmps39
  go_wp2
  go_loopw [1, 5] (fun q i wr => ∃ j : Nat, j ≤ n ∧ q = .int .i64 (k + 3 * j) ∧ i = .int .i64 j ∧ w.grownBy wr (some b) ∧ wr.ownsRow lo 78 3 (.slice (some ⟨b, 0, none⟩) n cap) n (markedE k cs j)) (fun _ i _ => n - (intOf i).toNat)
  case atStart => exact ⟨0, Nat.zero_le _, by simp, rfl, grown_refl _ _, by rw [markedE_zero]; exact HV.out⟩
  case round =>
   obtain ⟨j, hj, rfl, rfl, hg, ho⟩ := hrel
   have HG := Lib.hid hg
   clear hg HV
   by_cases hlt : j < n
   ·obtain ⟨xc0, c0⟩ := own_cell ho (j * 3) (by omega)
    have s0 := ho.stored (j * 3) (.int .i64 (k + 3 * j))
    obtain ⟨xc1, c1⟩ := own_cell s0.1 (j * 3 + 1) (by omega)
    have s1 := s0.1.stored (j * 3 + 1) (.int .i64 (k + 3 * j + 1))
    obtain ⟨xc2, c2⟩ := own_cell s1.1 (j * 3 + 2) (by omega)
    have s2 := s1.1.stored (j * 3 + 2) (.int .i64 (k + 3 * j + 1 + 1))
    rw [markedE_set k cs j (by have := HCL.out; omega)] at s2
    have HO := Lib.hid s2.1
    have HGG := Lib.hid (grown_trans (grown_trans (grown_trans HG.out s0.2) s1.2) s2.2)
    obtain ⟨xg1, g1⟩ := own_cell ho (j * 3 + 1) (by omega)
    obtain ⟨xg2, g2⟩ := own_cell ho (j * 3 + 2) (by omega)
    have f0 := ho.frozenAt (j * 3)
    have f1 := ho.frozenAt (j * 3 + 1)
    have f2 := ho.frozenAt (j * 3 + 2)
    clear ho s0 s1 s2
    go_wp2
    go_roundw
    case rel => exact ⟨j + 1, by omega, by go_num, by go_num, HGG.out, HO.out⟩
    case measure => simp [intOf]; omega
   ·go_wp2
    go_ret
    obtain rfl : j = n := by omega
    refine ⟨rfl, HG.out, ?_⟩
    rw [markedE_all k cs j HCL.out] at ho
    exact ho

set_option maxRecDepth 100000 in
set_option maxHeartbeats 1000000 in
theorem heldEdgeS_is (v : Value) (lo n : Nat) (k : Int) (w : World) (h1 : 0 ≤ k) (h2 : k + 3 * n ≤ 1000000000) (hv : SliceK 3 encE lo w v (mrkE k n)) :
  Calls Tryz.prog 64 #[v, .int .i64 k] w fun e w' => e = .returned (.int .i64 (k + 3 * n)) ∧ w = w' := by
 obtain ⟨a, cap, rfl, hn, hcap, hr⟩ := hv
 have hl := mrkE_len k n
 rw [hl] at hn ⊢
 have HL := Lib.hid hl
 have HR := Lib.hid hr
 clear hl hr
 go_enter Tryz.func64, Tryz.ntmps64
 go_wp2
 go_loop [1, 5] (fun q i => ∃ j : Nat, j ≤ n ∧ q = .int .i64 (k + 3 * j) ∧ i = .int .i64 j) (fun _ i => n - (intOf i).toNat)
 case atStart => exact ⟨0, Nat.zero_le _, by simp, rfl⟩
 case round =>
  obtain ⟨j, hj, rfl, rfl⟩ := hrel
  by_cases hlt : j < n
  ·obtain ⟨b, off, rfl, -, -, c0, c1, c2⟩ := HR.out.edge (i := j) (by rw [HL.out]; exact hlt)
   simp only [mrkE, List.getElem_map, List.getElem_range] at c0 c1 c2
   go_wp2
   go_round
   case rel => exact ⟨j + 1, by omega, by go_num, by go_num⟩
   case measure => simp [intOf]; omega
  ·go_wp2
   go_ret
   obtain rfl : j = n := by omega
   exact ⟨rfl, rfl⟩

/-- The system whose slices hold the marks from k on. -/
def mrkL (k : Int) (t : Lts) : Lts := ⟨t.states, t.initial, mrkS k t.labels.length, mrkE (k + t.labels.length) t.edges.length⟩
def markLen (t : Lts) : Int := (t.labels.length : Int) + 3 * (t.edges.length : Int)

set_option maxHeartbeats 1000000 in
theorem markLts_is (lo : Nat) (lv ev : Value) (t : Lts) (x y : Int) (k : Int) (w : World) (h1 : 0 ≤ k) (h2 : k + markLen t ≤ 1000000000) (hlo : lo ≤ w.heap.size) (hv : OwnLts lo w lv ev t) :
  Calls Tryz.prog 17 #[.agg #[.int .i64 x, .int .i64 y, lv, ev], .int .i64 k] w fun e w' => e = .returned (.int .i64 (k + markLen t)) ∧ Below lo w w' ∧ OwnLts lo w' lv ev (mrkL k t)
   ∧ Only [9, 78] w w' := by
 unfold markLen at h2 ⊢
 obtain ⟨al, cl, rfl, -, -⟩ := owns_slice hv.1
 obtain ⟨ae, ce, rfl, -, -⟩ := owns_slice hv.2
 obtain ⟨NL, hNL⟩ : ∃ NL, NL = t.labels.length := ⟨_, rfl⟩
 obtain ⟨NE, hNE⟩ : ∃ NE, NE = t.edges.length := ⟨_, rfl⟩
 obtain ⟨W, hW⟩ : ∃ W, W = w.alloc (.cells #[.int .i64 x, .int .i64 y, .slice al t.labels.length cl, .slice ae t.edges.length ce] 32) := ⟨_, rfl⟩
 have hb0 : Below w.heap.size w W := by rw [hW]; exact (Below.refl _ w).alloc (Nat.le_refl _) _
 have A0 : Hid (Blk W w.heap.size [.int .i64 x, .int .i64 y, .slice al t.labels.length cl, .slice ae t.edges.length ce] 32) := by unfold Hid; rw [hW]; exact Blk.new w _ _
 have hs0 : lo ≤ W.heap.size := Nat.le_trans hlo hb0.size
 have V1 := Lib.hid (owns_below hv.1 hb0)
 have V2 := Lib.hid (owns_below hv.2 hb0)
 have M1 := Lib.hid (markStringS_is lo _ (t.labels.map .string) k W h1 (by rw [List.length_map]; omega) (by rw [List.length_map]; exact V1.out))
 rw [List.length_map] at M1
 have HB0 := Lib.hid hb0
 have HW := Lib.hid hW
 rw [← hNL] at M1 V1 h2 hW A0 ⊢
 rw [← hNE] at V2 h2 hW A0 ⊢
 have HW := Lib.hid hW
 have HNL := Lib.hid hNL
 have HNE := Lib.hid hNE
 clear hv hb0 hW hNL hNE
 go_enter Tryz.func17, Tryz.ntmps17
 go_wp2_with fail
 rw [← HW.out]
 refine Calls.mono M1.out ?_
 rintro e w1 ⟨rfl, hg1, ho1⟩
 have hb1 : Below lo W w1 := below_grown hg1 hs0 (fun b e => (V1.out.lt b e).1)
 have HB1 := Lib.hid ((HB0.out.mono hlo).trans hb1)
 have A1 : Hid (Blk w1 w.heap.size _ _) := (hg1.block _ A0.out.lt (by
  intro e
  have := (V1.out.lt _ e.symm).1
  rcases own_type_far V1.out A0.out (by decide) with h | h
  ·rw [h] at e; cases e
  ·exact h e.symm)).trans A0.out
 have W2 := Lib.hid (V2.out.kept hg1 (own_types V2.out V1.out (by decide)))
 have HO1 := Lib.hid ho1
 have HG1 := Lib.hid hg1
 have M2 := Lib.hid (markEdgeS_is lo (.slice ae NE ce) NE _ (k + NL) w1 (by omega) (by omega) W2.out)
 have hs1 : lo ≤ w1.heap.size := Nat.le_trans hs0 hg1.size
 have a3 := A1.out.cell 3 rfl
 clear ho1 hg1 hb1 M1
 go_wp2_with fail
 refine Calls.mono M2.out ?_
 rintro e w2 ⟨rfl, hg2, ho2⟩
 have hb2 : Below lo w1 w2 := below_grown hg2 hs1 (fun b e => (W2.out.lt b e).1)
 have HB2 := Lib.hid (HB1.out.trans hb2)
 have HO2 := Lib.hid ho2
 have HG2 := Lib.hid hg2
 clear ho2 hg2 hb2 M2
 go_wp2_with fail
 go_ret
 refine ⟨ret_int (by omega), HB2.out, ?_, ?_⟩
 ·unfold OwnLts mrkL
  rw [mrkS_len, mrkE_len, ← HNL.out, ← HNE.out]
  exact ⟨HO1.out.kept HG2.out (own_types HO1.out W2.out (by decide)), HO2.out⟩
 ·exact (((Only.below [] HB0.out).trans (Only.grown V1.out HG1.out)).trans (Only.grown W2.out HG2.out))

set_option maxHeartbeats 1000000 in
theorem heldLts_is (lo : Nat) (lv ev : Value) (t : Lts) (x y : Int) (k : Int) (w : World) (h1 : 0 ≤ k) (h2 : k + markLen t ≤ 1000000000) (hv : OwnLts lo w lv ev (mrkL k t)) :
  Calls Tryz.prog 26 #[.agg #[.int .i64 x, .int .i64 y, lv, ev], .int .i64 k] w fun e w' => e = .returned (.int .i64 (k + markLen t)) ∧ Below w.heap.size w w' := by
 unfold markLen at h2 ⊢
 unfold OwnLts mrkL at hv
 rw [mrkS_len, mrkE_len] at hv
 obtain ⟨al, cl, rfl, -, -⟩ := owns_slice hv.1
 obtain ⟨ae, ce, rfl, -, -⟩ := owns_slice hv.2
 obtain ⟨NL, hNL⟩ : ∃ NL, NL = t.labels.length := ⟨_, rfl⟩
 obtain ⟨NE, hNE⟩ : ∃ NE, NE = t.edges.length := ⟨_, rfl⟩
 rw [← hNL, ← hNE] at hv h2 ⊢
 obtain ⟨W, hW⟩ : ∃ W, W = w.alloc (.cells #[.int .i64 x, .int .i64 y, .slice al NL cl, .slice ae NE ce] 32) := ⟨_, rfl⟩
 have hb0 : Below w.heap.size w W := by rw [hW]; exact (Below.refl _ w).alloc (Nat.le_refl _) _
 have A0 : Hid (Blk W w.heap.size [.int .i64 x, .int .i64 y, .slice al NL cl, .slice ae NE ce] 32) := by unfold Hid; rw [hW]; exact Blk.new w _ _
 have V1 := Lib.hid (owns_below hv.1 hb0)
 have V2 := Lib.hid (owns_below hv.2 hb0)
 have M1 := Lib.hid (heldStringS_is (.slice al NL cl) lo NL k W h1 (by omega) (SliceK.of_owns (e := 9) encS_len (mrkS_len _ _).symm (by rw [flat_encS]; exact V1.out)))
 have HB0 := Lib.hid hb0
 have HW := Lib.hid hW
 have hs0 := hb0.size
 clear hv hb0 hW hNL hNE
 go_enter Tryz.func26, Tryz.ntmps26
 go_wp2_with fail
 rw [← HW.out]
 refine Calls.mono M1.out ?_
 rintro e w1 ⟨rfl, hb1⟩
 have HB1 := Lib.hid (HB0.out.trans (hb1.mono hs0))
 have A1 := Lib.hid (A0.out.below hb1)
 have V3 := Lib.hid (owns_below V2.out hb1)
 have M2 := Lib.hid (heldEdgeS_is (.slice ae NE ce) lo NE (k + NL) w1 (by omega) (by omega) (SliceK.of_owns (e := 78) encE_len (mrkE_len _ _).symm V3.out))
 have a3 := A1.out.cell 3 rfl
 clear hb1 M1
 go_wp2_with fail
 refine Calls.mono M2.out ?_
 rintro e w2 ⟨rfl, rfl⟩
 clear M2
 go_wp2_with fail
 go_ret
 exact ⟨ret_int (by omega), HB1.out⟩

end Go.Proofs.YtjghfgaincnegaaGreatDoor

namespace Go.Proofs.YtjghfgaincnegaaGreatDoor
open Go Go.RowKit

theorem szS_fit (ss : List ByteArray) (left : Int) (h0 : 0 ≤ left) (h : 0 ≤ szS ss left) : ∀ s ∈ ss, (s.size : Int) ≤ left := by
 induction ss generalizing left with
 | nil => intro s hs; cases hs
 | cons a r ih =>
  unfold szS at h
  split at h
  ·omega
  ·next hl =>
   intro s hs
   rcases List.mem_cons.1 hs with rfl | hs
   ·omega
   ·have := ih (left - a.size) (by omega) h s hs
    omega
theorem szL_fit {t : Lts} {left : Int} (_h0 : 0 ≤ left) (h : 0 ≤ szL t left) : (t.labels.length : Int) ≤ left ∧ (t.edges.length : Int) ≤ left ∧ (∀ s ∈ t.labels, (s.size : Int) ≤ left) ∧ szL t left ≤ left := by
 unfold szL at h ⊢
 split at h
 ·omega
 ·next h1 =>
  rw [if_neg h1]
  split at h
  ·omega
  ·next h2 =>
   rw [if_neg h2]
   have h3 : ¬ left - t.labels.length < 0 := by
    intro e
    rw [szSS_neg e] at h1
    omega
   rw [szSS_pos h3] at h1 h2 h ⊢
   have h4 := szS_lt t.labels (left - t.labels.length) (by omega)
   have h5 : ¬ szS t.labels (left - t.labels.length) - t.edges.length < 0 := by
    intro e
    rw [szN_neg e] at h2
    omega
   rw [szN_pos h5] at h ⊢
   refine ⟨by omega, by omega, fun s hs => ?_, by omega⟩
   have := szS_fit t.labels (left - t.labels.length) (by omega) (by omega) s hs
   omega

end Go.Proofs.YtjghfgaincnegaaGreatDoor

namespace Go.Proofs.YtjghfgaincnegaaGreatDoor
open Go Go.RowKit

theorem boxNew (w : World) (a : Array Value) (T : TypeId) : Below w.heap.size w (w.alloc (.cells a T)) := (Below.refl _ _).alloc (Nat.le_refl _) _

theorem Only.lts {Ts : List TypeId} {w w' : World} (h : Only Ts w w') {lo : Nat} {lv ev : Value} {t : Lts} (ho : OwnLts lo w lv ev t) (h1 : 9 ∉ Ts) (h2 : 78 ∉ Ts) : OwnLts lo w' lv ev t := ⟨h.own ho.1 h1, h.own ho.2 h2⟩
end Go.Proofs.YtjghfgaincnegaaGreatDoor

namespace Go.Proofs.YtjghfgaincnegaaGreatDoor
open Go Go.RowKit

theorem turns_oneM {b : Nat} {w w' : World} (hg : w.grownBy w' (some b)) : Turns b (b + 1) w w' := ⟨hg.os, hg.tape, hg.output, hg.size, fun k hk hne => hg.block k hk (by intro e; simp at e; omega)⟩
theorem Only.mon {Ts : List TypeId} {w w' : World} (h : Only Ts w w') {lo : Nat} {lv ev vv : Value} {m : Mon} (ho : OwnMon lo w lv ev vv m) (h1 : 9 ∉ Ts) (h2 : 78 ∉ Ts) (h3 : 2 ∉ Ts) : OwnMon lo w' lv ev vv m := ⟨h.lts ho.1 h1 h2, h.own ho.2 h3⟩

set_option maxHeartbeats 1000000 in
theorem markMonitor_any (lo hi b1 b2 b3 n1 n2 n3 : Nat) (x y : Int) (cs1 cs2 cs3 : List Value) (k : Int) (w : World) (h1 : 0 ≤ k) (h2 : k + n1 + 3 * n2 + n3 ≤ 1000000000) (hb1 : lo ≤ b1) (hb2 : b1 < b2) (hb3 : b2 < b3) (hb4 : b3 < hi) (hhi : hi ≤ w.heap.size) (hc3 : cs3.length = n3)
  (hv1 : w.ownsRow lo 9 1 (.slice (some ⟨b1, 0, none⟩) n1 n1) n1 cs1) (hv2 : w.ownsRow lo 78 3 (.slice (some ⟨b2, 0, none⟩) n2 n2) n2 cs2) (hv3 : w.ownsRow lo 2 1 (.slice (some ⟨b3, 0, none⟩) n3 n3) n3 cs3) :
  Calls Tryz.prog 10 #[.agg #[.int .i64 x, .int .i64 y, .slice (some ⟨b1, 0, none⟩) n1 n1, .slice (some ⟨b2, 0, none⟩) n2 n2, .slice (some ⟨b3, 0, none⟩) n3 n3], .int .i64 k] w (MarkedIn lo hi w (k + n1 + 3 * n2 + n3)) := by
 obtain ⟨W, hW⟩ : ∃ W, W = w.alloc (.cells #[.int .i64 x, .int .i64 y, .slice (some ⟨b1, 0, none⟩) n1 n1, .slice (some ⟨b2, 0, none⟩) n2 n2, .slice (some ⟨b3, 0, none⟩) n3 n3] 34) := ⟨_, rfl⟩
 have hb0 : Below w.heap.size w W := by rw [hW]; exact (Below.refl _ w).alloc (Nat.le_refl _) _
 have A0 : Hid (Blk W w.heap.size [.int .i64 x, .int .i64 y, .slice (some ⟨b1, 0, none⟩) n1 n1, .slice (some ⟨b2, 0, none⟩) n2 n2, .slice (some ⟨b3, 0, none⟩) n3 n3] 34) := by unfold Hid; rw [hW]; exact Blk.new w _ _
 have hz : W.heap.size = w.heap.size + 1 := by rw [hW]; simp
 have HM1 := Lib.hid (markLts_any lo b3 b1 b2 n1 n2 x y cs1 cs2 k W h1 (by omega) hb1 (by omega) (by omega) hb3 (by omega) (by omega) (owns_below hv1 hb0) (owns_below hv2 hb0))
 have V3 := Lib.hid (owns_below hv3 hb0)
 have HB0 := Lib.hid hb0
 have HW := Lib.hid hW
 clear hv1 hv2 hv3 hb0 hW
 go_enter Tryz.func10, Tryz.ntmps10
 go_wp2_with fail
 rw [← HW.out]
 refine Calls.mono HM1.out ?_
 rintro e w1 ⟨rfl, ht1⟩
 have A1 := Lib.hid (A0.out.turns ht1 (.inr (by omega)))
 have T1 : Hid (Turns lo hi w w1) := turns_trans (turns_below HB0.out) (turns_wide ht1 (Nat.le_refl _) (by omega))
 have W3 := Lib.hid (owns_turns V3.out ht1 (fun b e => .inr (by have h : b3 = b := (by simpa [Value.ownBlock] using e); omega)))
 have c4 := A1.out.cell 4 rfl
 have HM3 := Lib.hid (markInt64S_any lo (.slice (some ⟨b3, 0, none⟩) n3 n3) cs3 (k + n1 + 3 * n2) w1 (by omega) (by omega) (by rw [hc3]; exact W3.out))
 rw [hc3] at HM3
 clear ht1 HM1
 go_wp2_with fail
 refine Calls.mono HM3.out ?_
 rintro e w2 ⟨rfl, hg2, -⟩
 have T2 : Hid (Turns lo hi w1 w2) := turns_wide (turns_oneM (b := b3) hg2) (by omega) (by omega)
 clear hg2
 go_wp2_with fail
 go_ret
 exact ⟨rfl, turns_trans T1.out T2.out⟩

/-- The monitor whose slices hold the marks from k on. -/
def mrkM (k : Int) (m : Mon) : Mon := ⟨mrkL k m.sys, seqI (k + markLen m.sys) m.vs.length⟩
def markLenM (m : Mon) : Int := markLen m.sys + (m.vs.length : Int)

set_option maxHeartbeats 1000000 in
theorem markMonitor_is (lo : Nat) (lv ev vv : Value) (m : Mon) (x y : Int) (k : Int) (w : World) (h1 : 0 ≤ k) (h2 : k + markLenM m ≤ 1000000000) (hlo : lo ≤ w.heap.size) (hv : OwnMon lo w lv ev vv m) :
  Calls Tryz.prog 10 #[.agg #[.int .i64 x, .int .i64 y, lv, ev, vv], .int .i64 k] w fun e w' => e = .returned (.int .i64 (k + markLenM m)) ∧ Below lo w w' ∧ OwnMon lo w' lv ev vv (mrkM k m)
   ∧ Only [9, 78, 2] w w' := by
 unfold markLenM at h2 ⊢
 have hml : 0 ≤ markLen m.sys := by unfold markLen; omega
 obtain ⟨al, cl, rfl, -, -⟩ := owns_slice hv.1.1
 obtain ⟨ae, ce, rfl, -, -⟩ := owns_slice hv.1.2
 obtain ⟨am, cm, rfl, -, -⟩ := owns_slice hv.2
 obtain ⟨W, hW⟩ : ∃ W, W = w.alloc (.cells #[.int .i64 x, .int .i64 y, .slice al m.sys.labels.length cl, .slice ae m.sys.edges.length ce, .slice am m.vs.length cm] 34) := ⟨_, rfl⟩
 have hb0 : Below w.heap.size w W := by rw [hW]; exact (Below.refl _ w).alloc (Nat.le_refl _) _
 have A0 : Hid (Blk W w.heap.size [.int .i64 x, .int .i64 y, .slice al m.sys.labels.length cl, .slice ae m.sys.edges.length ce, .slice am m.vs.length cm] 34) := by unfold Hid; rw [hW]; exact Blk.new w _ _
 have hs0 : lo ≤ W.heap.size := Nat.le_trans hlo hb0.size
 have HM1 := Lib.hid (markLts_is lo (.slice al m.sys.labels.length cl) (.slice ae m.sys.edges.length ce) m.sys x y k W h1 (by omega) hs0 (hv.1.below hb0))
 have V2 := Lib.hid (owns_below hv.2 hb0)
 have HB0 := Lib.hid hb0
 have HW := Lib.hid hW
 obtain ⟨NV, hNV⟩ : ∃ NV, NV = m.vs.length := ⟨_, rfl⟩
 obtain ⟨ML, hML⟩ : ∃ ML, ML = markLen m.sys := ⟨_, rfl⟩
 obtain ⟨NL, hNL⟩ : ∃ NL, NL = m.sys.labels.length := ⟨_, rfl⟩
 obtain ⟨NE, hNE⟩ : ∃ NE, NE = m.sys.edges.length := ⟨_, rfl⟩
 rw [← hNL, ← hNE] at HM1
 rw [← hML] at HM1 h2 hml ⊢
 rw [← hNV] at V2 h2 ⊢
 rw [← hNV, ← hNL, ← hNE] at HW A0
 rw [← hNL, ← hNE]
 have HNV := Lib.hid hNV
 have HML := Lib.hid hML
 clear hv hb0 hW hNV hML hNL hNE
 go_enter Tryz.func10, Tryz.ntmps10
 go_wp2_with fail
 rw [← HW.out]
 refine Calls.mono HM1.out ?_
 rintro e w1 ⟨rfl, hb1, ho1, hon1⟩
 have HB1 := Lib.hid ((HB0.out.mono hlo).trans hb1)
 have A1 := Lib.hid (hon1.blk A0.out (by decide))
 have W2 := Lib.hid (hon1.own V2.out (by decide))
 have HO1 := Lib.hid ho1
 have HON1 := Lib.hid hon1
 have M2 := Lib.hid (markInt64S_any lo (.slice am NV cm) (m.vs.map (Value.int .i64)) (k + ML) w1 (by omega) (by rw [List.length_map, ← HNV.out]; omega) (by rw [List.length_map, ← HNV.out]; exact W2.out))
 rw [List.length_map, ← HNV.out] at M2
 have hs1 : lo ≤ w1.heap.size := Nat.le_trans hs0 hb1.size
 have a4 := A1.out.cell 4 rfl
 clear ho1 hon1 hb1 HM1
 go_wp2_with fail
 refine Calls.mono M2.out ?_
 rintro e w2 ⟨rfl, hg2, ho2⟩
 have hb2 : Below lo w1 w2 := below_grown hg2 hs1 (fun b e => (W2.out.lt b e).1)
 have HB2 := Lib.hid (HB1.out.trans hb2)
 have HO2 := Lib.hid ho2
 have HG2 := Lib.hid (Only.grown W2.out hg2)
 clear ho2 hg2 hb2 M2
 go_wp2_with fail
 go_ret
 refine ⟨ret_int (by omega), HB2.out, ⟨?_, ?_⟩, ?_⟩
 ·exact HG2.out.lts HO1.out (by decide) (by decide)
 ·have h := HO2.out
  have e1 : marked (k + ML) (m.vs.map (Value.int .i64)) NV = (seqI (k + ML) NV).map (Value.int .i64) := by
   have h9 := marked_all (k + ML) (m.vs.map (Value.int .i64))
   rw [List.length_map, ← HNV.out] at h9
   rw [h9]
   unfold seqI
   rw [List.map_map]
   rfl
  rw [e1] at h
  show w2.ownsRow lo 2 1 _ (seqI (k + markLen m.sys) m.vs.length).length ((seqI (k + markLen m.sys) m.vs.length).map (Value.int .i64))
  rw [← HML.out, ← HNV.out, show (seqI (k + ML) NV).length = NV from by simp [seqI]]
  exact h
 ·exact ((Only.below [] HB0.out).trans HON1.out).trans HG2.out

set_option maxHeartbeats 1000000 in
theorem heldMonitor_is (lo : Nat) (lv ev vv : Value) (m : Mon) (x y : Int) (k : Int) (w : World) (h1 : 0 ≤ k) (h2 : k + markLenM m ≤ 1000000000) (hv : OwnMon lo w lv ev vv (mrkM k m)) :
  Calls Tryz.prog 11 #[.agg #[.int .i64 x, .int .i64 y, lv, ev, vv], .int .i64 k] w fun e w' => e = .returned (.int .i64 (k + markLenM m)) ∧ Below w.heap.size w w' := by
 unfold markLenM at h2 ⊢
 have hml : 0 ≤ markLen m.sys := by unfold markLen; omega
 obtain ⟨al, cl, rfl, -, -⟩ := owns_slice hv.1.1
 obtain ⟨ae, ce, rfl, -, -⟩ := owns_slice hv.1.2
 obtain ⟨am, cm, rfl, -, -⟩ := owns_slice hv.2
 obtain ⟨NL, hNL⟩ : ∃ NL, NL = (mrkM k m).sys.labels.length := ⟨_, rfl⟩
 obtain ⟨NE, hNE⟩ : ∃ NE, NE = (mrkM k m).sys.edges.length := ⟨_, rfl⟩
 obtain ⟨NV, hNV⟩ : ∃ NV, NV = (mrkM k m).vs.length := ⟨_, rfl⟩
 have hNV2 : NV = m.vs.length := by rw [hNV]; unfold mrkM; simp [seqI]
 rw [← hNL, ← hNE, ← hNV]
 obtain ⟨W, hW⟩ : ∃ W, W = w.alloc (.cells #[.int .i64 x, .int .i64 y, .slice al NL cl, .slice ae NE ce, .slice am NV cm] 34) := ⟨_, rfl⟩
 have hb0 : Below w.heap.size w W := by rw [hW]; exact (Below.refl _ w).alloc (Nat.le_refl _) _
 have A0 : Hid (Blk W w.heap.size [.int .i64 x, .int .i64 y, .slice al NL cl, .slice ae NE ce, .slice am NV cm] 34) := by unfold Hid; rw [hW]; exact Blk.new w _ _
 have HM1 := Lib.hid (heldLts_is lo (.slice al NL cl) (.slice ae NE ce) m.sys x y k W h1 (by omega) (by rw [hNL, hNE]; exact hv.1.below hb0))
 have V2 : Hid (W.ownsRow lo 2 1 (.slice am NV cm) NV ((seqI (k + markLen m.sys) NV).map (Value.int .i64))) := by
  have h := owns_below hv.2 hb0
  rw [← hNV] at h
  have e : (mrkM k m).vs = seqI (k + markLen m.sys) NV := by rw [hNV2]; rfl
  rw [e] at h
  exact h
 have HB0 := Lib.hid hb0
 have HW := Lib.hid hW
 have hs0 := hb0.size
 obtain ⟨ML, hML⟩ : ∃ ML, ML = markLen m.sys := ⟨_, rfl⟩
 rw [← hML] at HM1 h2 hml V2 ⊢
 rw [← hNV2] at h2 ⊢
 clear hv hb0 hW hNL hNE hNV hNV2 hML
 go_enter Tryz.func11, Tryz.ntmps11
 go_wp2_with fail
 rw [← HW.out]
 refine Calls.mono HM1.out ?_
 rintro e w1 ⟨rfl, hb1⟩
 have HB1 := Lib.hid (HB0.out.trans (hb1.mono hs0))
 have A1 := Lib.hid (A0.out.below hb1)
 have V3 := Lib.hid (owns_below V2.out hb1)
 have M2 := Lib.hid (heldInt64S_same (.slice am NV cm) lo NV (k + ML) w1 (by omega) (by omega) (SliceK.of_owns (enc := encI) (e := 2) encI_len (show NV = (seqI (k + ML) NV).length from by simp [seqI]) (by rw [flat_encI]; exact V3.out)))
 have a4 := A1.out.cell 4 rfl
 have hk1 : ¬ k + ML < 0 := by omega
 have hk2 : ¬ k + ML + (NV : Int) < 0 := by omega
 clear hb1 HM1
 go_wp2_with fail
 refine Calls.mono M2.out ?_
 rintro e w2 ⟨rfl, rfl⟩
 clear M2
 go_wp2_with fail
 go_ret
 exact ⟨ret_int (by omega), HB1.out⟩

end Go.Proofs.YtjghfgaincnegaaGreatDoor

namespace Go.Proofs.YtjghfgaincnegaaGreatDoor
open Go Go.RowKit

/-- A copy of a monitor, its slices in blocks of its own. -/
structure CopyM (B : Nat) (m : Mon) (b1 b2 b3 : Nat) (w : World) : Prop where
 h1 : B ≤ b1
 h2 : b1 < b2
 h3 : b2 < b3
 h4 : b3 < w.heap.size
 o1 : w.ownsRow B 9 1 (.slice (some ⟨b1, 0, none⟩) m.sys.labels.length m.sys.labels.length) m.sys.labels.length (m.sys.labels.map .string)
 o2 : w.ownsRow b2 78 3 (.slice (some ⟨b2, 0, none⟩) m.sys.edges.length m.sys.edges.length) m.sys.edges.length (m.sys.edges.flatMap encE)
 o3 : w.ownsRow b3 2 1 (.slice (some ⟨b3, 0, none⟩) m.vs.length m.vs.length) m.vs.length (m.vs.map (Value.int .i64))
theorem CopyM.below {B : Nat} {m : Mon} {b1 b2 b3 : Nat} {w w' : World} (h : CopyM B m b1 b2 b3 w) (hb : Below w.heap.size w w') : CopyM B m b1 b2 b3 w' :=
 ⟨h.h1, h.h2, h.h3, Nat.lt_of_lt_of_le h.h4 hb.size, owns_below h.o1 hb, owns_below h.o2 hb, owns_below h.o3 hb⟩
theorem CopyM.mon {B : Nat} {m : Mon} {b1 b2 b3 : Nat} {w : World} (h : CopyM B m b1 b2 b3 w) : MonIn 0 w (.slice (some ⟨b1, 0, none⟩) m.sys.labels.length m.sys.labels.length) (.slice (some ⟨b2, 0, none⟩) m.sys.edges.length m.sys.edges.length) (.slice (some ⟨b3, 0, none⟩) m.vs.length m.vs.length) m :=
 ⟨SliceK.of_owns (enc := encS) (e := 9) encS_len rfl (by rw [flat_encS]; exact own_lower h.o1 (Nat.zero_le _)), SliceK.of_owns (enc := encE) (e := 78) encE_len rfl (own_lower h.o2 (Nat.zero_le _)), SliceK.of_owns (enc := encI) (e := 2) encI_len rfl (by rw [flat_encI]; exact own_lower h.o3 (Nat.zero_le _))⟩
def CopyMadeM (m : Mon) (w : World) (e : Ending) (w' : World) : Prop := ∃ b1 b2 b3, e = .returned (.agg #[.int .i64 m.sys.states, .int .i64 m.sys.initial, .slice (some ⟨b1, 0, none⟩) m.sys.labels.length m.sys.labels.length, .slice (some ⟨b2, 0, none⟩) m.sys.edges.length m.sys.edges.length, .slice (some ⟨b3, 0, none⟩) m.vs.length m.vs.length]) ∧ Below w.heap.size w w' ∧ CopyM w.heap.size m b1 b2 b3 w'
theorem copyM_any (lo : Nat) (m : Mon) (lv ev vv : Value) (w : World) (h1 : m.sys.labels.length ≤ 1048576) (h2 : m.sys.edges.length ≤ 1048576) (h3 : m.vs.length ≤ 1048576) (hp : MonIn lo w lv ev vv m) :
  Calls Tryz.prog 7 #[.agg #[.int .i64 m.sys.states, .int .i64 m.sys.initial, lv, ev, vv]] w (CopyMadeM m w) :=
 (toMonitor_any lo m lv ev vv w h1 h2 h3 hp).mono fun _ _ ⟨b1, b2, b3, he, hb, h1, h2, h3, h4, h5, h6, h7⟩ => ⟨b1, b2, b3, he, hb, h1, h2, h3, h4, h5, h6, h7⟩
theorem szM_fit {t : Mon} {left : Int} (h0 : 0 ≤ left) (h : 0 ≤ szM t left) : (t.sys.labels.length : Int) ≤ left ∧ (t.sys.edges.length : Int) ≤ left ∧ (∀ s ∈ t.sys.labels, (s.size : Int) ≤ left) ∧ szM t left ≤ left ∧ (t.vs.length : Int) ≤ left := by
 unfold szM at h ⊢
 split at h
 ·omega
 ·next h1 =>
  rw [if_neg h1]
  have hf := szL_fit (t := t.sys) (left := left) h0 (by omega)
  split at h
  ·omega
  ·next h2 =>
   rw [if_neg h2]
   have h3 : ¬ szL t.sys left - t.vs.length < 0 := by
    intro e
    rw [szN_neg e] at h2
    omega
   rw [szN_pos h3] at h ⊢
   exact ⟨hf.1, hf.2.1, hf.2.2.1, by omega, by omega⟩

end Go.Proofs.YtjghfgaincnegaaGreatDoor
