/-
  The copies of the arguments that the package laws makes.
  What the functions of the laws that mark do.
  The texts that marks are, lists of texts and edges marked, and that the marks still stand.
  DeterminizeLts: the reference's and the implementation's.
  What SuspensionLts and SuspensionAutomaton return. Plain.
  What the reference's l28Suspend returns; edges appended. Plain.
-/
import Derived.Test.YtaabkeejbhdenaaGreatDoorC21
import Derived.Test.YtaabkeejbhdenaaGreatDoorC10
import Derived.Test.YtaabkeejbhdenaaGreatDoorC15
import Derived.Test.YtaabkeejbhdenaaGreatDoorC11
import Derived.Test.YtaabkeejbhdenaaGreatDoorC14
import Derived.Test.YtaabkeejbhdenaaGreatDoorC20
import Derived.Test.YtaabkeejbhdenaaGreatDoorC7
import Derived.Maps.AppendAt
namespace Go.Proofs.YtaabkeejbhdenaaGreatDoor
open Go Go.RowKit

theorem info_string : (Tryz.prog.info? 9).map (fun i => (i.zero, i.size, i.bytes)) = some (some (.string ⟨#[]⟩), 1, 16) := by kernel_rfl
theorem info_edge : (Tryz.prog.info? 73).map (fun i => (i.zero, i.size, i.bytes)) = some (some (.agg #[.int .i64 0, .int .i64 0, .int .i64 0]), 3, 24) := by kernel_rfl

def MadeStrs (w : World) (ss : List ByteArray) (e : Ending) (w' : World) : Prop :=
 e = .returned (.slice (some ⟨w.heap.size, 0, none⟩) ss.length ss.length) ∧ Below w.heap.size w w' ∧ w.heap.size < w'.heap.size ∧ w'.ownsRow w.heap.size 9 1 (.slice (some ⟨w.heap.size, 0, none⟩) ss.length ss.length) ss.length (ss.map .string)

set_option maxHeartbeats 400000 in
theorem toStringS_any (v : Value) (lo : Nat) (ss : List ByteArray) (w : World) (hn : ss.length ≤ 1048576) (hv : SliceK 1 encS lo w v ss) :
  Calls Tryz.prog 14 #[v] w (MadeStrs w ss) := by
 obtain ⟨a, ca, rfl, hna, hca, ha⟩ := hv
 obtain ⟨i0, hi, hz0, hz1, hz2⟩ := info_parts info_string
 go_enter Tryz.func14, Tryz.ntmps14
 go_wp2_with (at_make; refine wpList_make_full _ rfl _ _ 22 rfl w.heap.size 9 i0 _ 1 Tryz.underlying22 hi hz0 hz1 .i64 .i64 _ _ ss.length rfl rfl rfl rfl ?_ ?_ ?_ ?_)
 ·rw [hz2]; omega
 ·simp [maxLen]; omega
 ·exact Nat.le_refl _
 ·intro w1 ho hg
  rw [toList_madeCells_one] at ho
  have hb1 : Below w.heap.size w w1 := (Below.refl _ w).grown hg (Nat.le_refl _) (fun _ h => by cases h)
  clear hi hz0 hz1 hz2 i0
  have HO := Lib.hid ho
  clear ho hg
  go_wp2
  go_loopw [4] (fun i wr => ∃ k : Nat, k ≤ ss.length ∧ i = .int .i64 k ∧ Below w.heap.size w wr ∧ wr.ownsRow w.heap.size 9 1 (.slice (some ⟨w.heap.size, 0, none⟩) ss.length ss.length) ss.length ((ss.take k).map .string ++ List.replicate (ss.length - k) (.string ⟨#[]⟩))) (fun i _ => ss.length - (intOf i).toNat)
  case atStart => exact ⟨0, Nat.zero_le _, rfl, hb1, by simpa using HO.out⟩
  case round =>
   obtain ⟨k, hk, rfl, hbl, ho⟩ := hrel
   clear HO hb1
   by_cases hlt : k < ss.length
   ·obtain ⟨b1, o1, rfl, -, h1, c1⟩ := (ha.below hbl).one hlt
    simp only [encS, List.getElem?_cons_zero] at c1
    have c2 := ho.cellAt k (by omega)
    rw [filled_get _ _ _ _ hlt] at c2
    have c3 := ho.frozenAt k
    have ho2 := ho.stored k (.string ss[k])
    rw [filled_set _ _ _ _ hlt] at ho2
    have HO := Lib.hid ho2
    clear ho ho2 ha
    go_wp2
    go_roundw
    case rel => exact ⟨k + 1, by omega, by go_num, hbl.setCell (by exact Nat.le_refl _) _, HO.out.1⟩
    case measure => simp [intOf]; omega
   ·clear ha
    go_wp2
    go_ret
    have hke : k = ss.length := by omega
    subst hke
    exact ⟨rfl, hbl, (ho.lt _ rfl).2, by simpa using ho⟩

def RetEdge (w : World) (x y z : Int) (e : Ending) (w' : World) : Prop := e = .returned (.agg #[.int .i64 x, .int .i64 y, .int .i64 z]) ∧ Below w.heap.size w w'

set_option maxHeartbeats 400000 in
theorem toEdge_any (x y z : Int) (w : World) : Calls Tryz.prog 51 #[.agg #[.int .i64 x, .int .i64 y, .int .i64 z]] w (RetEdge w x y z) := by
 go_enter Tryz.func51, Tryz.ntmps51
 go_wp2
 refine bodyPost_ret (v := .agg #[.int .i64 x, .int .i64 y, .int .i64 z]) (by simp [results, Tryz.results51, go_sem]) rfl ⟨rfl, ?_⟩
 repeat (first | exact Below.refl _ _ | refine Below.setCell ?_ (by simp) _ | refine Below.alloc ?_ (by simp; try omega) _)

def MadeEdges (w : World) (es : List Edge) (e : Ending) (w' : World) : Prop :=
 e = .returned (.slice (some ⟨w.heap.size, 0, none⟩) es.length es.length) ∧ Below w.heap.size w w' ∧ w.heap.size < w'.heap.size ∧ w'.ownsRow w.heap.size 73 3 (.slice (some ⟨w.heap.size, 0, none⟩) es.length es.length) es.length (es.flatMap encE)

set_option maxHeartbeats 1000000 in
theorem toEdgeS_any (v : Value) (lo : Nat) (es : List Edge) (w : World) (hn : es.length ≤ 1048576) (hv : SliceK 3 encE lo w v es) :
  Calls Tryz.prog 23 #[v] w (MadeEdges w es) := by
 obtain ⟨a, ca, rfl, hna, hca, ha⟩ := hv
 obtain ⟨i0, hi, hz0, hz1, hz2⟩ := info_parts info_edge
 go_enter Tryz.func23, Tryz.ntmps23
 go_wp2_with (at_make; refine wpList_make_full _ rfl _ _ 27 rfl w.heap.size 73 i0 _ 3 Tryz.underlying27 hi hz0 hz1 .i64 .i64 _ _ es.length rfl rfl rfl rfl ?_ ?_ ?_ ?_)
 ·rw [hz2]; omega
 ·simp [maxLen]; omega
 ·exact Nat.le_refl _
 ·intro w1 ho hg
  have hb1 : Below w.heap.size w w1 := (Below.refl _ w).grown hg (Nat.le_refl _) (fun _ h => by cases h)
  have ho1 : w1.ownsRow w.heap.size 73 3 (.slice (some ⟨w.heap.size, 0, none⟩) es.length es.length) es.length (List.replicate (es.length * 3) (.int .i64 0)) := by
   have : (madeCells #[.int .i64 0, .int .i64 0, .int .i64 0] (es.length * 3)).toList = List.replicate (es.length * 3) (Value.int .i64 0) := by
    apply List.ext_getElem?
    intro j
    by_cases hj : j < es.length * 3
    ·have h3 : j % 3 < 3 := Nat.mod_lt _ (by omega)
     simp only [madeCells, Array.toList_map, Array.toList_range, List.getElem?_map, List.getElem?_range hj, List.getElem?_replicate, if_pos hj, Option.map_some]
     show some (#[Value.int IntKind.i64 0, Value.int IntKind.i64 0, Value.int IntKind.i64 0][j % 3]!) = _
     generalize j % 3 = q at h3
     match q, h3 with
     | 0, _ => rfl
     | 1, _ => rfl
     | 2, _ => rfl
    ·simp [madeCells, hj]
   rw [this] at ho
   exact ho
  clear hi hz0 hz1 hz2 i0
  have HO := Lib.hid ho1
  clear ho hg ho1
  go_wp2
  go_loopw [4] (fun i wr => ∃ k : Nat, k ≤ es.length ∧ i = .int .i64 k ∧ Below w.heap.size w wr ∧ w.heap.size < wr.heap.size ∧ wr.ownsRow w.heap.size 73 3 (.slice (some ⟨w.heap.size, 0, none⟩) es.length es.length) es.length ((es.take k).flatMap encE ++ List.replicate ((es.length - k) * 3) (.int .i64 0))) (fun i _ => es.length - (intOf i).toNat)
  case atStart => exact ⟨0, Nat.zero_le _, rfl, hb1, (HO.out.lt _ rfl).2, by simpa using HO.out⟩
  case round =>
   obtain ⟨k, hk, rfl, hbl, hsz, ho⟩ := hrel
   clear HO hb1
   by_cases hlt : k < es.length
   ·obtain ⟨b1, o1, rfl, -, h1, c1, c2, c3⟩ := (ha.below hbl).edge hlt
    have HO := Lib.hid ho
    clear ho ha
    go_wp2_with fail
    refine (toEdge_any _ _ _ _).mono ?_
    rintro e w2 ⟨rfl, hb2⟩
    have ho := owns_below HO.out hb2
    clear c1 c2 c3
    have d0 := (ho.cellAt (k * 3) (by omega)).trans (filledE_get _ _ _ 0 hlt (by omega))
    have s0 := (ho.stored (k * 3) (.int .i64 es[k].src)).1
    have d1 := s0.cellAt (k * 3 + 1) (by omega)
    rw [List.getElem?_set_ne (by omega), filledE_get _ _ _ _ hlt (by omega)] at d1
    have s1 := (s0.stored (k * 3 + 1) (.int .i64 es[k].lab)).1
    have d2 := s1.cellAt (k * 3 + 2) (by omega)
    rw [List.getElem?_set_ne (by omega), List.getElem?_set_ne (by omega), filledE_get _ _ _ _ hlt (by omega)] at d2
    have g1 := ho.cellAt (k * 3 + 1) (by omega)
    rw [filledE_get _ _ _ _ hlt (by omega)] at g1
    have g2 := ho.cellAt (k * 3 + 2) (by omega)
    rw [filledE_get _ _ _ _ hlt (by omega)] at g2
    have f0 := ho.frozenAt (k * 3)
    have f3 := ho.frozenAt (k * 3 + 1)
    have f4 := ho.frozenAt (k * 3 + 2)
    have f1 := s0.frozenAt (k * 3 + 1)
    have f2 := s1.frozenAt (k * 3 + 2)
    have ho2 := (s1.stored (k * 3 + 2) (.int .i64 es[k].dst)).1
    rw [filledE_set _ _ _ hlt] at ho2
    clear s0 s1
    have HO2 := Lib.hid ho2
    have hsz2 := hb2.size
    clear ho ho2 HO
    go_wp2
    go_roundw
    case rel => exact ⟨k + 1, by omega, by go_num, (((hbl.trans (hb2.mono hbl.size)).setCell (by exact Nat.le_refl _) _).setCell (by exact Nat.le_refl _) _).setCell (by exact Nat.le_refl _) _, by simp; omega, HO2.out⟩
    case measure => simp [intOf]; omega
   ·clear ha
    go_wp2
    go_ret
    have hke : k = es.length := by omega
    subst hke
    exact ⟨rfl, hbl, (ho.lt _ rfl).2, by simpa using ho⟩

/-- A copy of a system, in memory of the call's own: its labels lie in one new block, its edges in a later one. -/
def MadeLts (w : World) (t : Lts) (e : Ending) (w' : World) : Prop :=
 ∃ b1 b2, e = .returned (.agg #[.int .i64 t.states, .int .i64 t.initial, .slice (some ⟨b1, 0, none⟩) t.labels.length t.labels.length, .slice (some ⟨b2, 0, none⟩) t.edges.length t.edges.length]) ∧ Below w.heap.size w w' ∧ w.heap.size ≤ b1 ∧ b1 < b2 ∧ b2 < w'.heap.size
  ∧ w'.ownsRow w.heap.size 9 1 (.slice (some ⟨b1, 0, none⟩) t.labels.length t.labels.length) t.labels.length (t.labels.map .string) ∧ w'.ownsRow b2 73 3 (.slice (some ⟨b2, 0, none⟩) t.edges.length t.edges.length) t.edges.length (t.edges.flatMap encE)

set_option maxHeartbeats 1000000 in
theorem toLts_any (v : Value) (lo : Nat) (t : Lts) (w : World) (hl : t.labels.length ≤ 1048576) (he : t.edges.length ≤ 1048576) (hv : LtsAt lo w v t) :
  Calls Tryz.prog 7 #[v] w (MadeLts w t) := by
 obtain ⟨lv, ev, rfl, h1, h2⟩ := hv
 have H1 := Lib.hid h1
 have H2 := Lib.hid h2
 obtain ⟨_, _, rfl, -⟩ := h1
 obtain ⟨_, _, rfl, -⟩ := h2
 have H0 : Hid (∀ o1 o2 o3, Below w.heap.size w (((w.alloc o1).alloc o2).alloc o3)) := fun _ _ _ => (((Below.refl _ _).alloc (Nat.le_refl _) _).alloc (by simp) _).alloc (by simp; omega) _
 go_enter Tryz.func7, Tryz.ntmps7
 go_wp2_with fail
 refine (toStringS_any _ _ _ _ hl (SliceK.below H1.out (H0.out _ _ _))).mono ?_
 rintro e w1 ⟨rfl, hb1, hs1, ho1⟩
 have B2 := Lib.hid ((Blk.new ((w.alloc _).alloc _) [.int .i64 t.states, .int .i64 t.initial, .slice none 0 0, .slice none 0 0] 29).below hb1)
 have B1 := Lib.hid (((Blk.new (w.alloc _) [.int .i64 0, .int .i64 0, .slice none 0 0, .slice none 0 0] 29).alloc _).below hb1)
 have B0 := Lib.hid ((((Blk.new w [.int .i64 t.states, .int .i64 t.initial, _, _] 25).alloc _).alloc _).below hb1)
 have hz := hb1.size
 simp only [World.size_alloc] at hz hs1 B1 B2 B0
 have HB1 := Lib.hid ((H0.out _ _ _).trans (hb1.mono (B' := w.heap.size) (by simp; omega)))
 have HO1 := Lib.hid ho1
 clear hb1 ho1
 have b3 := B0.out.cell 3 rfl
 have c2 := B2.out.cell 2 rfl
 have f2 := B2.out.frozen 2
 simp only [World.size_alloc] at HO1
 go_wp2_with fail
 have HB2 := Lib.hid (HB1.out.setCell (p := ⟨w.heap.size + 1 + 1, 2, none⟩) (by simp; omega) (.slice (some ⟨w.heap.size + 1 + 1 + 1, 0, none⟩) t.labels.length t.labels.length))
 refine (toEdgeS_any _ _ _ _ he (SliceK.below H2.out HB2.out)).mono ?_
 rintro e w2 ⟨rfl, hb2, hs2, ho2⟩
 have C2 := Lib.hid ((B2.out.set 2 (.slice (some ⟨w.heap.size + 1 + 1 + 1, 0, none⟩) t.labels.length t.labels.length)).below hb2)
 have C1 := Lib.hid ((B1.out.setOther ⟨w.heap.size + 1 + 1, 2, none⟩ (.slice (some ⟨w.heap.size + 1 + 1 + 1, 0, none⟩) t.labels.length t.labels.length) (by simp)).below hb2)
 have HB3 := Lib.hid (HB2.out.trans (hb2.mono (B' := w.heap.size) (by simp; omega)))
 have HO1' := Lib.hid (owns_below (owns_setOther HO1.out ⟨w.heap.size + 1 + 1, 2, none⟩ (.slice (some ⟨w.heap.size + 1 + 1 + 1, 0, none⟩) t.labels.length t.labels.length) (by simp [Value.ownBlock])) hb2)
 have HO2 := Lib.hid ho2
 simp only [World.size_setCell] at hs2 HO2
 clear hb2 ho2 c2 f2 B1 B2 HB1 HO1 b3 B0
 have d0 := C2.out.cell 0 rfl
 have d1 := C2.out.cell 1 rfl
 have d2 := C2.out.cell 2 rfl
 have d3 := C2.out.cell 3 rfl
 have f3 := C2.out.frozen 3
 have e0 := C1.out.cell 0 rfl
 have e1 := C1.out.cell 1 rfl
 have e2 := C1.out.cell 2 rfl
 have e3 := C1.out.cell 3 rfl
 have g0 := C1.out.frozen 0
 have g1 := C1.out.frozen 1
 have g2 := C1.out.frozen 2
 have g3 := C1.out.frozen 3
 simp only [World.size_setCell]
 go_wp2_with fail
 refine bodyPost_ret (v := .agg #[.int .i64 t.states, .int .i64 t.initial, .slice (some ⟨w.heap.size + 1 + 1 + 1, 0, none⟩) t.labels.length t.labels.length, .slice (some ⟨w1.heap.size, 0, none⟩) t.edges.length t.edges.length])
  (by simp [results, Tryz.results7, go_sem, e0, e1, e2, e3]) rfl ⟨w.heap.size + 1 + 1 + 1, w1.heap.size, rfl, ?_, by omega, by omega, by simp; omega, ?_, ?_⟩
 ·exact ((((HB3.out.setCell (by simp; omega) _).setCell (by simp) _).setCell (by simp) _).setCell (by simp) _).setCell (by simp) _
 ·obtain ⟨q1, ⟨q2, q3⟩ | ⟨q4, q5, q6, q7, q8, q9⟩⟩ := (owns_setOther (owns_setOther (owns_setOther (owns_setOther (owns_setOther HO1'.out ⟨w.heap.size + 1 + 1, 3, none⟩ (.slice (some ⟨w1.heap.size, 0, none⟩) t.edges.length t.edges.length) (by simp [Value.ownBlock]; try omega)) ⟨w.heap.size + 1, 0, none⟩ (.int .i64 t.states) (by simp [Value.ownBlock]; try omega)) ⟨w.heap.size + 1, 1, none⟩ (.int .i64 t.initial) (by simp [Value.ownBlock]; try omega)) ⟨w.heap.size + 1, 2, none⟩ (.slice (some ⟨w.heap.size + 1 + 1 + 1, 0, none⟩) t.labels.length t.labels.length) (by simp [Value.ownBlock]; try omega)) ⟨w.heap.size + 1, 3, none⟩ (.slice (some ⟨w1.heap.size, 0, none⟩) t.edges.length t.edges.length) (by simp [Value.ownBlock]; try omega))
  ·simp at q2
  ·exact ⟨q1, .inr ⟨q4, q5, q6, q7, by omega, q9⟩⟩
 ·exact owns_setOther (owns_setOther (owns_setOther (owns_setOther (owns_setOther HO2.out _ _ (by simp [Value.ownBlock]; try omega)) _ _ (by simp [Value.ownBlock]; try omega)) _ _ (by simp [Value.ownBlock]; try omega)) _ _ (by simp [Value.ownBlock]; try omega)) _ _ (by simp [Value.ownBlock]; try omega)

end Go.Proofs.YtaabkeejbhdenaaGreatDoor

namespace Go.Proofs.YtaabkeejbhdenaaGreatDoor
open Go Go.RowKit

def SomeText (w : World) (e : Ending) (w' : World) : Prop := ∃ s, e = .returned (.string s) ∧ Below w.heap.size w w'

/-- A text out of one digit's byte. -/
theorem digit_text (w : World) (n : Int) (_h0 : 0 ≤ n) :
  (convert 121 9 (.slice (some ⟨w.heap.size, 0, none⟩) 1 1)).run Tryz.prog (w.alloc (.cells #[.int .u8 (48 + n % 10)] 5)) = .ok (.string ⟨#[UInt8.ofNat (48 + n % 10).toNat]⟩) (w.alloc (.cells #[.int .u8 (48 + n % 10)] 5)) := by
 refine run_convert_bytes_back (P := Tryz.prog) _ 121 9 5 ⟨w.heap.size, 0, none⟩ 1 [UInt8.ofNat (48 + n % 10).toNat] Tryz.underlying121 Tryz.underlying5 Tryz.underlying9 ?_
 intro j hj
 obtain rfl : j = 0 := by simpa using hj
 simp [Addr.add]
 omega

set_option maxRecDepth 100000 in
set_option maxHeartbeats 400000 in
theorem markText_any (k : Int) (w : World) (h1 : 0 ≤ k) (h2 : k ≤ 1000000000) : Calls Tryz.prog 40 #[.int .i64 k] w (SomeText w) := by
 by_cases h0 : k ≤ 0
 ·go_enter Tryz.func40, Tryz.ntmps40
  go_wp2
  go_ret
  exact ⟨_, rfl, Below.refl _ _⟩
 ·go_enter Tryz.func40, Tryz.ntmps40
  go_wp2
  go_loopw [0, 3] (fun q s wr => ∃ (n : Int) (t : ByteArray), 0 ≤ n ∧ t.size + n ≤ 1000000000 ∧ q = .int .i64 n ∧ s = .string t ∧ Below w.heap.size w wr) (fun q _ _ => (intOf q).toNat)
  case atStart => exact ⟨_, _, by omega, by show ((0 : Nat) : Int) + k ≤ _; omega, rfl, rfl, Below.refl _ _⟩
  case round =>
   obtain ⟨n, t, hn, hn2, rfl, rfl, hbl⟩ := hrel
   by_cases hp : 0 < n
   ·have kc := digit_text wr n hn
    go_wp2
    go_roundw
    case rel =>
     have hz : (ByteArray.mk #[UInt8.ofNat (48 + n % 10).toNat] ++ t).size = 1 + t.size := by rw [ByteArray.size_append]; rfl
     exact ⟨_, _, by omega, by rw [hz]; omega, rfl, rfl, hbl.alloc hbl.size _⟩
    case measure => simp [intOf]; omega
   ·go_wp2
    go_ret
    exact ⟨_, rfl, hbl⟩



/-- What a function that marks a slice does: it returns the next mark, and turns no block but the slice's own. -/
def Marked (w : World) (v : Value) (r : Int) (C : World → Prop) (e : Ending) (w' : World) : Prop := e = .returned (.int .i64 r) ∧ w.grownBy w' v.ownBlock ∧ C w'
def MarkedIn (lo hi : Nat) (w : World) (r : Int) (e : Ending) (w' : World) : Prop := e = .returned (.int .i64 r) ∧ Turns lo hi w w'

end Go.Proofs.YtaabkeejbhdenaaGreatDoor

namespace Go.Proofs.YtaabkeejbhdenaaGreatDoor
open Go Go.RowKit

def mdig : Nat → Int → ByteArray → ByteArray
 | 0, _, t => t
 | f + 1, n, t => if 0 < n then mdig f (n / 10) (⟨#[UInt8.ofNat (48 + n % 10).toNat]⟩ ++ t) else t
/-- The text of a mark. -/
def mtxt (k : Int) : ByteArray := if k ≤ 0 then ⟨#[109, 48]⟩ else ⟨#[109]⟩ ++ mdig 10 k ⟨#[]⟩
theorem mdig_stop (f : Nat) {n : Int} (t : ByteArray) (h : ¬ 0 < n) : mdig f n t = t := by
 cases f with
 | zero => rfl
 | succ f => rw [mdig, if_neg h]

set_option maxRecDepth 100000 in
set_option maxHeartbeats 400000 in
theorem markText_is (k : Int) (w : World) (h1 : 0 ≤ k) (h2 : k ≤ 1000000000) : Calls Tryz.prog 40 #[.int .i64 k] w fun e w' => e = .returned (.string (mtxt k)) ∧ Below w.heap.size w w' := by
 obtain ⟨R, hR⟩ : ∃ R, R = mtxt k := ⟨_, rfl⟩
 rw [← hR]
 by_cases h0 : k ≤ 0
 ·unfold mtxt at hR
  rw [if_pos h0] at hR
  subst hR
  go_enter Tryz.func40, Tryz.ntmps40
  go_wp2
  go_ret
  exact ⟨rfl, Below.refl _ _⟩
 ·unfold mtxt at hR
  rw [if_neg h0] at hR
  obtain ⟨D, hD⟩ : ∃ D, D = mdig 10 k ⟨#[]⟩ := ⟨_, rfl⟩
  rw [← hD] at hR
  have HD := Lib.hid hD
  have HR := Lib.hid hR
  clear hD hR
  go_enter Tryz.func40, Tryz.ntmps40
  go_wp2
  go_loopw [0, 3] (fun q s wr => ∃ (n : Int) (t : ByteArray) (f : Nat), 0 ≤ n ∧ t.size + n ≤ 1000000000 ∧ n < (10 : Int) ^ f ∧ mdig f n t = D ∧ q = .int .i64 n ∧ s = .string t ∧ Below w.heap.size w wr) (fun q _ _ => (intOf q).toNat)
  case atStart => exact ⟨k, ⟨#[]⟩, 10, by omega, by show ((0 : Nat) : Int) + k ≤ _; omega, by show k < 10000000000; omega, HD.out.symm, rfl, rfl, Below.refl _ _⟩
  case round =>
   obtain ⟨n, t, f, hn, hn2, hf, hd, rfl, rfl, hbl⟩ := hrel
   have HDD := Lib.hid hd
   have HF := Lib.hid hf
   clear hd hf
   by_cases hp : 0 < n
   ·have kc := digit_text wr n hn
    go_wp2
    go_roundw
    case rel =>
     have hz : (ByteArray.mk #[UInt8.ofNat (48 + n % 10).toNat] ++ t).size = 1 + t.size := by rw [ByteArray.size_append]; rfl
     have hf := HF.out
     cases f with
     | zero => exfalso; rw [Int.pow_zero] at hf; omega
     | succ f =>
      have hd := HDD.out
      rw [mdig, if_pos hp] at hd
      refine ⟨_, _, f, by omega, by rw [hz]; omega, ?_, hd, rfl, rfl, hbl.alloc hbl.size _⟩
      rw [Int.pow_succ] at hf
      omega
    case measure => simp [intOf]; omega
   ·have HE : Hid (t = D) := by have := HDD.out; rw [mdig_stop f t hp] at this; exact this
    go_wp2
    go_ret
    exact ⟨by rw [HR.out, HE.out]; rfl, hbl⟩

/-- The marks from k on, as texts. -/
def mrkS (k : Int) (n : Nat) : List ByteArray := (List.range n).map fun i => mtxt (k + (i : Nat))
def markedS (k : Int) (cs : List Value) (j : Nat) : List Value := (mrkS k j).map Value.string ++ cs.drop j
theorem mrkS_len (k : Int) (n : Nat) : (mrkS k n).length = n := by simp [mrkS]
theorem markedS_zero (k : Int) (cs : List Value) : markedS k cs 0 = cs := by simp [markedS, mrkS]
theorem markedS_all (k : Int) (cs : List Value) : markedS k cs cs.length = (mrkS k cs.length).map Value.string := by simp [markedS]
theorem markedS_get (k : Int) (cs : List Value) (j : Nat) (h : j < cs.length) : (markedS k cs j)[j]? = some cs[j] := by
 unfold markedS
 rw [List.getElem?_append_right (by simp [mrkS])]
 simp [h, mrkS]
theorem markedS_set (k : Int) (cs : List Value) (j : Nat) (h : j < cs.length) : (markedS k cs j).set j (.string (mtxt (k + (j : Nat)))) = markedS k cs (j + 1) := by
 unfold markedS mrkS
 rw [List.set_append_right _ _ (by simp), List.range_succ, List.map_append, List.map_append, List.append_assoc, List.drop_eq_getElem_cons h]
 simp only [List.length_map, List.length_range, Nat.sub_self, List.set_cons_zero, List.map_cons, List.map_nil, List.cons_append, List.nil_append]

set_option maxRecDepth 100000 in
set_option maxHeartbeats 400000 in
theorem markStringS_is (lo : Nat) (v : Value) (cs : List Value) (k : Int) (w : World) (h1 : 0 ≤ k) (h2 : k + cs.length ≤ 1000000000) (hv : w.ownsRow lo 9 1 v cs.length cs) :
  Calls Tryz.prog 17 #[v, .int .i64 k] w (Marked w v (k + cs.length) (fun w' => w'.ownsRow lo 9 1 v cs.length ((mrkS k cs.length).map Value.string))) := by
 have HV := Lib.hid hv
 rcases hv.2 with ⟨rfl, h0⟩ | ⟨b, cap, cur, rfl, -, -, hcap, hm, -⟩
 ·clear hv
  have hcs : cs = [] := List.eq_nil_of_length_eq_zero h0
  subst hcs
  go_enter Tryz.func17, Tryz.ntmps17
  go_wp2
  go_loop [1, 5] (fun q i => q = .int .i64 k ∧ i = .int .i64 0) (fun _ _ => 0)
  case atStart => exact ⟨rfl, rfl⟩
  case round =>
   obtain ⟨rfl, rfl⟩ := hrel
   go_wp2
   go_ret
   exact ⟨ret_int (by simp), grown_refl _ _, HV.out⟩
 ·clear hv
  obtain ⟨N, hN⟩ : ∃ N, N = cs.length := ⟨_, rfl⟩
  rw [← hN] at h2 hcap HV ⊢
  have HN := Lib.hid hN
  clear hN
  go_enter Tryz.func17, Tryz.ntmps17
  go_wp2
  go_loopw [1, 5] (fun q i wr => ∃ j : Nat, j ≤ N ∧ q = .int .i64 (k + j) ∧ i = .int .i64 j ∧ w.grownBy wr (some b) ∧ wr.ownsRow lo 9 1 (.slice (some ⟨b, 0, none⟩) N cap) N (markedS k cs j)) (fun _ i _ => N - (intOf i).toNat)
  case atStart => exact ⟨0, Nat.zero_le _, by simp, rfl, grown_refl _ _, by rw [markedS_zero]; exact HV.out⟩
  case round =>
   obtain ⟨j, hj, rfl, rfl, hg, ho⟩ := hrel
   have HG := Lib.hid hg
   have HO := Lib.hid ho
   clear hg ho HV
   by_cases hlt : j < N
   ·go_wp2_with fail
    refine (markText_is _ _ (by omega) (by omega)).mono ?_
    rintro e w1 ⟨rfl, hb⟩
    have hjc : j < cs.length := by rw [← HN.out]; exact hlt
    have ho1 := owns_below HO.out hb
    have c1 := ho1.cellAt j (by omega)
    rw [markedS_get _ _ _ hjc] at c1
    have f1 := ho1.frozenAt j
    have ho2 := ho1.stored j (.string (mtxt (k + j)))
    rw [markedS_set _ _ _ hjc] at ho2
    have HO2 := Lib.hid ho2
    have HB := Lib.hid (grown_below hb (some b))
    clear ho1 ho2 hb
    go_wp2
    go_roundw
    case rel => exact ⟨j + 1, by omega, by go_num, by go_num, grown_trans (grown_trans HG.out HB.out) HO2.out.2, HO2.out.1⟩
    case measure => simp [intOf]; omega
   ·go_wp2
    go_ret
    obtain rfl : j = N := by omega
    refine ⟨rfl, HG.out, ?_⟩
    have := HO.out
    rw [HN.out, markedS_all, ← HN.out] at this
    exact this

set_option maxRecDepth 100000 in
set_option maxHeartbeats 400000 in
theorem heldStringS_is (v : Value) (lo n : Nat) (k : Int) (w : World) (h1 : 0 ≤ k) (h2 : k + n ≤ 1000000000) (hv : SliceK 1 encS lo w v (mrkS k n)) :
  Calls Tryz.prog 18 #[v, .int .i64 k] w fun e w' => e = .returned (.int .i64 (k + n)) ∧ Below w.heap.size w w' := by
 obtain ⟨a, cap, rfl, hn, hcap, hr⟩ := hv
 have hl := mrkS_len k n
 rw [hl] at hn ⊢
 have HL := Lib.hid hl
 have HR := Lib.hid hr
 clear hl hr
 go_enter Tryz.func18, Tryz.ntmps18
 go_wp2
 go_loopw [1, 5] (fun q i wr => ∃ j : Nat, j ≤ n ∧ q = .int .i64 (k + j) ∧ i = .int .i64 j ∧ Below w.heap.size w wr) (fun _ i _ => n - (intOf i).toNat)
 case atStart => exact ⟨0, Nat.zero_le _, by simp, rfl, Below.refl _ _⟩
 case round =>
  obtain ⟨j, hj, rfl, rfl, hb⟩ := hrel
  have HB := Lib.hid hb
  by_cases hlt : j < n
  ·obtain ⟨b, off, rfl, -, hbl, c1⟩ := (HR.out.below hb).one (i := j) (by rw [HL.out]; exact hlt)
   simp only [encS, List.getElem?_cons_zero, mrkS, List.getElem_map, List.getElem_range] at c1
   have l1 := later_cell hbl c1
   have HM := Lib.hid (fun w' => markText_is (k + j) w' (by omega) (by omega))
   clear hb c1
   go_wp2
   refine wp_region_later (by kernel_rfl) (by kernel_rfl) ?_
   repeat (go_big_quiet_step (((go_at_call 40; refine later_call (HM.out _)))))
   refine wpQuiet_nil ?_
   intro _ hw9
   obtain ⟨nl, hw8⟩ := hw9
   subst hw8
   have HB2 := Lib.hid (HB.out.trans (nl.h.mono HB.out.size))
   clear l1
   go_wp2
   go_roundw
   case rel => exact ⟨j + 1, by omega, by go_num, by go_num, HB2.out⟩
   case measure => simp [intOf]; omega
  ·clear hb
   go_wp2
   go_ret
   obtain rfl : j = n := by omega
   exact ⟨rfl, HB.out⟩

end Go.Proofs.YtaabkeejbhdenaaGreatDoor

namespace Go.Proofs.YtaabkeejbhdenaaGreatDoor
open Go Go.RowKit

/-- The system, the sets, the code. -/
def DetIs (t : Lts) (d : Lts) (xss : List (List Int)) (code : Int) : Prop :=
 (¬ Valid t ∧ d = ⟨0, 0, [], []⟩ ∧ xss = [] ∧ code = 1) ∨ (Valid t ∧ DFull t ∧ d = ⟨0, 0, [], []⟩ ∧ xss = [] ∧ code = 5) ∨ (Valid t ∧ ∃ st, DOk t st ∧ d = dSys t st ∧ xss = st.rows ∧ code = 0)
theorem DetIs.unique {t d d' : Lts} {xss xss' : List (List Int)} {code code' : Int} (h : DetIs t d xss code) (k : DetIs t d' xss' code') : d = d' ∧ xss = xss' ∧ code = code' := by
 rcases h with ⟨h1, h2, h3, h4⟩ | ⟨h1, h2, h3, h4, h5⟩ | ⟨h1, st, h2, h3, h4, h5⟩ <;> rcases k with ⟨k1, k2, k3, k4⟩ | ⟨k1, k2, k3, k4, k5⟩ | ⟨k1, st', k2, k3, k4, k5⟩ <;>
  first
  | exact absurd k1 h1
  | exact absurd h1 k1
  | exact absurd k2 h2.not_full
  | exact absurd h2 k2.not_full
  | exact ⟨h2.trans k2.symm, h3.trans k3.symm, h4.trans k4.symm⟩
  | exact ⟨h3.trans k3.symm, h4.trans k4.symm, h5.trans k5.symm⟩
  | (have := h2.1.unique k2.1; subst this; exact ⟨h3.trans k3.symm, h4.trans k4.symm, h5.trans k5.symm⟩)
/-- Ascending numbers below n are at most n. -/
theorem asc_few : ∀ (n : Nat) (l : List Int), l.Pairwise (· < ·) → (∀ x ∈ l, 0 ≤ x ∧ x < n) → l.length ≤ n
 | n, [], _, _ => by simp
 | 0, a :: l, _, h => by have := h a (by simp); omega
 | n + 1, a :: l, hp, h => by
  have hr : ∀ (k : Int) (m : List Int), m.Pairwise (· < ·) → (∀ x ∈ m, k ≤ x) → ∀ i (hi : i < m.length), k + i ≤ m[i] := by
   intro k m
   induction m generalizing k with
   | nil => intro _ _ i hi; simp at hi
   | cons b m ih =>
    intro hp hk i hi
    rw [List.pairwise_cons] at hp
    cases i with
    | zero => simpa using hk b (by simp)
    | succ i =>
     have h1 := ih (k + 1) hp.2 (fun x hx => by have h2 := hp.1 x hx; have h3 := hk b (by simp); omega) i (by simpa using hi)
     simp only [List.getElem_cons_succ]
     omega
  have h1 := hr 0 (a :: l) hp (fun x hx => (h x hx).1) l.length (by simp)
  have h2 := h ((a :: l)[l.length]'(by simp)) (List.getElem_mem _)
  simp only [List.length_cons]
  omega
theorem total_few {n : Nat} : ∀ {l : List (List Int)}, (∀ r ∈ l, r.length ≤ n) → total l ≤ n * l.length
 | [], _ => by simp [total]
 | a :: l, h => by
  have h1 := h a (by simp)
  have h2 := total_few (l := l) (fun r hr => h r (List.mem_cons_of_mem _ hr))
  simp only [total, List.length_cons, Nat.mul_add, Nat.mul_one]
  omega
theorem DetIs.few {t d : Lts} {xss : List (List Int)} {code : Int} (h : DetIs t d xss code) : (d.labels.length ≤ 12 ∧ d.edges.length ≤ 300) ∧ total xss ≤ 1600 := by
 rcases h with ⟨-, rfl, rfl, -⟩ | ⟨-, -, rfl, rfl, -⟩ | ⟨hv, st, h, rfl, rfl, -⟩
 ·simp [total]
 ·simp [total]
 ·have hG := dok_good hv h
  refine ⟨⟨hv.labels.most, h.2.2⟩, ?_⟩
  have hs := hv.st1
  have h0 := hv.st0
  have := total_few (n := 40) (l := st.rows) (fun r hr => asc_few 40 r (hG.rows r hr).2.1 (fun x hx => by have := (hG.rows r hr).1 x hx; omega))
  have := h.2.1
  have h4 : 40 * st.rows.length ≤ 40 * 40 := Nat.mul_le_mul_left 40 this
  omega
def RetDet (t : Lts) (w : World) (e : Ending) (w' : World) : Prop :=
 Below w.heap.size w w' ∧ ∃ (d : Lts) (xss : List (List Int)) (code : Int) (lv ev v : Value) (vs : List Value), e = .returned (.tuple #[.agg #[.int .i64 d.states, .int .i64 d.initial, lv, ev], v, .int .i64 code]) ∧ DetIs t d xss code ∧ OwnLts w.heap.size w' lv ev d ∧ OwnIntss 66 2 w.heap.size w' v vs xss
theorem det_none {t : Lts} {code : Int} {w w' : World} (hb : Below w.heap.size w w') (h : DetIs t ⟨0, 0, [], []⟩ [] code) : RetDet t w (.returned (.tuple #[.agg #[.int .i64 0, .int .i64 0, .slice none 0 0, .slice none 0 0], .slice none 0 0, .int .i64 code])) w' :=
 ⟨hb, ⟨0, 0, [], []⟩, [], code, _, _, _, [], rfl, h, ⟨World.ownsRow_nil _ _ _ _, World.ownsRow_nil _ _ _ _⟩, rfl, World.ownsRow_nil _ _ _ _, (fun _ h => absurd h (Nat.not_lt_zero _)), (fun _ _ h => absurd h (Nat.not_lt_zero _)), fun _ h => absurd h (Nat.not_lt_zero _)⟩

end Go.Proofs.YtaabkeejbhdenaaGreatDoor

namespace Go.Proofs.YtaabkeejbhdenaaGreatDoor
open Go Go.RowKit

theorem susL_short {t : Lts} (h : Short20 t.labels) : Short20 (susL t) := by
 intro i hi
 rcases (susL_mem _).1 (List.getElem_mem hi) with e | e | e
 ·rw [e]; decide
 ·obtain ⟨j, hj, e2⟩ := List.mem_iff_getElem.1 e
  rw [← e2]; exact h j hj
 ·rw [e]; decide
/-- The suspended system, or why there is none. -/
def SlIs (t : Lts) (ins : List ByteArray) (d : Lts) (code : Int) : Prop :=
 (¬ IfOk t ins ∧ d = ⟨0, 0, [], []⟩ ∧ code = 1) ∨ (IfOk t ins ∧ ¬ Valid (susT t ins) ∧ d = ⟨0, 0, [], []⟩ ∧ code = 5) ∨ (IfOk t ins ∧ Valid (susT t ins) ∧ d = susT t ins ∧ code = 0)
def RetSl (t : Lts) (ins : List ByteArray) (w : World) (e : Ending) (w' : World) : Prop :=
 Below w.heap.size w w' ∧ ∃ (d : Lts) (code : Int) (lv ev : Value), e = .returned (.tuple #[.agg #[.int .i64 d.states, .int .i64 d.initial, lv, ev], .int .i64 code]) ∧ SlIs t ins d code ∧ OwnLts w.heap.size w' lv ev d
theorem sl_none {t : Lts} {ins : List ByteArray} {code : Int} {w w' : World} (hb : Below w.heap.size w w') (h : SlIs t ins ⟨0, 0, [], []⟩ code) : RetSl t ins w (.returned (.tuple #[.agg #[.int .i64 0, .int .i64 0, .slice none 0 0, .slice none 0 0], .int .i64 code])) w' :=
 ⟨hb, ⟨0, 0, [], []⟩, code, _, _, rfl, h, World.ownsRow_nil _ _ _ _, World.ownsRow_nil _ _ _ _⟩
/-- The suspension automaton, its sets, the code. -/
def SaIs (t : Lts) (ins : List ByteArray) (d : Lts) (xss : List (List Int)) (code : Int) : Prop :=
 (¬ IfOk t ins ∧ d = ⟨0, 0, [], []⟩ ∧ xss = [] ∧ code = 1) ∨ (IfOk t ins ∧ ¬ Valid (susT t ins) ∧ d = ⟨0, 0, [], []⟩ ∧ xss = [] ∧ code = 5) ∨ (IfOk t ins ∧ Valid (susT t ins) ∧ DetIs (susT t ins) d xss code)
theorem SaIs.unique {t d d' : Lts} {ins : List ByteArray} {xss xss' : List (List Int)} {code code' : Int} (h : SaIs t ins d xss code) (k : SaIs t ins d' xss' code') : d = d' ∧ xss = xss' ∧ code = code' := by
 rcases h with ⟨h1, h2, h3, h4⟩ | ⟨h1, h2, h3, h4, h5⟩ | ⟨h1, h2, h3⟩ <;> rcases k with ⟨k1, k2, k3, k4⟩ | ⟨k1, k2, k3, k4, k5⟩ | ⟨k1, k2, k3⟩ <;>
  first
  | exact absurd k1 h1
  | exact absurd h1 k1
  | exact absurd k2 h2
  | exact absurd h2 k2
  | exact ⟨h2.trans k2.symm, h3.trans k3.symm, h4.trans k4.symm⟩
  | exact ⟨h3.trans k3.symm, h4.trans k4.symm, h5.trans k5.symm⟩
  | exact h3.unique k3
theorem SaIs.few {t d : Lts} {ins : List ByteArray} {xss : List (List Int)} {code : Int} (h : SaIs t ins d xss code) : (d.labels.length ≤ 12 ∧ d.edges.length ≤ 300) ∧ total xss ≤ 1600 := by
 rcases h with ⟨-, rfl, rfl, -⟩ | ⟨-, -, rfl, rfl, -⟩ | ⟨-, -, h⟩
 ·simp [total]
 ·simp [total]
 ·exact h.few
def RetSa (t : Lts) (ins : List ByteArray) (w : World) (e : Ending) (w' : World) : Prop :=
 Below w.heap.size w w' ∧ ∃ (d : Lts) (xss : List (List Int)) (code : Int) (lv ev v : Value) (vs : List Value), e = .returned (.tuple #[.agg #[.int .i64 d.states, .int .i64 d.initial, lv, ev], v, .int .i64 code]) ∧ SaIs t ins d xss code ∧ OwnLts w.heap.size w' lv ev d ∧ OwnIntss 66 2 w.heap.size w' v vs xss
theorem sa_none {t : Lts} {ins : List ByteArray} {code : Int} {w w' : World} (hb : Below w.heap.size w w') (h : SaIs t ins ⟨0, 0, [], []⟩ [] code) : RetSa t ins w (.returned (.tuple #[.agg #[.int .i64 0, .int .i64 0, .slice none 0 0, .slice none 0 0], .slice none 0 0, .int .i64 code])) w' :=
 ⟨hb, ⟨0, 0, [], []⟩, [], code, _, _, _, [], rfl, h, ⟨World.ownsRow_nil _ _ _ _, World.ownsRow_nil _ _ _ _⟩, rfl, World.ownsRow_nil _ _ _ _, (fun _ h => absurd h (Nat.not_lt_zero _)), (fun _ _ h => absurd h (Nat.not_lt_zero _)), fun _ h => absurd h (Nat.not_lt_zero _)⟩

end Go.Proofs.YtaabkeejbhdenaaGreatDoor

namespace Go.Proofs.YtaabkeejbhdenaaGreatDoor
open Go Go.RowKit

theorem run_append_zero {P : Program} {w : World} (base : Nat) (t ty e : TypeId) (i : TypeInfo) (size : Nat) (ht : P.underlying t = some (.slice e)) (hi : P.info? e = some i) (v : Value) (n : Nat) (xs : List Value) (hown : w.ownsRow base e size v n xs) (ad : Option Addr) (c : Nat) :
  (Builtin.append_ #[t, t] ty #[v, .slice ad 0 c]).run P w = .ok v w := by
 rcases hown.2 with ⟨rfl, rfl⟩ | ⟨g, cap, cur, rfl, _, _, hnc, _⟩
 ·cases ad <;> simp [Builtin.append_, run_underlying ht, sizeOf, typeInfo, hi, Builtin.lenOf, Builtin.firstCells, loadCells, loadCellsFrom]
 ·cases ad <;> simp [Builtin.append_, run_underlying ht, sizeOf, typeInfo, hi, Builtin.lenOf, Builtin.firstCells, hnc, loadCells, loadCellsFrom, storeCells]
theorem append_zero {P : Program} {w : World} {ops : Array Oper} {rest : List Oper} {o : Oper} {a : Act} {Q : Exit → Act → World → Prop} (hgd : o.guard = none) (s x : Operand) (t : TypeId)
  (ho : o.op = .call { callee := .builtin .append, args := #[s, x], argTypes := #[t, t] })
  (base : Nat) (e : TypeId) (i : TypeInfo) (size : Nat) (ht : P.underlying t = some (.slice e)) (hi : P.info? e = some i)
  (v : Value) (n : Nat) (xs : List Value) (hs : a.eval s = v) (hown : w.ownsRow base e size v n xs) (ad : Option Addr) (c : Nat) (hx : a.eval x = .slice ad 0 c)
  (h : wpList P ops Q rest (a.put o.dst v) w) : wpList P ops Q (o :: rest) a w := by
 refine wpList_plain hgd fun K hK => ?_
 have hrun := run_append_zero (P := P) (w := w) base t o.type e i size ht hi v n xs hown ad c
 unfold Oper.wp
 simp [execOp, ho, resolve, invoke, builtin, hs, hx, hrun, Result.andThen, Oper.upon, hK _ _ h]
theorem append_edges {P : Program} {ops : Array Oper} {rest : List Oper} {o : Oper} {a : Act} {w : World} {Q : Exit → Act → World → Prop} (hgd : o.guard = none) (s x : Operand) (t : TypeId)
  (ho : o.op = .call { callee := .builtin .append, args := #[s, x], argTypes := #[t, t] })
  (base : Nat) (e : TypeId) (i : TypeInfo) (z : Value) (bytes : Nat) (ht : P.underlying t = some (.slice e)) (hi : P.info? e = some i) (hz : i.zero = some z)
  (hsize : i.size = 3) (hby : i.bytes = bytes) (hzs : z.cells.size = 3) (v : Value) (n : Nat) (xs : List Value) (hs : a.eval s = v) (hown : w.ownsRow base e 3 v n xs)
  (lo : Nat) (es : List Edge) (hsrc : SliceK 3 encE lo w (a.eval x) es) (h63 : n + es.length ≤ maxLen) (hbytes : (n + es.length) * bytes ≤ 140737488355328) (hbase : base ≤ w.heap.size)
  (h : ∀ v' w', w'.ownsRow base e 3 v' (n + es.length) (xs ++ es.flatMap encE) → w.grownBy w' v.ownBlock → wpList P ops Q rest (a.put o.dst v') w') :
  wpList P ops Q (o :: rest) a w := by
 obtain ⟨ad, c, hx, -, -, hrow⟩ := hsrc
 rcases hrow with h0 | ⟨b, off, rfl, -, hb, hc⟩
 ·have he : es = [] := List.eq_nil_of_length_eq_zero h0
  subst he
  refine append_zero hgd s x t ho base e i 3 ht hi v n xs hs hown ad c hx (h v w ?_ (grown_refl _ _))
  simpa using hown
 ·refine wpList_append_own_at w hgd s x t ho base e i z 3 bytes ht hi hz hsize hby hzs (by omega) v n xs hs hown ⟨b, off, none⟩ es.length c (es.flatMap encE) hx (flat_len es) ?_ ?_ h63 hbytes hbase (fun v' w' h1 h2 _ _ => h v' w' h1 h2)
  ·intro j u hu
   rw [Addr.add_lit]
   obtain ⟨hj, -⟩ := List.getElem?_eq_some_iff.1 hu
   rw [flat_len] at hj
   have hi3 : j / 3 < es.length := by omega
   obtain ⟨g0, g1, g2⟩ := flat_get es (j / 3) hi3
   have hr : j % 3 < 3 := Nat.mod_lt _ (by omega)
   have hcc := hc (j / 3) hi3 (j % 3) hr
   rw [show off + j / 3 * 3 + j % 3 = off + j from by omega] at hcc
   rw [hcc, ← hu]
   have ha : j = j / 3 * 3 + j % 3 := by omega
   clear hcc
   generalize j / 3 = q at *
   generalize j % 3 = r at *
   rcases (show r = 0 ∨ r = 1 ∨ r = 2 from by omega) with h | h | h <;> subst h
   ·rw [ha, Nat.add_zero, g0]; simp [encE]
   ·rw [ha, g1]; simp [encE]
   ·rw [ha, g2]; simp [encE]
  ·intro u hu
   obtain ⟨y, -, hy⟩ := List.mem_flatMap.1 hu
   simp [encE] at hy
   rcases hy with rfl | rfl | rfl <;> rfl
/-- The edges laid for the states below k. -/
def susTo (t : Lts) (ins : List ByteArray) (k : Nat) : List Edge := t.edges ++ ((upI k).filter (quietB t ins)).map fun k => ⟨k, (t.labels.length : Int), k⟩
theorem susTo_zero (t : Lts) (ins : List ByteArray) : susTo t ins 0 = t.edges := by
 unfold susTo upI; simp
theorem susTo_succ (t : Lts) (ins : List ByteArray) (k : Nat) : susTo t ins (k + 1) = if quietB t ins k then susTo t ins k ++ [⟨k, (t.labels.length : Int), k⟩] else susTo t ins k := by
 unfold susTo
 rw [upI_succ, List.filter_append]
 cases h : quietB t ins k <;> simp [h]
theorem susTo_all (t : Lts) (ins : List ByteArray) : susTo t ins t.states.toNat = susEs t ins := rfl
theorem susTo_len (t : Lts) (ins : List ByteArray) (k : Nat) : (susTo t ins k).length ≤ t.edges.length + k := by
 unfold susTo
 rw [List.length_append, List.length_map]
 have := List.length_filter_le (quietB t ins) (upI k)
 rw [upI_len] at this
 omega
theorem susEs_lab {t : Lts} (hv : Valid t) (ins : List ByteArray) : ∀ e ∈ susEs t ins, 0 ≤ e.lab ∧ e.lab < (t.labels ++ [deltaT]).length := by
 intro e he
 unfold susEs at he
 rw [List.length_append, List.length_singleton]
 rcases List.mem_append.1 he with h | h
 ·obtain ⟨i, hi, rfl⟩ := List.mem_iff_getElem.1 h
  have := hv.edge i hi
  exact ⟨this.l0, by have := this.l1; omega⟩
 ·obtain ⟨k, -, rfl⟩ := List.mem_map.1 h
  simp only
  omega
def RetSp (t : Lts) (ins : List ByteArray) (w : World) (e : Ending) (w' : World) : Prop :=
 Below w.heap.size w w' ∧ ∃ (b : Bool) (lv ev : Value), e = .returned (.tuple #[.agg #[.int .i64 t.states, .int .i64 t.initial, lv, ev], .bool b]) ∧ (b = true ↔ Valid (susT t ins)) ∧ OwnLts w.heap.size w' lv ev (susT t ins)
theorem susp_results {w : World} {b : Nat} {v0 v1 v2 v3 : Value} {tmps : Array Value} (hc : tmps.getD 4 undef = .pointer (some ⟨b, 0, none⟩)) (hb : Blk w b [v0, v1, v2, v3] 29) :
  (results Tryz.f69 tmps).run Tryz.prog w = .ok (.tuple #[.agg #[v0, v1, v2, v3], tmps.getD 5 undef]) w := by
 have h0 := hb.cell 0 rfl
 have h1 := hb.cell 1 rfl
 have h2 := hb.cell 2 rfl
 have h3 := hb.cell 3 rfl
 simp only [Array.getD_eq_getD_getElem?] at hc
 simp [results, Tryz.results69, go_sem, hc, h0, h1, h2, h3, Result.andThen]

end Go.Proofs.YtaabkeejbhdenaaGreatDoor
