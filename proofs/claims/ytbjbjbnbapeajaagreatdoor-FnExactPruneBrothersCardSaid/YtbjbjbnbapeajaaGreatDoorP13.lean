/-
  The copies of the arguments that the package laws makes.
  What the functions of the laws that mark do.
  The functions of the laws that mark texts, edges, a system: what they turn.
  The texts that marks are, lists of texts and edges marked, and that the marks still stand.
  A pile of rows of the call's own, no two in one block; a slice of such rows.
  Marks in edges and in systems of the call's own, and that they still stand.
  What a size that fits says of a system's parts.
  What the joining walks of the exact laws share: copies of systems, boxes, which blocks a mark can turn.
-/
import Derived.Test.YtbjbjbnbapeajaaGreatDoorP12
import Derived.Test.YtbjbjbnbapeajaaGreatDoorP1
import Derived.Test.YtbjbjbnbapeajaaGreatDoorP7
namespace Go.Proofs.YtbjbjbnbapeajaaGreatDoor
open Go Go.RowKit

theorem info_string : (Tryz.prog.info? 9).map (fun i => (i.zero, i.size, i.bytes)) = some (some (.string ⟨#[]⟩), 1, 16) := by kernel_rfl
theorem info_edge : (Tryz.prog.info? 73).map (fun i => (i.zero, i.size, i.bytes)) = some (some (.agg #[.int .i64 0, .int .i64 0, .int .i64 0]), 3, 24) := by kernel_rfl

def MadeStrs (w : World) (ss : List ByteArray) (e : Ending) (w' : World) : Prop :=
 e = .returned (.slice (some ⟨w.heap.size, 0, none⟩) ss.length ss.length) ∧ Below w.heap.size w w' ∧ w.heap.size < w'.heap.size ∧ w'.ownsRow w.heap.size 9 1 (.slice (some ⟨w.heap.size, 0, none⟩) ss.length ss.length) ss.length (ss.map .string)

set_option maxHeartbeats 400000 in
theorem toStringS_any (v : Value) (lo : Nat) (ss : List ByteArray) (w : World) (hn : ss.length ≤ 1048576) (hv : SliceK 1 encS lo w v ss) :
  Calls Tryz.prog 21 #[v] w (MadeStrs w ss) := by
 obtain ⟨a, ca, rfl, hna, hca, ha⟩ := hv
 obtain ⟨i0, hi, hz0, hz1, hz2⟩ := info_parts info_string
 go_enter Tryz.func21, Tryz.ntmps21
 go_wp2_with (at_make; refine wpList_make_full _ rfl _ _ 22 rfl w.heap.size 9 i0 _ 1 Tryz.underlying22 hi hz0 hz1 .i64 .i64 _ _ ss.length rfl rfl rfl rfl ?_ ?_ ?_ ?_)
 ·rw [hz2]; omega
 ·simp [maxLen]; omega
 ·exact Nat.le_refl _
 ·intro w1 ho hg
  rw [toList_madeCells_one] at ho
  have hb1 : Below w.heap.size w w1 := (Below.refl _ w).grown hg (Nat.le_refl _) (fun _ h => by cases h)
  clear hi hz0 hz1 hz2 i0
  have HO := Lib.hid ho
  clear ho hg
  go_wp2
  go_loopw [4] (fun i wr => ∃ k : Nat, k ≤ ss.length ∧ i = .int .i64 k ∧ Below w.heap.size w wr ∧ wr.ownsRow w.heap.size 9 1 (.slice (some ⟨w.heap.size, 0, none⟩) ss.length ss.length) ss.length ((ss.take k).map .string ++ List.replicate (ss.length - k) (.string ⟨#[]⟩))) (fun i _ => ss.length - (intOf i).toNat)
  case atStart => exact ⟨0, Nat.zero_le _, rfl, hb1, by simpa using HO.out⟩
  case round =>
   obtain ⟨k, hk, rfl, hbl, ho⟩ := hrel
   clear HO hb1
   by_cases hlt : k < ss.length
   ·obtain ⟨b1, o1, rfl, -, h1, c1⟩ := (ha.below hbl).one hlt
    simp only [encS, List.getElem?_cons_zero] at c1
    have c2 := ho.cellAt k (by omega)
    rw [filled_get _ _ _ _ hlt] at c2
    have c3 := ho.frozenAt k
    have ho2 := ho.stored k (.string ss[k])
    rw [filled_set _ _ _ _ hlt] at ho2
    have HO := Lib.hid ho2
    clear ho ho2 ha
    go_wp2
    go_roundw
    case rel => exact ⟨k + 1, by omega, by go_num, hbl.setCell (by exact Nat.le_refl _) _, HO.out.1⟩
    case measure => simp [intOf]; omega
   ·clear ha
    go_wp2
    go_ret
    have hke : k = ss.length := by omega
    subst hke
    exact ⟨rfl, hbl, (ho.lt _ rfl).2, by simpa using ho⟩

def RetEdge (w : World) (x y z : Int) (e : Ending) (w' : World) : Prop := e = .returned (.agg #[.int .i64 x, .int .i64 y, .int .i64 z]) ∧ Below w.heap.size w w'

set_option maxHeartbeats 400000 in
theorem toEdge_any (x y z : Int) (w : World) : Calls Tryz.prog 45 #[.agg #[.int .i64 x, .int .i64 y, .int .i64 z]] w (RetEdge w x y z) := by
 go_enter Tryz.func45, Tryz.ntmps45
 go_wp2
 refine bodyPost_ret (v := .agg #[.int .i64 x, .int .i64 y, .int .i64 z]) (by simp [results, Tryz.results45, go_sem]) rfl ⟨rfl, ?_⟩
 repeat (first | exact Below.refl _ _ | refine Below.setCell ?_ (by simp) _ | refine Below.alloc ?_ (by simp; try omega) _)

def MadeEdges (w : World) (es : List Edge) (e : Ending) (w' : World) : Prop :=
 e = .returned (.slice (some ⟨w.heap.size, 0, none⟩) es.length es.length) ∧ Below w.heap.size w w' ∧ w.heap.size < w'.heap.size ∧ w'.ownsRow w.heap.size 73 3 (.slice (some ⟨w.heap.size, 0, none⟩) es.length es.length) es.length (es.flatMap encE)

set_option maxHeartbeats 1000000 in
theorem toEdgeS_any (v : Value) (lo : Nat) (es : List Edge) (w : World) (hn : es.length ≤ 1048576) (hv : SliceK 3 encE lo w v es) :
  Calls Tryz.prog 22 #[v] w (MadeEdges w es) := by
 obtain ⟨a, ca, rfl, hna, hca, ha⟩ := hv
 obtain ⟨i0, hi, hz0, hz1, hz2⟩ := info_parts info_edge
 go_enter Tryz.func22, Tryz.ntmps22
 go_wp2_with (at_make; refine wpList_make_full _ rfl _ _ 27 rfl w.heap.size 73 i0 _ 3 Tryz.underlying27 hi hz0 hz1 .i64 .i64 _ _ es.length rfl rfl rfl rfl ?_ ?_ ?_ ?_)
 ·rw [hz2]; omega
 ·simp [maxLen]; omega
 ·exact Nat.le_refl _
 ·intro w1 ho hg
  have hb1 : Below w.heap.size w w1 := (Below.refl _ w).grown hg (Nat.le_refl _) (fun _ h => by cases h)
  have ho1 : w1.ownsRow w.heap.size 73 3 (.slice (some ⟨w.heap.size, 0, none⟩) es.length es.length) es.length (List.replicate (es.length * 3) (.int .i64 0)) := by
   have : (madeCells #[.int .i64 0, .int .i64 0, .int .i64 0] (es.length * 3)).toList = List.replicate (es.length * 3) (Value.int .i64 0) := by
    apply List.ext_getElem?
    intro j
    by_cases hj : j < es.length * 3
    ·have h3 : j % 3 < 3 := Nat.mod_lt _ (by omega)
     simp only [madeCells, Array.toList_map, Array.toList_range, List.getElem?_map, List.getElem?_range hj, List.getElem?_replicate, if_pos hj, Option.map_some]
     show some (#[Value.int IntKind.i64 0, Value.int IntKind.i64 0, Value.int IntKind.i64 0][j % 3]!) = _
     generalize j % 3 = q at h3
     match q, h3 with
     | 0, _ => rfl
     | 1, _ => rfl
     | 2, _ => rfl
    ·simp [madeCells, hj]
   rw [this] at ho
   exact ho
  clear hi hz0 hz1 hz2 i0
  have HO := Lib.hid ho1
  clear ho hg ho1
  go_wp2
  go_loopw [4] (fun i wr => ∃ k : Nat, k ≤ es.length ∧ i = .int .i64 k ∧ Below w.heap.size w wr ∧ w.heap.size < wr.heap.size ∧ wr.ownsRow w.heap.size 73 3 (.slice (some ⟨w.heap.size, 0, none⟩) es.length es.length) es.length ((es.take k).flatMap encE ++ List.replicate ((es.length - k) * 3) (.int .i64 0))) (fun i _ => es.length - (intOf i).toNat)
  case atStart => exact ⟨0, Nat.zero_le _, rfl, hb1, (HO.out.lt _ rfl).2, by simpa using HO.out⟩
  case round =>
   obtain ⟨k, hk, rfl, hbl, hsz, ho⟩ := hrel
   clear HO hb1
   by_cases hlt : k < es.length
   ·obtain ⟨b1, o1, rfl, -, h1, c1, c2, c3⟩ := (ha.below hbl).edge hlt
    have HO := Lib.hid ho
    clear ho ha
    go_wp2_with fail
    refine (toEdge_any _ _ _ _).mono ?_
    rintro e w2 ⟨rfl, hb2⟩
    have ho := owns_below HO.out hb2
    clear c1 c2 c3
    have d0 := (ho.cellAt (k * 3) (by omega)).trans (filledE_get _ _ _ 0 hlt (by omega))
    have s0 := (ho.stored (k * 3) (.int .i64 es[k].src)).1
    have d1 := s0.cellAt (k * 3 + 1) (by omega)
    rw [List.getElem?_set_ne (by omega), filledE_get _ _ _ _ hlt (by omega)] at d1
    have s1 := (s0.stored (k * 3 + 1) (.int .i64 es[k].lab)).1
    have d2 := s1.cellAt (k * 3 + 2) (by omega)
    rw [List.getElem?_set_ne (by omega), List.getElem?_set_ne (by omega), filledE_get _ _ _ _ hlt (by omega)] at d2
    have g1 := ho.cellAt (k * 3 + 1) (by omega)
    rw [filledE_get _ _ _ _ hlt (by omega)] at g1
    have g2 := ho.cellAt (k * 3 + 2) (by omega)
    rw [filledE_get _ _ _ _ hlt (by omega)] at g2
    have f0 := ho.frozenAt (k * 3)
    have f3 := ho.frozenAt (k * 3 + 1)
    have f4 := ho.frozenAt (k * 3 + 2)
    have f1 := s0.frozenAt (k * 3 + 1)
    have f2 := s1.frozenAt (k * 3 + 2)
    have ho2 := (s1.stored (k * 3 + 2) (.int .i64 es[k].dst)).1
    rw [filledE_set _ _ _ hlt] at ho2
    clear s0 s1
    have HO2 := Lib.hid ho2
    have hsz2 := hb2.size
    clear ho ho2 HO
    go_wp2
    go_roundw
    case rel => exact ⟨k + 1, by omega, by go_num, (((hbl.trans (hb2.mono hbl.size)).setCell (by exact Nat.le_refl _) _).setCell (by exact Nat.le_refl _) _).setCell (by exact Nat.le_refl _) _, by simp; omega, HO2.out⟩
    case measure => simp [intOf]; omega
   ·clear ha
    go_wp2
    go_ret
    have hke : k = es.length := by omega
    subst hke
    exact ⟨rfl, hbl, (ho.lt _ rfl).2, by simpa using ho⟩

/-- A copy of a system, in memory of the call's own: its labels lie in one new block, its edges in a later one. -/
def MadeLts (w : World) (t : Lts) (e : Ending) (w' : World) : Prop :=
 ∃ b1 b2, e = .returned (.agg #[.int .i64 t.states, .int .i64 t.initial, .slice (some ⟨b1, 0, none⟩) t.labels.length t.labels.length, .slice (some ⟨b2, 0, none⟩) t.edges.length t.edges.length]) ∧ Below w.heap.size w w' ∧ w.heap.size ≤ b1 ∧ b1 < b2 ∧ b2 < w'.heap.size
  ∧ w'.ownsRow w.heap.size 9 1 (.slice (some ⟨b1, 0, none⟩) t.labels.length t.labels.length) t.labels.length (t.labels.map .string) ∧ w'.ownsRow b2 73 3 (.slice (some ⟨b2, 0, none⟩) t.edges.length t.edges.length) t.edges.length (t.edges.flatMap encE)

set_option maxHeartbeats 1000000 in
theorem toLts_any (v : Value) (lo : Nat) (t : Lts) (w : World) (hl : t.labels.length ≤ 1048576) (he : t.edges.length ≤ 1048576) (hv : LtsAt lo w v t) :
  Calls Tryz.prog 7 #[v] w (MadeLts w t) := by
 obtain ⟨lv, ev, rfl, h1, h2⟩ := hv
 have H1 := Lib.hid h1
 have H2 := Lib.hid h2
 obtain ⟨_, _, rfl, -⟩ := h1
 obtain ⟨_, _, rfl, -⟩ := h2
 have H0 : Hid (∀ o1 o2 o3, Below w.heap.size w (((w.alloc o1).alloc o2).alloc o3)) := fun _ _ _ => (((Below.refl _ _).alloc (Nat.le_refl _) _).alloc (by simp) _).alloc (by simp; omega) _
 go_enter Tryz.func7, Tryz.ntmps7
 go_wp2_with fail
 refine (toStringS_any _ _ _ _ hl (SliceK.below H1.out (H0.out _ _ _))).mono ?_
 rintro e w1 ⟨rfl, hb1, hs1, ho1⟩
 have B2 := Lib.hid ((Blk.new ((w.alloc _).alloc _) [.int .i64 t.states, .int .i64 t.initial, .slice none 0 0, .slice none 0 0] 29).below hb1)
 have B1 := Lib.hid (((Blk.new (w.alloc _) [.int .i64 0, .int .i64 0, .slice none 0 0, .slice none 0 0] 29).alloc _).below hb1)
 have B0 := Lib.hid ((((Blk.new w [.int .i64 t.states, .int .i64 t.initial, _, _] 25).alloc _).alloc _).below hb1)
 have hz := hb1.size
 simp only [World.size_alloc] at hz hs1 B1 B2 B0
 have HB1 := Lib.hid ((H0.out _ _ _).trans (hb1.mono (B' := w.heap.size) (by simp; omega)))
 have HO1 := Lib.hid ho1
 clear hb1 ho1
 have b3 := B0.out.cell 3 rfl
 have c2 := B2.out.cell 2 rfl
 have f2 := B2.out.frozen 2
 simp only [World.size_alloc] at HO1
 go_wp2_with fail
 have HB2 := Lib.hid (HB1.out.setCell (p := ⟨w.heap.size + 1 + 1, 2, none⟩) (by simp; omega) (.slice (some ⟨w.heap.size + 1 + 1 + 1, 0, none⟩) t.labels.length t.labels.length))
 refine (toEdgeS_any _ _ _ _ he (SliceK.below H2.out HB2.out)).mono ?_
 rintro e w2 ⟨rfl, hb2, hs2, ho2⟩
 have C2 := Lib.hid ((B2.out.set 2 (.slice (some ⟨w.heap.size + 1 + 1 + 1, 0, none⟩) t.labels.length t.labels.length)).below hb2)
 have C1 := Lib.hid ((B1.out.setOther ⟨w.heap.size + 1 + 1, 2, none⟩ (.slice (some ⟨w.heap.size + 1 + 1 + 1, 0, none⟩) t.labels.length t.labels.length) (by simp)).below hb2)
 have HB3 := Lib.hid (HB2.out.trans (hb2.mono (B' := w.heap.size) (by simp; omega)))
 have HO1' := Lib.hid (owns_below (owns_setOther HO1.out ⟨w.heap.size + 1 + 1, 2, none⟩ (.slice (some ⟨w.heap.size + 1 + 1 + 1, 0, none⟩) t.labels.length t.labels.length) (by simp [Value.ownBlock])) hb2)
 have HO2 := Lib.hid ho2
 simp only [World.size_setCell] at hs2 HO2
 clear hb2 ho2 c2 f2 B1 B2 HB1 HO1 b3 B0
 have d0 := C2.out.cell 0 rfl
 have d1 := C2.out.cell 1 rfl
 have d2 := C2.out.cell 2 rfl
 have d3 := C2.out.cell 3 rfl
 have f3 := C2.out.frozen 3
 have e0 := C1.out.cell 0 rfl
 have e1 := C1.out.cell 1 rfl
 have e2 := C1.out.cell 2 rfl
 have e3 := C1.out.cell 3 rfl
 have g0 := C1.out.frozen 0
 have g1 := C1.out.frozen 1
 have g2 := C1.out.frozen 2
 have g3 := C1.out.frozen 3
 simp only [World.size_setCell]
 go_wp2_with fail
 refine bodyPost_ret (v := .agg #[.int .i64 t.states, .int .i64 t.initial, .slice (some ⟨w.heap.size + 1 + 1 + 1, 0, none⟩) t.labels.length t.labels.length, .slice (some ⟨w1.heap.size, 0, none⟩) t.edges.length t.edges.length])
  (by simp [results, Tryz.results7, go_sem, e0, e1, e2, e3]) rfl ⟨w.heap.size + 1 + 1 + 1, w1.heap.size, rfl, ?_, by omega, by omega, by simp; omega, ?_, ?_⟩
 ·exact ((((HB3.out.setCell (by simp; omega) _).setCell (by simp) _).setCell (by simp) _).setCell (by simp) _).setCell (by simp) _
 ·obtain ⟨q1, ⟨q2, q3⟩ | ⟨q4, q5, q6, q7, q8, q9⟩⟩ := (owns_setOther (owns_setOther (owns_setOther (owns_setOther (owns_setOther HO1'.out ⟨w.heap.size + 1 + 1, 3, none⟩ (.slice (some ⟨w1.heap.size, 0, none⟩) t.edges.length t.edges.length) (by simp [Value.ownBlock]; try omega)) ⟨w.heap.size + 1, 0, none⟩ (.int .i64 t.states) (by simp [Value.ownBlock]; try omega)) ⟨w.heap.size + 1, 1, none⟩ (.int .i64 t.initial) (by simp [Value.ownBlock]; try omega)) ⟨w.heap.size + 1, 2, none⟩ (.slice (some ⟨w.heap.size + 1 + 1 + 1, 0, none⟩) t.labels.length t.labels.length) (by simp [Value.ownBlock]; try omega)) ⟨w.heap.size + 1, 3, none⟩ (.slice (some ⟨w1.heap.size, 0, none⟩) t.edges.length t.edges.length) (by simp [Value.ownBlock]; try omega))
  ·simp at q2
  ·exact ⟨q1, .inr ⟨q4, q5, q6, q7, by omega, q9⟩⟩
 ·exact owns_setOther (owns_setOther (owns_setOther (owns_setOther (owns_setOther HO2.out _ _ (by simp [Value.ownBlock]; try omega)) _ _ (by simp [Value.ownBlock]; try omega)) _ _ (by simp [Value.ownBlock]; try omega)) _ _ (by simp [Value.ownBlock]; try omega)) _ _ (by simp [Value.ownBlock]; try omega)

end Go.Proofs.YtbjbjbnbapeajaaGreatDoor

namespace Go.Proofs.YtbjbjbnbapeajaaGreatDoor
open Go Go.RowKit

def SomeText (w : World) (e : Ending) (w' : World) : Prop := ∃ s, e = .returned (.string s) ∧ Below w.heap.size w w'

/-- A text out of one digit's byte. -/
theorem digit_text (w : World) (n : Int) (_h0 : 0 ≤ n) :
  (convert 105 9 (.slice (some ⟨w.heap.size, 0, none⟩) 1 1)).run Tryz.prog (w.alloc (.cells #[.int .u8 (48 + n % 10)] 5)) = .ok (.string ⟨#[UInt8.ofNat (48 + n % 10).toNat]⟩) (w.alloc (.cells #[.int .u8 (48 + n % 10)] 5)) := by
 refine run_convert_bytes_back (P := Tryz.prog) _ 105 9 5 ⟨w.heap.size, 0, none⟩ 1 [UInt8.ofNat (48 + n % 10).toNat] Tryz.underlying105 Tryz.underlying5 Tryz.underlying9 ?_
 intro j hj
 obtain rfl : j = 0 := by simpa using hj
 simp [Addr.add]
 omega

set_option maxRecDepth 100000 in
set_option maxHeartbeats 400000 in
theorem markText_any (k : Int) (w : World) (h1 : 0 ≤ k) (h2 : k ≤ 1000000000) : Calls Tryz.prog 56 #[.int .i64 k] w (SomeText w) := by
 by_cases h0 : k ≤ 0
 ·go_enter Tryz.func56, Tryz.ntmps56
  go_wp2
  go_ret
  exact ⟨_, rfl, Below.refl _ _⟩
 ·go_enter Tryz.func56, Tryz.ntmps56
  go_wp2
  go_loopw [0, 3] (fun q s wr => ∃ (n : Int) (t : ByteArray), 0 ≤ n ∧ t.size + n ≤ 1000000000 ∧ q = .int .i64 n ∧ s = .string t ∧ Below w.heap.size w wr) (fun q _ _ => (intOf q).toNat)
  case atStart => exact ⟨_, _, by omega, by show ((0 : Nat) : Int) + k ≤ _; omega, rfl, rfl, Below.refl _ _⟩
  case round =>
   obtain ⟨n, t, hn, hn2, rfl, rfl, hbl⟩ := hrel
   by_cases hp : 0 < n
   ·have kc := digit_text wr n hn
    go_wp2
    go_roundw
    case rel =>
     have hz : (ByteArray.mk #[UInt8.ofNat (48 + n % 10).toNat] ++ t).size = 1 + t.size := by rw [ByteArray.size_append]; rfl
     exact ⟨_, _, by omega, by rw [hz]; omega, rfl, rfl, hbl.alloc hbl.size _⟩
    case measure => simp [intOf]; omega
   ·go_wp2
    go_ret
    exact ⟨_, rfl, hbl⟩



/-- What a function that marks a slice does: it returns the next mark, and turns no block but the slice's own. -/
def Marked (w : World) (v : Value) (r : Int) (C : World → Prop) (e : Ending) (w' : World) : Prop := e = .returned (.int .i64 r) ∧ w.grownBy w' v.ownBlock ∧ C w'
def MarkedIn (lo hi : Nat) (w : World) (r : Int) (e : Ending) (w' : World) : Prop := e = .returned (.int .i64 r) ∧ Turns lo hi w w'

end Go.Proofs.YtbjbjbnbapeajaaGreatDoor

namespace Go.Proofs.YtbjbjbnbapeajaaGreatDoor
open Go Go.RowKit

set_option maxRecDepth 100000 in
set_option maxHeartbeats 400000 in
theorem markStringS_any (lo hi b n cap : Nat) (cs : List Value) (k : Int) (w : World) (h1 : 0 ≤ k) (h2 : k + n ≤ 1000000000) (hb1 : lo ≤ b) (hb2 : b < hi) (hv : w.ownsRow lo 9 1 (.slice (some ⟨b, 0, none⟩) n cap) n cs) :
  Calls Tryz.prog 27 #[.slice (some ⟨b, 0, none⟩) n cap, .int .i64 k] w (MarkedIn lo hi w (k + n)) := by
 have HV := Lib.hid hv
 clear hv
 go_enter Tryz.func27, Tryz.ntmps27
 go_wp2
 go_loopw [1, 5] (fun q i wr => ∃ (j : Nat) (cs : List Value), j ≤ n ∧ q = .int .i64 (k + j) ∧ i = .int .i64 j ∧ Turns lo hi w wr ∧ wr.ownsRow lo 9 1 (.slice (some ⟨b, 0, none⟩) n cap) n cs) (fun _ i _ => n - (intOf i).toNat)
 case atStart => exact ⟨0, cs, Nat.zero_le _, by simp, rfl, turns_refl _ _ _, HV.out⟩
 case round =>
  obtain ⟨j, cs, hj, rfl, rfl, hg, ho⟩ := hrel
  have HG := Lib.hid hg
  have HO := Lib.hid ho
  clear hg ho HV
  by_cases hlt : j < n
  ·go_wp2_with fail
   refine (markText_any _ _ (by omega) (by omega)).mono ?_
   rintro e w1 ⟨s, rfl, hb⟩
   have ho1 := owns_below HO.out hb
   obtain ⟨xc1, c1⟩ := own_cell ho1 (j) (by omega)
   have f1 := ho1.frozenAt j
   have HO2 := Lib.hid (ho1.stored j (.string s)).1
   have HB := Lib.hid hb
   clear ho1 hb
   go_wp2
   go_roundw
   case rel => exact ⟨j + 1, _, by omega, by go_num, by go_num, turns_trans (turns_trans HG.out (turns_below HB.out)) (turns_set _ _ _ hb1 hb2), HO2.out⟩
   case measure => simp [intOf]; omega
  ·go_wp2
   go_ret
   obtain rfl : j = n := by omega
   exact ⟨rfl, HG.out⟩

set_option maxRecDepth 100000 in
set_option maxHeartbeats 1000000 in
theorem markEdgeS_any (lo hi b n cap : Nat) (cs : List Value) (k : Int) (w : World) (h1 : 0 ≤ k) (h2 : k + 3 * n ≤ 1000000000) (hb1 : lo ≤ b) (hb2 : b < hi) (hv : w.ownsRow lo 73 3 (.slice (some ⟨b, 0, none⟩) n cap) n cs) :
  Calls Tryz.prog 28 #[.slice (some ⟨b, 0, none⟩) n cap, .int .i64 k] w (MarkedIn lo hi w (k + 3 * n)) := by
 have HV := Lib.hid hv
 clear hv
 go_enter Tryz.func28, Tryz.ntmps28
 go_wp2
 go_loopw [1, 5] (fun q i wr => ∃ (j : Nat) (cs : List Value), j ≤ n ∧ q = .int .i64 (k + 3 * j) ∧ i = .int .i64 j ∧ Turns lo hi w wr ∧ wr.ownsRow lo 73 3 (.slice (some ⟨b, 0, none⟩) n cap) n cs) (fun _ i _ => n - (intOf i).toNat)
 case atStart => exact ⟨0, cs, Nat.zero_le _, by simp, rfl, turns_refl _ _ _, HV.out⟩
 case round =>
  obtain ⟨j, cs, hj, rfl, rfl, hg, ho⟩ := hrel
  have HG := Lib.hid hg
  clear hg HV
  by_cases hlt : j < n
  ·obtain ⟨xc0, c0⟩ := own_cell ho (j * 3) (by omega)
   have s0 := (ho.stored (j * 3) (.int .i64 (k + 3 * j))).1
   obtain ⟨xc1, c1⟩ := own_cell s0 (j * 3 + 1) (by omega)
   have s1 := (s0.stored (j * 3 + 1) (.int .i64 (k + 3 * j + 1))).1
   obtain ⟨xc2, c2⟩ := own_cell s1 (j * 3 + 2) (by omega)
   have HO := Lib.hid (s1.stored (j * 3 + 2) (.int .i64 (k + 3 * j + 1 + 1))).1
   obtain ⟨xg1, g1⟩ := own_cell ho (j * 3 + 1) (by omega)
   obtain ⟨xg2, g2⟩ := own_cell ho (j * 3 + 2) (by omega)
   have f0 := ho.frozenAt (j * 3)
   have f1 := ho.frozenAt (j * 3 + 1)
   have f2 := ho.frozenAt (j * 3 + 2)
   clear ho s0 s1
   go_wp2
   go_roundw
   case rel => exact ⟨j + 1, _, by omega, by go_num, by go_num, turns_trans (turns_trans (turns_trans HG.out (turns_set _ _ _ hb1 hb2)) (turns_set _ _ _ hb1 hb2)) (turns_set _ _ _ hb1 hb2), HO.out⟩
   case measure => simp [intOf]; omega
  ·go_wp2
   go_ret
   obtain rfl : j = n := by omega
   exact ⟨rfl, HG.out⟩

set_option maxHeartbeats 1000000 in
theorem markLts_any (lo hi b1 b2 n1 n2 : Nat) (x y : Int) (cs1 cs2 : List Value) (k : Int) (w : World) (h1 : 0 ≤ k) (h2 : k + n1 + 3 * n2 ≤ 1000000000) (hb1 : lo ≤ b1) (hb2 : b1 < hi) (hb3 : lo ≤ b2) (hb4 : b2 < hi) (hhi : hi ≤ w.heap.size) (hne : b1 ≠ b2)
  (hv1 : w.ownsRow lo 9 1 (.slice (some ⟨b1, 0, none⟩) n1 n1) n1 cs1) (hv2 : w.ownsRow lo 73 3 (.slice (some ⟨b2, 0, none⟩) n2 n2) n2 cs2) :
  Calls Tryz.prog 10 #[.agg #[.int .i64 x, .int .i64 y, .slice (some ⟨b1, 0, none⟩) n1 n1, .slice (some ⟨b2, 0, none⟩) n2 n2], .int .i64 k] w (MarkedIn lo hi w (k + n1 + 3 * n2)) := by
 have V1 := Lib.hid hv1
 have V2 := Lib.hid hv2
 have HN := Lib.hid hne
 clear hv1 hv2 hne
 go_enter Tryz.func10, Tryz.ntmps10
 go_wp2_with fail
 refine (markStringS_any b1 (b1 + 1) b1 n1 n1 cs1 _ _ h1 (by omega) (Nat.le_refl _) (Nat.lt_succ_self _) ?_).mono ?_
 ·have := owns_below V1.out ((Below.refl _ w).alloc (Nat.le_refl _) (.cells #[.int .i64 x, .int .i64 y, .slice (some ⟨b1, 0, none⟩) n1 n1, .slice (some ⟨b2, 0, none⟩) n2 n2] 29))
  exact own_base this
 rintro e w1 ⟨rfl, ht1⟩
 have A := Lib.hid ((Blk.new w [.int .i64 x, .int .i64 y, .slice (some ⟨b1, 0, none⟩) n1 n1, .slice (some ⟨b2, 0, none⟩) n2 n2] 29).turns ht1 (by omega))
 have c3 := A.out.cell 3 rfl
 have T1 : Hid (Turns lo hi w w1) := turns_trans (turns_below ((Below.refl _ w).alloc (Nat.le_refl _) _)) (turns_wide ht1 (by omega) (by omega))
 have W2 := Lib.hid (owns_turns (owns_below V2.out ((Below.refl _ w).alloc (Nat.le_refl _) _)) ht1 (fun b e => by simp [Value.ownBlock] at e; have := HN.out; omega))
 clear ht1
 go_wp2_with fail
 refine (markEdgeS_any lo hi b2 n2 n2 cs2 _ _ (by omega) (by omega) hb3 hb4 W2.out).mono ?_
 rintro e w2 ⟨rfl, ht2⟩
 have T2 := Lib.hid ht2
 clear ht2
 go_wp2_with fail
 go_ret
 exact ⟨rfl, turns_trans T1.out T2.out⟩

end Go.Proofs.YtbjbjbnbapeajaaGreatDoor

namespace Go.Proofs.YtbjbjbnbapeajaaGreatDoor
open Go Go.RowKit

def mdig : Nat → Int → ByteArray → ByteArray
 | 0, _, t => t
 | f + 1, n, t => if 0 < n then mdig f (n / 10) (⟨#[UInt8.ofNat (48 + n % 10).toNat]⟩ ++ t) else t
/-- The text of a mark. -/
def mtxt (k : Int) : ByteArray := if k ≤ 0 then ⟨#[109, 48]⟩ else ⟨#[109]⟩ ++ mdig 10 k ⟨#[]⟩
theorem mdig_stop (f : Nat) {n : Int} (t : ByteArray) (h : ¬ 0 < n) : mdig f n t = t := by
 cases f with
 | zero => rfl
 | succ f => rw [mdig, if_neg h]

set_option maxRecDepth 100000 in
set_option maxHeartbeats 400000 in
theorem markText_is (k : Int) (w : World) (h1 : 0 ≤ k) (h2 : k ≤ 1000000000) : Calls Tryz.prog 56 #[.int .i64 k] w fun e w' => e = .returned (.string (mtxt k)) ∧ Below w.heap.size w w' := by
 obtain ⟨R, hR⟩ : ∃ R, R = mtxt k := ⟨_, rfl⟩
 rw [← hR]
 by_cases h0 : k ≤ 0
 ·unfold mtxt at hR
  rw [if_pos h0] at hR
  subst hR
  go_enter Tryz.func56, Tryz.ntmps56
  go_wp2
  go_ret
  exact ⟨rfl, Below.refl _ _⟩
 ·unfold mtxt at hR
  rw [if_neg h0] at hR
  obtain ⟨D, hD⟩ : ∃ D, D = mdig 10 k ⟨#[]⟩ := ⟨_, rfl⟩
  rw [← hD] at hR
  have HD := Lib.hid hD
  have HR := Lib.hid hR
  clear hD hR
  go_enter Tryz.func56, Tryz.ntmps56
  go_wp2
  go_loopw [0, 3] (fun q s wr => ∃ (n : Int) (t : ByteArray) (f : Nat), 0 ≤ n ∧ t.size + n ≤ 1000000000 ∧ n < (10 : Int) ^ f ∧ mdig f n t = D ∧ q = .int .i64 n ∧ s = .string t ∧ Below w.heap.size w wr) (fun q _ _ => (intOf q).toNat)
  case atStart => exact ⟨k, ⟨#[]⟩, 10, by omega, by show ((0 : Nat) : Int) + k ≤ _; omega, by show k < 10000000000; omega, HD.out.symm, rfl, rfl, Below.refl _ _⟩
  case round =>
   obtain ⟨n, t, f, hn, hn2, hf, hd, rfl, rfl, hbl⟩ := hrel
   have HDD := Lib.hid hd
   have HF := Lib.hid hf
   clear hd hf
   by_cases hp : 0 < n
   ·have kc := digit_text wr n hn
    go_wp2
    go_roundw
    case rel =>
     have hz : (ByteArray.mk #[UInt8.ofNat (48 + n % 10).toNat] ++ t).size = 1 + t.size := by rw [ByteArray.size_append]; rfl
     have hf := HF.out
     cases f with
     | zero => exfalso; rw [Int.pow_zero] at hf; omega
     | succ f =>
      have hd := HDD.out
      rw [mdig, if_pos hp] at hd
      refine ⟨_, _, f, by omega, by rw [hz]; omega, ?_, hd, rfl, rfl, hbl.alloc hbl.size _⟩
      rw [Int.pow_succ] at hf
      omega
    case measure => simp [intOf]; omega
   ·have HE : Hid (t = D) := by have := HDD.out; rw [mdig_stop f t hp] at this; exact this
    go_wp2
    go_ret
    exact ⟨by rw [HR.out, HE.out]; rfl, hbl⟩

/-- The marks from k on, as texts. -/
def mrkS (k : Int) (n : Nat) : List ByteArray := (List.range n).map fun i => mtxt (k + (i : Nat))
def markedS (k : Int) (cs : List Value) (j : Nat) : List Value := (mrkS k j).map Value.string ++ cs.drop j
theorem mrkS_len (k : Int) (n : Nat) : (mrkS k n).length = n := by simp [mrkS]
theorem markedS_zero (k : Int) (cs : List Value) : markedS k cs 0 = cs := by simp [markedS, mrkS]
theorem markedS_all (k : Int) (cs : List Value) : markedS k cs cs.length = (mrkS k cs.length).map Value.string := by simp [markedS]
theorem markedS_get (k : Int) (cs : List Value) (j : Nat) (h : j < cs.length) : (markedS k cs j)[j]? = some cs[j] := by
 unfold markedS
 rw [List.getElem?_append_right (by simp [mrkS])]
 simp [h, mrkS]
theorem markedS_set (k : Int) (cs : List Value) (j : Nat) (h : j < cs.length) : (markedS k cs j).set j (.string (mtxt (k + (j : Nat)))) = markedS k cs (j + 1) := by
 unfold markedS mrkS
 rw [List.set_append_right _ _ (by simp), List.range_succ, List.map_append, List.map_append, List.append_assoc, List.drop_eq_getElem_cons h]
 simp only [List.length_map, List.length_range, Nat.sub_self, List.set_cons_zero, List.map_cons, List.map_nil, List.cons_append, List.nil_append]

set_option maxRecDepth 100000 in
set_option maxHeartbeats 400000 in
theorem markStringS_is (lo : Nat) (v : Value) (cs : List Value) (k : Int) (w : World) (h1 : 0 ≤ k) (h2 : k + cs.length ≤ 1000000000) (hv : w.ownsRow lo 9 1 v cs.length cs) :
  Calls Tryz.prog 27 #[v, .int .i64 k] w (Marked w v (k + cs.length) (fun w' => w'.ownsRow lo 9 1 v cs.length ((mrkS k cs.length).map Value.string))) := by
 have HV := Lib.hid hv
 rcases hv.2 with ⟨rfl, h0⟩ | ⟨b, cap, cur, rfl, -, -, hcap, hm, -⟩
 ·clear hv
  have hcs : cs = [] := List.eq_nil_of_length_eq_zero h0
  subst hcs
  go_enter Tryz.func27, Tryz.ntmps27
  go_wp2
  go_loop [1, 5] (fun q i => q = .int .i64 k ∧ i = .int .i64 0) (fun _ _ => 0)
  case atStart => exact ⟨rfl, rfl⟩
  case round =>
   obtain ⟨rfl, rfl⟩ := hrel
   go_wp2
   go_ret
   exact ⟨ret_int (by simp), grown_refl _ _, HV.out⟩
 ·clear hv
  obtain ⟨N, hN⟩ : ∃ N, N = cs.length := ⟨_, rfl⟩
  rw [← hN] at h2 hcap HV ⊢
  have HN := Lib.hid hN
  clear hN
  go_enter Tryz.func27, Tryz.ntmps27
  go_wp2
  go_loopw [1, 5] (fun q i wr => ∃ j : Nat, j ≤ N ∧ q = .int .i64 (k + j) ∧ i = .int .i64 j ∧ w.grownBy wr (some b) ∧ wr.ownsRow lo 9 1 (.slice (some ⟨b, 0, none⟩) N cap) N (markedS k cs j)) (fun _ i _ => N - (intOf i).toNat)
  case atStart => exact ⟨0, Nat.zero_le _, by simp, rfl, grown_refl _ _, by rw [markedS_zero]; exact HV.out⟩
  case round =>
   obtain ⟨j, hj, rfl, rfl, hg, ho⟩ := hrel
   have HG := Lib.hid hg
   have HO := Lib.hid ho
   clear hg ho HV
   by_cases hlt : j < N
   ·go_wp2_with fail
    refine (markText_is _ _ (by omega) (by omega)).mono ?_
    rintro e w1 ⟨rfl, hb⟩
    have hjc : j < cs.length := by rw [← HN.out]; exact hlt
    have ho1 := owns_below HO.out hb
    have c1 := ho1.cellAt j (by omega)
    rw [markedS_get _ _ _ hjc] at c1
    have f1 := ho1.frozenAt j
    have ho2 := ho1.stored j (.string (mtxt (k + j)))
    rw [markedS_set _ _ _ hjc] at ho2
    have HO2 := Lib.hid ho2
    have HB := Lib.hid (grown_below hb (some b))
    clear ho1 ho2 hb
    go_wp2
    go_roundw
    case rel => exact ⟨j + 1, by omega, by go_num, by go_num, grown_trans (grown_trans HG.out HB.out) HO2.out.2, HO2.out.1⟩
    case measure => simp [intOf]; omega
   ·go_wp2
    go_ret
    obtain rfl : j = N := by omega
    refine ⟨rfl, HG.out, ?_⟩
    have := HO.out
    rw [HN.out, markedS_all, ← HN.out] at this
    exact this

set_option maxRecDepth 100000 in
set_option maxHeartbeats 400000 in
theorem heldStringS_is (v : Value) (lo n : Nat) (k : Int) (w : World) (h1 : 0 ≤ k) (h2 : k + n ≤ 1000000000) (hv : SliceK 1 encS lo w v (mrkS k n)) :
  Calls Tryz.prog 29 #[v, .int .i64 k] w fun e w' => e = .returned (.int .i64 (k + n)) ∧ Below w.heap.size w w' := by
 obtain ⟨a, cap, rfl, hn, hcap, hr⟩ := hv
 have hl := mrkS_len k n
 rw [hl] at hn ⊢
 have HL := Lib.hid hl
 have HR := Lib.hid hr
 clear hl hr
 go_enter Tryz.func29, Tryz.ntmps29
 go_wp2
 go_loopw [1, 5] (fun q i wr => ∃ j : Nat, j ≤ n ∧ q = .int .i64 (k + j) ∧ i = .int .i64 j ∧ Below w.heap.size w wr) (fun _ i _ => n - (intOf i).toNat)
 case atStart => exact ⟨0, Nat.zero_le _, by simp, rfl, Below.refl _ _⟩
 case round =>
  obtain ⟨j, hj, rfl, rfl, hb⟩ := hrel
  have HB := Lib.hid hb
  by_cases hlt : j < n
  ·obtain ⟨b, off, rfl, -, hbl, c1⟩ := (HR.out.below hb).one (i := j) (by rw [HL.out]; exact hlt)
   simp only [encS, List.getElem?_cons_zero, mrkS, List.getElem_map, List.getElem_range] at c1
   have l1 := later_cell hbl c1
   have HM := Lib.hid (fun w' => markText_is (k + j) w' (by omega) (by omega))
   clear hb c1
   go_wp2
   refine wp_region_later (by kernel_rfl) (by kernel_rfl) ?_
   repeat (go_big_quiet_step (((go_at_call 56; refine later_call (HM.out _)))))
   refine wpQuiet_nil ?_
   intro _ hw9
   obtain ⟨nl, hw8⟩ := hw9
   subst hw8
   have HB2 := Lib.hid (HB.out.trans (nl.h.mono HB.out.size))
   clear l1
   go_wp2
   go_roundw
   case rel => exact ⟨j + 1, by omega, by go_num, by go_num, HB2.out⟩
   case measure => simp [intOf]; omega
  ·clear hb
   go_wp2
   go_ret
   obtain rfl : j = n := by omega
   exact ⟨rfl, HB.out⟩

end Go.Proofs.YtbjbjbnbapeajaaGreatDoor

namespace Go.Proofs.YtbjbjbnbapeajaaGreatDoor
open Go Go.RowKit

theorem own_type_far {w : World} {base e size n b : Nat} {v : Value} {xs : List Value} (ho : w.ownsRow base e size v n xs) {a : Array Value} {t : TypeId} {fr : Nat × Nat} (hb : w.heap[b]? = some (.cells a t fr)) (he : e ≠ t) : v.ownBlock = none ∨ v.ownBlock ≠ some b := by
 rcases ho.2 with ⟨rfl, -⟩ | ⟨g, c, u, rfl, -, hg, -⟩
 ·exact .inl rfl
 ·refine .inr fun e2 => ?_
  simp only [Value.ownBlock, Option.some.injEq] at e2
  subst e2
  rw [hg] at hb
  simp only [Option.some.injEq, Obj.cells.injEq] at hb
  exact he hb.2.1
/-- Blocks of types other than these are as they were. -/
def Only (Ts : List TypeId) (w w' : World) : Prop := ∀ (b : Nat) (a : Array Value) (T : TypeId) (fr : Nat × Nat), w.heap[b]? = some (.cells a T fr) → T ∉ Ts → w'.heap[b]? = some (.cells a T fr)
theorem Only.refl (Ts : List TypeId) (w : World) : Only Ts w w := fun _ _ _ _ h _ => h
theorem Only.trans {Ts Us : List TypeId} {a b c : World} (h : Only Ts a b) (k : Only Us b c) : Only (Ts ++ Us) a c := fun x y T fr hx hT => by
 rw [List.mem_append] at hT
 exact k x y T fr (h x y T fr hx (fun e => hT (.inl e))) (fun e => hT (.inr e))
theorem Only.step {Ts : List TypeId} {a b c : World} (h : Only Ts a b) (k : Only Ts b c) : Only Ts a c := fun x y T fr hx hT => k x y T fr (h x y T fr hx hT) hT
theorem Only.below {w w' : World} (Ts : List TypeId) (hb : Below w.heap.size w w') : Only Ts w w' := fun b _ _ _ h _ => (hb.block b (Array.getElem?_eq_some_iff.1 h).1).trans h
theorem Only.grown {base e size n : Nat} {w w' : World} {v : Value} {xs : List Value} (ho : w.ownsRow base e size v n xs) (hg : w.grownBy w' v.ownBlock) : Only [e] w w' := fun b a T fr h hT => by
 refine (hg.block b (Array.getElem?_eq_some_iff.1 h).1 ?_).trans h
 intro e2
 rcases own_type_far ho h (fun e3 => hT (by rw [e3]; simp)) with h1 | h1
 ·rw [h1] at e2; cases e2
 ·exact h1 e2.symm
theorem Only.blk {Ts : List TypeId} {w w' : World} (h : Only Ts w w') {b : Nat} {cs : List Value} {t : TypeId} (hb : Blk w b cs t) (he : t ∉ Ts) : Blk w' b cs t := h b _ _ _ hb he
theorem Only.mono {Ts Us : List TypeId} {w w' : World} (h : Only Ts w w') (hs : ∀ T ∈ Ts, T ∈ Us) : Only Us w w' := fun b a T fr hb hT => h b a T fr hb (fun e => hT (hs T e))
end Go.Proofs.YtbjbjbnbapeajaaGreatDoor

namespace Go.Proofs.YtbjbjbnbapeajaaGreatDoor
open Go Go.RowKit

def mrkE (k : Int) (n : Nat) : List Edge := (List.range n).map fun i => ⟨k + 3 * (i : Nat), k + 3 * (i : Nat) + 1, k + 3 * (i : Nat) + 1 + 1⟩
def markedE (k : Int) (cs : List Value) (j : Nat) : List Value := (mrkE k j).flatMap encE ++ cs.drop (j * 3)
theorem mrkE_len (k : Int) (n : Nat) : (mrkE k n).length = n := by simp [mrkE]
theorem flatE_len (es : List Edge) : (es.flatMap encE).length = es.length * 3 := by
 have := filledE_len es es.length (Nat.le_refl _)
 rw [List.take_length] at this
 exact this
theorem mrkE_flat (k : Int) (n : Nat) : ((mrkE k n).flatMap encE).length = n * 3 := by rw [flatE_len, mrkE_len]
theorem markedE_zero (k : Int) (cs : List Value) : markedE k cs 0 = cs := by simp [markedE, mrkE]
theorem markedE_all (k : Int) (cs : List Value) (n : Nat) (h : cs.length = n * 3) : markedE k cs n = (mrkE k n).flatMap encE := by simp [markedE, ← h]
theorem markedE_set (k : Int) (cs : List Value) (j : Nat) (h : j * 3 + 2 < cs.length) :
  (((markedE k cs j).set (j * 3) (.int .i64 (k + 3 * (j : Nat)))).set (j * 3 + 1) (.int .i64 (k + 3 * (j : Nat) + 1))).set (j * 3 + 2) (.int .i64 (k + 3 * (j : Nat) + 1 + 1)) = markedE k cs (j + 1) := by
 have hl := mrkE_flat k j
 have hm : mrkE k (j + 1) = mrkE k j ++ [⟨k + 3 * (j : Nat), k + 3 * (j : Nat) + 1, k + 3 * (j : Nat) + 1 + 1⟩] := by simp [mrkE, List.range_succ]
 unfold markedE
 rw [hm, List.flatMap_append, List.append_assoc, List.drop_eq_getElem_cons (show j * 3 < cs.length by omega), List.drop_eq_getElem_cons (show j * 3 + 1 < cs.length by omega), List.drop_eq_getElem_cons (show j * 3 + 1 + 1 < cs.length by omega)]
 rw [List.set_append_right _ _ (by omega), List.set_append_right _ _ (by omega), List.set_append_right _ _ (by omega), hl, show j * 3 - j * 3 = 0 from by omega, show j * 3 + 1 - j * 3 = 1 from by omega, show j * 3 + 2 - j * 3 = 2 from by omega,
  show (j + 1) * 3 = j * 3 + 1 + 1 + 1 from by omega]
 simp only [List.set_cons_zero, List.set_cons_succ, List.flatMap_cons, List.flatMap_nil, encE, List.append_nil, List.cons_append, List.nil_append]

set_option maxRecDepth 100000 in
set_option maxHeartbeats 1000000 in
theorem markEdgeS_is (lo : Nat) (v : Value) (n : Nat) (cs : List Value) (k : Int) (w : World) (h1 : 0 ≤ k) (h2 : k + 3 * n ≤ 1000000000) (hv : w.ownsRow lo 73 3 v n cs) :
  Calls Tryz.prog 28 #[v, .int .i64 k] w (Marked w v (k + 3 * n) (fun w' => w'.ownsRow lo 73 3 v n ((mrkE k n).flatMap encE))) := by
 have HV := Lib.hid hv
 have hcl := hv.1
 rcases hv.2 with ⟨rfl, rfl⟩ | ⟨b, cap, cur, rfl, -, -, hcap, hm, -⟩
 ·clear hv
  have hcs : cs = [] := List.eq_nil_of_length_eq_zero (by omega)
  subst hcs
  go_enter Tryz.func28, Tryz.ntmps28
  go_wp2
  go_loop [1, 5] (fun q i => q = .int .i64 k ∧ i = .int .i64 0) (fun _ _ => 0)
  case atStart => exact ⟨rfl, rfl⟩
  case round =>
   obtain ⟨rfl, rfl⟩ := hrel
   go_wp2
   go_ret
   exact ⟨ret_int (by simp), grown_refl _ _, HV.out⟩
 ·clear hv
  have HCL := Lib.hid hcl
  clear hcl
  go_enter Tryz.func28, Tryz.ntmps28
  go_wp2
  go_loopw [1, 5] (fun q i wr => ∃ j : Nat, j ≤ n ∧ q = .int .i64 (k + 3 * j) ∧ i = .int .i64 j ∧ w.grownBy wr (some b) ∧ wr.ownsRow lo 73 3 (.slice (some ⟨b, 0, none⟩) n cap) n (markedE k cs j)) (fun _ i _ => n - (intOf i).toNat)
  case atStart => exact ⟨0, Nat.zero_le _, by simp, rfl, grown_refl _ _, by rw [markedE_zero]; exact HV.out⟩
  case round =>
   obtain ⟨j, hj, rfl, rfl, hg, ho⟩ := hrel
   have HG := Lib.hid hg
   clear hg HV
   by_cases hlt : j < n
   ·obtain ⟨xc0, c0⟩ := own_cell ho (j * 3) (by omega)
    have s0 := ho.stored (j * 3) (.int .i64 (k + 3 * j))
    obtain ⟨xc1, c1⟩ := own_cell s0.1 (j * 3 + 1) (by omega)
    have s1 := s0.1.stored (j * 3 + 1) (.int .i64 (k + 3 * j + 1))
    obtain ⟨xc2, c2⟩ := own_cell s1.1 (j * 3 + 2) (by omega)
    have s2 := s1.1.stored (j * 3 + 2) (.int .i64 (k + 3 * j + 1 + 1))
    rw [markedE_set k cs j (by have := HCL.out; omega)] at s2
    have HO := Lib.hid s2.1
    have HGG := Lib.hid (grown_trans (grown_trans (grown_trans HG.out s0.2) s1.2) s2.2)
    obtain ⟨xg1, g1⟩ := own_cell ho (j * 3 + 1) (by omega)
    obtain ⟨xg2, g2⟩ := own_cell ho (j * 3 + 2) (by omega)
    have f0 := ho.frozenAt (j * 3)
    have f1 := ho.frozenAt (j * 3 + 1)
    have f2 := ho.frozenAt (j * 3 + 2)
    clear ho s0 s1 s2
    go_wp2
    go_roundw
    case rel => exact ⟨j + 1, by omega, by go_num, by go_num, HGG.out, HO.out⟩
    case measure => simp [intOf]; omega
   ·go_wp2
    go_ret
    obtain rfl : j = n := by omega
    refine ⟨rfl, HG.out, ?_⟩
    rw [markedE_all k cs j HCL.out] at ho
    exact ho

set_option maxRecDepth 100000 in
set_option maxHeartbeats 1000000 in
theorem heldEdgeS_is (v : Value) (lo n : Nat) (k : Int) (w : World) (h1 : 0 ≤ k) (h2 : k + 3 * n ≤ 1000000000) (hv : SliceK 3 encE lo w v (mrkE k n)) :
  Calls Tryz.prog 30 #[v, .int .i64 k] w fun e w' => e = .returned (.int .i64 (k + 3 * n)) ∧ w = w' := by
 obtain ⟨a, cap, rfl, hn, hcap, hr⟩ := hv
 have hl := mrkE_len k n
 rw [hl] at hn ⊢
 have HL := Lib.hid hl
 have HR := Lib.hid hr
 clear hl hr
 go_enter Tryz.func30, Tryz.ntmps30
 go_wp2
 go_loop [1, 5] (fun q i => ∃ j : Nat, j ≤ n ∧ q = .int .i64 (k + 3 * j) ∧ i = .int .i64 j) (fun _ i => n - (intOf i).toNat)
 case atStart => exact ⟨0, Nat.zero_le _, by simp, rfl⟩
 case round =>
  obtain ⟨j, hj, rfl, rfl⟩ := hrel
  by_cases hlt : j < n
  ·obtain ⟨b, off, rfl, -, -, c0, c1, c2⟩ := HR.out.edge (i := j) (by rw [HL.out]; exact hlt)
   simp only [mrkE, List.getElem_map, List.getElem_range] at c0 c1 c2
   go_wp2
   go_round
   case rel => exact ⟨j + 1, by omega, by go_num, by go_num⟩
   case measure => simp [intOf]; omega
  ·go_wp2
   go_ret
   obtain rfl : j = n := by omega
   exact ⟨rfl, rfl⟩

/-- The system whose slices hold the marks from k on. -/
def mrkL (k : Int) (t : Lts) : Lts := ⟨t.states, t.initial, mrkS k t.labels.length, mrkE (k + t.labels.length) t.edges.length⟩
def markLen (t : Lts) : Int := (t.labels.length : Int) + 3 * (t.edges.length : Int)

set_option maxHeartbeats 1000000 in
theorem markLts_is (lo : Nat) (lv ev : Value) (t : Lts) (x y : Int) (k : Int) (w : World) (h1 : 0 ≤ k) (h2 : k + markLen t ≤ 1000000000) (hlo : lo ≤ w.heap.size) (hv : OwnLts lo w lv ev t) :
  Calls Tryz.prog 10 #[.agg #[.int .i64 x, .int .i64 y, lv, ev], .int .i64 k] w fun e w' => e = .returned (.int .i64 (k + markLen t)) ∧ Below lo w w' ∧ OwnLts lo w' lv ev (mrkL k t)
   ∧ Only [9, 73] w w' := by
 unfold markLen at h2 ⊢
 obtain ⟨al, cl, rfl, -, -⟩ := owns_slice hv.1
 obtain ⟨ae, ce, rfl, -, -⟩ := owns_slice hv.2
 obtain ⟨NL, hNL⟩ : ∃ NL, NL = t.labels.length := ⟨_, rfl⟩
 obtain ⟨NE, hNE⟩ : ∃ NE, NE = t.edges.length := ⟨_, rfl⟩
 obtain ⟨W, hW⟩ : ∃ W, W = w.alloc (.cells #[.int .i64 x, .int .i64 y, .slice al t.labels.length cl, .slice ae t.edges.length ce] 29) := ⟨_, rfl⟩
 have hb0 : Below w.heap.size w W := by rw [hW]; exact (Below.refl _ w).alloc (Nat.le_refl _) _
 have A0 : Hid (Blk W w.heap.size [.int .i64 x, .int .i64 y, .slice al t.labels.length cl, .slice ae t.edges.length ce] 29) := by unfold Hid; rw [hW]; exact Blk.new w _ _
 have hs0 : lo ≤ W.heap.size := Nat.le_trans hlo hb0.size
 have V1 := Lib.hid (owns_below hv.1 hb0)
 have V2 := Lib.hid (owns_below hv.2 hb0)
 have M1 := Lib.hid (markStringS_is lo _ (t.labels.map .string) k W h1 (by rw [List.length_map]; omega) (by rw [List.length_map]; exact V1.out))
 rw [List.length_map] at M1
 have HB0 := Lib.hid hb0
 have HW := Lib.hid hW
 rw [← hNL] at M1 V1 h2 hW A0 ⊢
 rw [← hNE] at V2 h2 hW A0 ⊢
 have HW := Lib.hid hW
 have HNL := Lib.hid hNL
 have HNE := Lib.hid hNE
 clear hv hb0 hW hNL hNE
 go_enter Tryz.func10, Tryz.ntmps10
 go_wp2_with fail
 rw [← HW.out]
 refine Calls.mono M1.out ?_
 rintro e w1 ⟨rfl, hg1, ho1⟩
 have hb1 : Below lo W w1 := below_grown hg1 hs0 (fun b e => (V1.out.lt b e).1)
 have HB1 := Lib.hid ((HB0.out.mono hlo).trans hb1)
 have A1 : Hid (Blk w1 w.heap.size _ _) := (hg1.block _ A0.out.lt (by
  intro e
  have := (V1.out.lt _ e.symm).1
  rcases own_type_far V1.out A0.out (by decide) with h | h
  ·rw [h] at e; cases e
  ·exact h e.symm)).trans A0.out
 have W2 := Lib.hid (V2.out.kept hg1 (own_types V2.out V1.out (by decide)))
 have HO1 := Lib.hid ho1
 have HG1 := Lib.hid hg1
 have M2 := Lib.hid (markEdgeS_is lo (.slice ae NE ce) NE _ (k + NL) w1 (by omega) (by omega) W2.out)
 have hs1 : lo ≤ w1.heap.size := Nat.le_trans hs0 hg1.size
 have a3 := A1.out.cell 3 rfl
 clear ho1 hg1 hb1 M1
 go_wp2_with fail
 refine Calls.mono M2.out ?_
 rintro e w2 ⟨rfl, hg2, ho2⟩
 have hb2 : Below lo w1 w2 := below_grown hg2 hs1 (fun b e => (W2.out.lt b e).1)
 have HB2 := Lib.hid (HB1.out.trans hb2)
 have HO2 := Lib.hid ho2
 have HG2 := Lib.hid hg2
 clear ho2 hg2 hb2 M2
 go_wp2_with fail
 go_ret
 refine ⟨ret_int (by omega), HB2.out, ?_, ?_⟩
 ·unfold OwnLts mrkL
  rw [mrkS_len, mrkE_len, ← HNL.out, ← HNE.out]
  exact ⟨HO1.out.kept HG2.out (own_types HO1.out W2.out (by decide)), HO2.out⟩
 ·exact (((Only.below [] HB0.out).trans (Only.grown V1.out HG1.out)).trans (Only.grown W2.out HG2.out))

set_option maxHeartbeats 1000000 in
theorem heldLts_is (lo : Nat) (lv ev : Value) (t : Lts) (x y : Int) (k : Int) (w : World) (h1 : 0 ≤ k) (h2 : k + markLen t ≤ 1000000000) (hv : OwnLts lo w lv ev (mrkL k t)) :
  Calls Tryz.prog 11 #[.agg #[.int .i64 x, .int .i64 y, lv, ev], .int .i64 k] w fun e w' => e = .returned (.int .i64 (k + markLen t)) ∧ Below w.heap.size w w' := by
 unfold markLen at h2 ⊢
 unfold OwnLts mrkL at hv
 rw [mrkS_len, mrkE_len] at hv
 obtain ⟨al, cl, rfl, -, -⟩ := owns_slice hv.1
 obtain ⟨ae, ce, rfl, -, -⟩ := owns_slice hv.2
 obtain ⟨NL, hNL⟩ : ∃ NL, NL = t.labels.length := ⟨_, rfl⟩
 obtain ⟨NE, hNE⟩ : ∃ NE, NE = t.edges.length := ⟨_, rfl⟩
 rw [← hNL, ← hNE] at hv h2 ⊢
 obtain ⟨W, hW⟩ : ∃ W, W = w.alloc (.cells #[.int .i64 x, .int .i64 y, .slice al NL cl, .slice ae NE ce] 29) := ⟨_, rfl⟩
 have hb0 : Below w.heap.size w W := by rw [hW]; exact (Below.refl _ w).alloc (Nat.le_refl _) _
 have A0 : Hid (Blk W w.heap.size [.int .i64 x, .int .i64 y, .slice al NL cl, .slice ae NE ce] 29) := by unfold Hid; rw [hW]; exact Blk.new w _ _
 have V1 := Lib.hid (owns_below hv.1 hb0)
 have V2 := Lib.hid (owns_below hv.2 hb0)
 have M1 := Lib.hid (heldStringS_is (.slice al NL cl) lo NL k W h1 (by omega) (SliceK.of_owns (e := 9) encS_len (mrkS_len _ _).symm (by rw [flat_encS]; exact V1.out)))
 have HB0 := Lib.hid hb0
 have HW := Lib.hid hW
 have hs0 := hb0.size
 clear hv hb0 hW hNL hNE
 go_enter Tryz.func11, Tryz.ntmps11
 go_wp2_with fail
 rw [← HW.out]
 refine Calls.mono M1.out ?_
 rintro e w1 ⟨rfl, hb1⟩
 have HB1 := Lib.hid (HB0.out.trans (hb1.mono hs0))
 have A1 := Lib.hid (A0.out.below hb1)
 have V3 := Lib.hid (owns_below V2.out hb1)
 have M2 := Lib.hid (heldEdgeS_is (.slice ae NE ce) lo NE (k + NL) w1 (by omega) (by omega) (SliceK.of_owns (e := 73) encE_len (mrkE_len _ _).symm V3.out))
 have a3 := A1.out.cell 3 rfl
 clear hb1 M1
 go_wp2_with fail
 refine Calls.mono M2.out ?_
 rintro e w2 ⟨rfl, rfl⟩
 clear M2
 go_wp2_with fail
 go_ret
 exact ⟨ret_int (by omega), HB1.out⟩

end Go.Proofs.YtbjbjbnbapeajaaGreatDoor

namespace Go.Proofs.YtbjbjbnbapeajaaGreatDoor
open Go Go.RowKit

theorem szS_fit (ss : List ByteArray) (left : Int) (h0 : 0 ≤ left) (h : 0 ≤ szS ss left) : ∀ s ∈ ss, (s.size : Int) ≤ left := by
 induction ss generalizing left with
 | nil => intro s hs; cases hs
 | cons a r ih =>
  unfold szS at h
  split at h
  ·omega
  ·next hl =>
   intro s hs
   rcases List.mem_cons.1 hs with rfl | hs
   ·omega
   ·have := ih (left - a.size) (by omega) h s hs
    omega
theorem szL_fit {t : Lts} {left : Int} (_h0 : 0 ≤ left) (h : 0 ≤ szL t left) : (t.labels.length : Int) ≤ left ∧ (t.edges.length : Int) ≤ left ∧ (∀ s ∈ t.labels, (s.size : Int) ≤ left) ∧ szL t left ≤ left := by
 unfold szL at h ⊢
 split at h
 ·omega
 ·next h1 =>
  rw [if_neg h1]
  split at h
  ·omega
  ·next h2 =>
   rw [if_neg h2]
   have h3 : ¬ left - t.labels.length < 0 := by
    intro e
    rw [szSS_neg e] at h1
    omega
   rw [szSS_pos h3] at h1 h2 h ⊢
   have h4 := szS_lt t.labels (left - t.labels.length) (by omega)
   have h5 : ¬ szS t.labels (left - t.labels.length) - t.edges.length < 0 := by
    intro e
    rw [szN_neg e] at h2
    omega
   rw [szN_pos h5] at h ⊢
   refine ⟨by omega, by omega, fun s hs => ?_, by omega⟩
   have := szS_fit t.labels (left - t.labels.length) (by omega) (by omega) s hs
   omega

end Go.Proofs.YtbjbjbnbapeajaaGreatDoor

namespace Go.Proofs.YtbjbjbnbapeajaaGreatDoor
open Go Go.RowKit

theorem blk4 {w : World} {b : Nat} {c0 c1 c2 c3 : Value} {T : TypeId} (h : Blk w b [c0, c1, c2, c3] T) :
  w.cell? ⟨b, 0, none⟩ = some c0 ∧ w.cell? ⟨b, 1, none⟩ = some c1 ∧ w.cell? ⟨b, 2, none⟩ = some c2 ∧ w.cell? ⟨b, 3, none⟩ = some c3 :=
 ⟨h.cell 0 rfl, h.cell 1 rfl, h.cell 2 rfl, h.cell 3 rfl⟩
theorem boxNew (w : World) (a : Array Value) (T : TypeId) : Below w.heap.size w (w.alloc (.cells a T)) := (Below.refl _ _).alloc (Nat.le_refl _) _

/-- A copy of a system, with both slices in blocks of its own. -/
structure Copy (B : Nat) (t : Lts) (b1 b2 : Nat) (w : World) : Prop where
 h1 : B ≤ b1
 h2 : b1 < b2
 h3 : b2 < w.heap.size
 o1 : w.ownsRow B 9 1 (.slice (some ⟨b1, 0, none⟩) t.labels.length t.labels.length) t.labels.length (t.labels.map .string)
 o2 : w.ownsRow b2 73 3 (.slice (some ⟨b2, 0, none⟩) t.edges.length t.edges.length) t.edges.length (t.edges.flatMap encE)
theorem Copy.below {B : Nat} {t : Lts} {b1 b2 : Nat} {w w' : World} (h : Copy B t b1 b2 w) (hb : Below w.heap.size w w') : Copy B t b1 b2 w' :=
 ⟨h.h1, h.h2, Nat.lt_of_lt_of_le h.h3 hb.size, owns_below h.o1 hb, owns_below h.o2 hb⟩
theorem Copy.labels {B : Nat} {t : Lts} {b1 b2 : Nat} {w : World} (h : Copy B t b1 b2 w) : SliceK 1 encS 0 w (.slice (some ⟨b1, 0, none⟩) t.labels.length t.labels.length) t.labels :=
 SliceK.of_owns (e := 9) encS_len rfl (by rw [flat_encS]; exact own_lower h.o1 (Nat.zero_le _))
theorem Copy.edges {B : Nat} {t : Lts} {b1 b2 : Nat} {w : World} (h : Copy B t b1 b2 w) : SliceK 3 encE 0 w (.slice (some ⟨b2, 0, none⟩) t.edges.length t.edges.length) t.edges :=
 SliceK.of_owns (e := 73) encE_len rfl (own_lower h.o2 (Nat.zero_le _))
theorem Copy.at {B : Nat} {t : Lts} {b1 b2 : Nat} {w : World} (h : Copy B t b1 b2 w) : LtsAt 0 w (.agg #[.int .i64 t.states, .int .i64 t.initial, .slice (some ⟨b1, 0, none⟩) t.labels.length t.labels.length, .slice (some ⟨b2, 0, none⟩) t.edges.length t.edges.length]) t :=
 ⟨_, _, rfl, h.labels, h.edges⟩
theorem Copy.turns {B : Nat} {t : Lts} {b1 b2 lo hi : Nat} {w w' : World} (h : Copy B t b1 b2 w) (ht : Turns lo hi w w') (hB : hi ≤ B) : Copy B t b1 b2 w' :=
 ⟨h.h1, h.h2, Nat.lt_of_lt_of_le h.h3 ht.size, owns_turns h.o1 ht (fun b e => by have := (h.o1.lt b e).1; omega), owns_turns h.o2 ht (fun b e => by have := (h.o2.lt b e).1; have := h.h1; have := h.h2; omega)⟩
def CopyMade (t : Lts) (w : World) (e : Ending) (w' : World) : Prop := ∃ b1 b2, e = .returned (.agg #[.int .i64 t.states, .int .i64 t.initial, .slice (some ⟨b1, 0, none⟩) t.labels.length t.labels.length, .slice (some ⟨b2, 0, none⟩) t.edges.length t.edges.length]) ∧ Below w.heap.size w w' ∧ Copy w.heap.size t b1 b2 w'
theorem copy_any (lo : Nat) (t : Lts) (lv ev : Value) (w : World) (hl : t.labels.length ≤ 1048576) (he : t.edges.length ≤ 1048576) (h1 : SliceK 1 encS lo w lv t.labels) (h2 : SliceK 3 encE lo w ev t.edges) :
  Calls Tryz.prog 7 #[.agg #[.int .i64 t.states, .int .i64 t.initial, lv, ev]] w (CopyMade t w) :=
 (toLts_any (.agg #[.int .i64 t.states, .int .i64 t.initial, lv, ev]) lo t w hl he ⟨lv, ev, rfl, h1, h2⟩).mono fun _ _ ⟨b1, b2, he, hb, h1, h2, h3, h4, h5⟩ => ⟨b1, b2, he, hb, h1, h2, h3, h4, h5⟩

end Go.Proofs.YtbjbjbnbapeajaaGreatDoor
