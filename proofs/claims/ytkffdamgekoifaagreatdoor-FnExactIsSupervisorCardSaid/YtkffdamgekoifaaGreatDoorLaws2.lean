/-
  The copies of the arguments that the package laws makes.
-/
import Derived.Test.YtkffdamgekoifaaGreatDoorLaws1
namespace Go.Proofs.YtkffdamgekoifaaGreatDoor
open Go Go.RowKit

theorem info_string : (Tryz.prog.info? 9).map (fun i => (i.zero, i.size, i.bytes)) = some (some (.string ⟨#[]⟩), 1, 16) := by kernel_rfl
theorem info_edge : (Tryz.prog.info? 73).map (fun i => (i.zero, i.size, i.bytes)) = some (some (.agg #[.int .i64 0, .int .i64 0, .int .i64 0]), 3, 24) := by kernel_rfl

def MadeStrs (w : World) (ss : List ByteArray) (e : Ending) (w' : World) : Prop :=
  e = .returned (.slice (some ⟨w.heap.size, 0, none⟩) ss.length ss.length) ∧ Below w.heap.size w w' ∧ w.heap.size < w'.heap.size ∧ w'.ownsRow w.heap.size 9 1 (.slice (some ⟨w.heap.size, 0, none⟩) ss.length ss.length) ss.length (ss.map .string)

set_option maxHeartbeats 400000 in
theorem toStringS_any (v : Value) (lo : Nat) (ss : List ByteArray) (w : World) (hn : ss.length ≤ 1048576) (hv : SliceK 1 encS lo w v ss) :
    Calls Tryz.prog 19 #[v] w (MadeStrs w ss) := by
  obtain ⟨a, ca, rfl, hna, hca, ha⟩ := hv
  obtain ⟨i0, hi, hz0, hz1, hz2⟩ := info_parts info_string
  go_enter Tryz.func19, Tryz.ntmps19
  go_wp2_with (at_make; refine wpList_make_full _ rfl _ _ 22 rfl w.heap.size 9 i0 _ 1 Tryz.underlying22 hi hz0 hz1 .i64 .i64 _ _ ss.length rfl rfl rfl rfl ?_ ?_ ?_ ?_)
  · rw [hz2]; omega
  · simp [maxLen]; omega
  · exact Nat.le_refl _
  · intro w1 ho hg
    rw [toList_madeCells_one] at ho
    have hb1 : Below w.heap.size w w1 := (Below.refl _ w).grown hg (Nat.le_refl _) (fun _ h => by cases h)
    clear hi hz0 hz1 hz2 i0
    have HO := Lib.hid ho
    clear ho hg
    go_wp2
    go_loopw [4] (fun i wr => ∃ k : Nat, k ≤ ss.length ∧ i = .int .i64 k ∧ Below w.heap.size w wr ∧ wr.ownsRow w.heap.size 9 1 (.slice (some ⟨w.heap.size, 0, none⟩) ss.length ss.length) ss.length ((ss.take k).map .string ++ List.replicate (ss.length - k) (.string ⟨#[]⟩))) (fun i _ => ss.length - (intOf i).toNat)
    case atStart => exact ⟨0, Nat.zero_le _, rfl, hb1, by simpa using HO.out⟩
    case round =>
      obtain ⟨k, hk, rfl, hbl, ho⟩ := hrel
      clear HO hb1
      by_cases hlt : k < ss.length
      · obtain ⟨b1, o1, rfl, -, h1, c1⟩ := (ha.below hbl).one hlt
        simp only [encS, List.getElem?_cons_zero] at c1
        have c2 := ho.cellAt k (by omega)
        rw [filled_get _ _ _ _ hlt] at c2
        have c3 := ho.frozenAt k
        have ho2 := ho.stored k (.string ss[k])
        rw [filled_set _ _ _ _ hlt] at ho2
        have HO := Lib.hid ho2
        clear ho ho2 ha
        go_wp2
        go_roundw
        case rel => exact ⟨k + 1, by omega, by go_num, hbl.setCell (by exact Nat.le_refl _) _, HO.out.1⟩
        case measure => simp [intOf]; omega
      · clear ha
        go_wp2
        go_ret
        have hke : k = ss.length := by omega
        subst hke
        exact ⟨rfl, hbl, (ho.lt _ rfl).2, by simpa using ho⟩

def RetEdge (w : World) (x y z : Int) (e : Ending) (w' : World) : Prop := e = .returned (.agg #[.int .i64 x, .int .i64 y, .int .i64 z]) ∧ Below w.heap.size w w'

set_option maxHeartbeats 400000 in
theorem toEdge_any (x y z : Int) (w : World) : Calls Tryz.prog 39 #[.agg #[.int .i64 x, .int .i64 y, .int .i64 z]] w (RetEdge w x y z) := by
  go_enter Tryz.func39, Tryz.ntmps39
  go_wp2
  refine bodyPost_ret (v := .agg #[.int .i64 x, .int .i64 y, .int .i64 z]) (by simp [results, Tryz.results39, go_sem]) rfl ⟨rfl, ?_⟩
  repeat (first | exact Below.refl _ _ | refine Below.setCell ?_ (by simp) _ | refine Below.alloc ?_ (by simp; try omega) _)

def MadeEdges (w : World) (es : List Edge) (e : Ending) (w' : World) : Prop :=
  e = .returned (.slice (some ⟨w.heap.size, 0, none⟩) es.length es.length) ∧ Below w.heap.size w w' ∧ w.heap.size < w'.heap.size ∧ w'.ownsRow w.heap.size 73 3 (.slice (some ⟨w.heap.size, 0, none⟩) es.length es.length) es.length (es.flatMap encE)

set_option maxHeartbeats 1000000 in
theorem toEdgeS_any (v : Value) (lo : Nat) (es : List Edge) (w : World) (hn : es.length ≤ 1048576) (hv : SliceK 3 encE lo w v es) :
    Calls Tryz.prog 20 #[v] w (MadeEdges w es) := by
  obtain ⟨a, ca, rfl, hna, hca, ha⟩ := hv
  obtain ⟨i0, hi, hz0, hz1, hz2⟩ := info_parts info_edge
  go_enter Tryz.func20, Tryz.ntmps20
  go_wp2_with (at_make; refine wpList_make_full _ rfl _ _ 32 rfl w.heap.size 73 i0 _ 3 Tryz.underlying32 hi hz0 hz1 .i64 .i64 _ _ es.length rfl rfl rfl rfl ?_ ?_ ?_ ?_)
  · rw [hz2]; omega
  · simp [maxLen]; omega
  · exact Nat.le_refl _
  · intro w1 ho hg
    have hb1 : Below w.heap.size w w1 := (Below.refl _ w).grown hg (Nat.le_refl _) (fun _ h => by cases h)
    have ho1 : w1.ownsRow w.heap.size 73 3 (.slice (some ⟨w.heap.size, 0, none⟩) es.length es.length) es.length (List.replicate (es.length * 3) (.int .i64 0)) := by
      have : (madeCells #[.int .i64 0, .int .i64 0, .int .i64 0] (es.length * 3)).toList = List.replicate (es.length * 3) (Value.int .i64 0) := by
        apply List.ext_getElem?
        intro j
        by_cases hj : j < es.length * 3
        · have h3 : j % 3 < 3 := Nat.mod_lt _ (by omega)
          simp only [madeCells, Array.toList_map, Array.toList_range, List.getElem?_map, List.getElem?_range hj, List.getElem?_replicate, if_pos hj, Option.map_some]
          show some (#[Value.int IntKind.i64 0, Value.int IntKind.i64 0, Value.int IntKind.i64 0][j % 3]!) = _
          generalize j % 3 = q at h3
          match q, h3 with
          | 0, _ => rfl
          | 1, _ => rfl
          | 2, _ => rfl
        · simp [madeCells, hj]
      rw [this] at ho
      exact ho
    clear hi hz0 hz1 hz2 i0
    have HO := Lib.hid ho1
    clear ho hg ho1
    go_wp2
    go_loopw [4] (fun i wr => ∃ k : Nat, k ≤ es.length ∧ i = .int .i64 k ∧ Below w.heap.size w wr ∧ w.heap.size < wr.heap.size ∧ wr.ownsRow w.heap.size 73 3 (.slice (some ⟨w.heap.size, 0, none⟩) es.length es.length) es.length ((es.take k).flatMap encE ++ List.replicate ((es.length - k) * 3) (.int .i64 0))) (fun i _ => es.length - (intOf i).toNat)
    case atStart => exact ⟨0, Nat.zero_le _, rfl, hb1, (HO.out.lt _ rfl).2, by simpa using HO.out⟩
    case round =>
      obtain ⟨k, hk, rfl, hbl, hsz, ho⟩ := hrel
      clear HO hb1
      by_cases hlt : k < es.length
      · obtain ⟨b1, o1, rfl, -, h1, c1, c2, c3⟩ := (ha.below hbl).edge hlt
        have HO := Lib.hid ho
        clear ho ha
        go_wp2_with fail
        refine (toEdge_any _ _ _ _).mono ?_
        rintro e w2 ⟨rfl, hb2⟩
        have ho := owns_below HO.out hb2
        clear c1 c2 c3
        have d0 := (ho.cellAt (k * 3) (by omega)).trans (filledE_get _ _ _ 0 hlt (by omega))
        have s0 := (ho.stored (k * 3) (.int .i64 es[k].src)).1
        have d1 := s0.cellAt (k * 3 + 1) (by omega)
        rw [List.getElem?_set_ne (by omega), filledE_get _ _ _ _ hlt (by omega)] at d1
        have s1 := (s0.stored (k * 3 + 1) (.int .i64 es[k].lab)).1
        have d2 := s1.cellAt (k * 3 + 2) (by omega)
        rw [List.getElem?_set_ne (by omega), List.getElem?_set_ne (by omega), filledE_get _ _ _ _ hlt (by omega)] at d2
        have g1 := ho.cellAt (k * 3 + 1) (by omega)
        rw [filledE_get _ _ _ _ hlt (by omega)] at g1
        have g2 := ho.cellAt (k * 3 + 2) (by omega)
        rw [filledE_get _ _ _ _ hlt (by omega)] at g2
        have f0 := ho.frozenAt (k * 3)
        have f3 := ho.frozenAt (k * 3 + 1)
        have f4 := ho.frozenAt (k * 3 + 2)
        have f1 := s0.frozenAt (k * 3 + 1)
        have f2 := s1.frozenAt (k * 3 + 2)
        have ho2 := (s1.stored (k * 3 + 2) (.int .i64 es[k].dst)).1
        rw [filledE_set _ _ _ hlt] at ho2
        clear s0 s1
        have HO2 := Lib.hid ho2
        have hsz2 := hb2.size
        clear ho ho2 HO
        go_wp2
        go_roundw
        case rel => exact ⟨k + 1, by omega, by go_num, (((hbl.trans (hb2.mono hbl.size)).setCell (by exact Nat.le_refl _) _).setCell (by exact Nat.le_refl _) _).setCell (by exact Nat.le_refl _) _, by simp; omega, HO2.out⟩
        case measure => simp [intOf]; omega
      · clear ha
        go_wp2
        go_ret
        have hke : k = es.length := by omega
        subst hke
        exact ⟨rfl, hbl, (ho.lt _ rfl).2, by simpa using ho⟩

/-- A copy of a system, in memory of the call's own: its labels lie in one new block, its edges in a later one. -/
def MadeLts (w : World) (t : Lts) (e : Ending) (w' : World) : Prop :=
  ∃ b1 b2, e = .returned (.agg #[.int .i64 t.states, .int .i64 t.initial, .slice (some ⟨b1, 0, none⟩) t.labels.length t.labels.length, .slice (some ⟨b2, 0, none⟩) t.edges.length t.edges.length]) ∧ Below w.heap.size w w' ∧ w.heap.size ≤ b1 ∧ b1 < b2 ∧ b2 < w'.heap.size
    ∧ w'.ownsRow w.heap.size 9 1 (.slice (some ⟨b1, 0, none⟩) t.labels.length t.labels.length) t.labels.length (t.labels.map .string) ∧ w'.ownsRow b2 73 3 (.slice (some ⟨b2, 0, none⟩) t.edges.length t.edges.length) t.edges.length (t.edges.flatMap encE)

set_option maxHeartbeats 1000000 in
theorem toLts_any (v : Value) (lo : Nat) (t : Lts) (w : World) (hl : t.labels.length ≤ 1048576) (he : t.edges.length ≤ 1048576) (hv : LtsAt lo w v t) :
    Calls Tryz.prog 8 #[v] w (MadeLts w t) := by
  obtain ⟨lv, ev, rfl, h1, h2⟩ := hv
  have H1 := Lib.hid h1
  have H2 := Lib.hid h2
  obtain ⟨_, _, rfl, -⟩ := h1
  obtain ⟨_, _, rfl, -⟩ := h2
  have H0 : Hid (∀ o1 o2 o3, Below w.heap.size w (((w.alloc o1).alloc o2).alloc o3)) := fun _ _ _ => (((Below.refl _ _).alloc (Nat.le_refl _) _).alloc (by simp) _).alloc (by simp; omega) _
  go_enter Tryz.func8, Tryz.ntmps8
  go_wp2_with fail
  refine (toStringS_any _ _ _ _ hl (SliceK.below H1.out (H0.out _ _ _))).mono ?_
  rintro e w1 ⟨rfl, hb1, hs1, ho1⟩
  have B2 := Lib.hid ((Blk.new ((w.alloc _).alloc _) [.int .i64 t.states, .int .i64 t.initial, .slice none 0 0, .slice none 0 0] 34).below hb1)
  have B1 := Lib.hid (((Blk.new (w.alloc _) [.int .i64 0, .int .i64 0, .slice none 0 0, .slice none 0 0] 34).alloc _).below hb1)
  have B0 := Lib.hid ((((Blk.new w [.int .i64 t.states, .int .i64 t.initial, _, _] 25).alloc _).alloc _).below hb1)
  have hz := hb1.size
  simp only [World.size_alloc] at hz hs1 B1 B2 B0
  have HB1 := Lib.hid ((H0.out _ _ _).trans (hb1.mono (B' := w.heap.size) (by simp; omega)))
  have HO1 := Lib.hid ho1
  clear hb1 ho1
  have b3 := B0.out.cell 3 rfl
  have c2 := B2.out.cell 2 rfl
  have f2 := B2.out.frozen 2
  simp only [World.size_alloc] at HO1
  go_wp2_with fail
  have HB2 := Lib.hid (HB1.out.setCell (p := ⟨w.heap.size + 1 + 1, 2, none⟩) (by simp; omega) (.slice (some ⟨w.heap.size + 1 + 1 + 1, 0, none⟩) t.labels.length t.labels.length))
  refine (toEdgeS_any _ _ _ _ he (SliceK.below H2.out HB2.out)).mono ?_
  rintro e w2 ⟨rfl, hb2, hs2, ho2⟩
  have C2 := Lib.hid ((B2.out.set 2 (.slice (some ⟨w.heap.size + 1 + 1 + 1, 0, none⟩) t.labels.length t.labels.length)).below hb2)
  have C1 := Lib.hid ((B1.out.setOther ⟨w.heap.size + 1 + 1, 2, none⟩ (.slice (some ⟨w.heap.size + 1 + 1 + 1, 0, none⟩) t.labels.length t.labels.length) (by simp)).below hb2)
  have HB3 := Lib.hid (HB2.out.trans (hb2.mono (B' := w.heap.size) (by simp; omega)))
  have HO1' := Lib.hid (owns_below (owns_setOther HO1.out ⟨w.heap.size + 1 + 1, 2, none⟩ (.slice (some ⟨w.heap.size + 1 + 1 + 1, 0, none⟩) t.labels.length t.labels.length) (by simp [Value.ownBlock])) hb2)
  have HO2 := Lib.hid ho2
  simp only [World.size_setCell] at hs2 HO2
  clear hb2 ho2 c2 f2 B1 B2 HB1 HO1 b3 B0
  have d0 := C2.out.cell 0 rfl
  have d1 := C2.out.cell 1 rfl
  have d2 := C2.out.cell 2 rfl
  have d3 := C2.out.cell 3 rfl
  have f3 := C2.out.frozen 3
  have e0 := C1.out.cell 0 rfl
  have e1 := C1.out.cell 1 rfl
  have e2 := C1.out.cell 2 rfl
  have e3 := C1.out.cell 3 rfl
  have g0 := C1.out.frozen 0
  have g1 := C1.out.frozen 1
  have g2 := C1.out.frozen 2
  have g3 := C1.out.frozen 3
  simp only [World.size_setCell]
  go_wp2_with fail
  refine bodyPost_ret (v := .agg #[.int .i64 t.states, .int .i64 t.initial, .slice (some ⟨w.heap.size + 1 + 1 + 1, 0, none⟩) t.labels.length t.labels.length, .slice (some ⟨w1.heap.size, 0, none⟩) t.edges.length t.edges.length])
    (by simp [results, Tryz.results8, go_sem, e0, e1, e2, e3]) rfl ⟨w.heap.size + 1 + 1 + 1, w1.heap.size, rfl, ?_, by omega, by omega, by simp; omega, ?_, ?_⟩
  · exact ((((HB3.out.setCell (by simp; omega) _).setCell (by simp) _).setCell (by simp) _).setCell (by simp) _).setCell (by simp) _
  · obtain ⟨q1, ⟨q2, q3⟩ | ⟨q4, q5, q6, q7, q8, q9⟩⟩ := (owns_setOther (owns_setOther (owns_setOther (owns_setOther (owns_setOther HO1'.out ⟨w.heap.size + 1 + 1, 3, none⟩ (.slice (some ⟨w1.heap.size, 0, none⟩) t.edges.length t.edges.length) (by simp [Value.ownBlock]; try omega)) ⟨w.heap.size + 1, 0, none⟩ (.int .i64 t.states) (by simp [Value.ownBlock]; try omega)) ⟨w.heap.size + 1, 1, none⟩ (.int .i64 t.initial) (by simp [Value.ownBlock]; try omega)) ⟨w.heap.size + 1, 2, none⟩ (.slice (some ⟨w.heap.size + 1 + 1 + 1, 0, none⟩) t.labels.length t.labels.length) (by simp [Value.ownBlock]; try omega)) ⟨w.heap.size + 1, 3, none⟩ (.slice (some ⟨w1.heap.size, 0, none⟩) t.edges.length t.edges.length) (by simp [Value.ownBlock]; try omega))
    · simp at q2
    · exact ⟨q1, .inr ⟨q4, q5, q6, q7, by omega, q9⟩⟩
  · exact owns_setOther (owns_setOther (owns_setOther (owns_setOther (owns_setOther HO2.out _ _ (by simp [Value.ownBlock]; try omega)) _ _ (by simp [Value.ownBlock]; try omega)) _ _ (by simp [Value.ownBlock]; try omega)) _ _ (by simp [Value.ownBlock]; try omega)) _ _ (by simp [Value.ownBlock]; try omega)

end Go.Proofs.YtkffdamgekoifaaGreatDoor
