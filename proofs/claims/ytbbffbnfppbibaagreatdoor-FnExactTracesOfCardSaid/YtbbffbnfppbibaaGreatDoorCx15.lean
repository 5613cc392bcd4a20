/-
  What the implementation's labelsOf and arcs compute.
-/
import Derived.Test.YtbbffbnfppbibaaGreatDoorCx4
import Derived.Test.YtbbffbnfppbibaaGreatDoorCx5
import Derived.Deep.RegionHeld3
import Derived.Deep.AppendLies
import Derived.Maps.AppendAt
namespace Go.Proofs.YtbbffbnfppbibaaGreatDoor
open Go Go.RowKit

/-- An edge with its label as a text. -/
structure Arc where
  src : Int
  lab : ByteArray
  dst : Int
def encC (a : Arc) : List Value := [.int .i64 a.src, .string a.lab, .int .i64 a.dst]
theorem encC_len (a : Arc) : (encC a).length = 3 := rfl
def arcOf (t : Lts) (e : Edge) : Arc := ⟨e.src, labAt t e, e.dst⟩
def MadeTexts (xs : List ByteArray) (w : World) (e : Ending) (w' : World) : Prop :=
  ∃ v, e = .returned v ∧ Below w.heap.size w w' ∧ w'.ownsRow w.heap.size 9 1 v xs.length (xs.map Value.string)
def MadeArcs (xs : List Arc) (w : World) (e : Ending) (w' : World) : Prop :=
  ∃ v, e = .returned v ∧ Below w.heap.size w w' ∧ w'.ownsRow w.heap.size 129 3 v xs.length (xs.flatMap encC)

theorem RowK.arc {lo : Nat} {w : World} {a : Option Addr} {xs : List Arc} (h : RowK 3 encC lo w a xs) {i : Nat} (hi : i < xs.length) :
    ∃ b off, a = some ⟨b, off, none⟩ ∧ lo ≤ b ∧ b < w.heap.size ∧ w.cell? ⟨b, off + i * 3, none⟩ = some (.int .i64 xs[i].src) ∧ w.cell? ⟨b, off + i * 3 + 1, none⟩ = some (.string xs[i].lab) ∧ w.cell? ⟨b, off + i * 3 + 2, none⟩ = some (.int .i64 xs[i].dst) := by
  rcases h with h | ⟨b, off, ha, h1, h2, h3⟩
  · omega
  · exact ⟨b, off, ha, h1, h2, by have := h3 i hi 0 (by omega); simpa [encC] using this, by have := h3 i hi 1 (by omega); simpa [encC] using this, by have := h3 i hi 2 (by omega); simpa [encC] using this⟩
theorem info_strA : (Tryz.prog.info? 9).map (fun i => (i.zero, i.size, i.bytes)) = some (some (.string ⟨#[]⟩), 1, 16) := by kernel_rfl
theorem info_arcA : (Tryz.prog.info? 129).map (fun i => (i.zero, i.size, i.bytes)) = some (some (.agg #[.int .i64 0, .string ⟨#[]⟩, .int .i64 0]), 3, 32) := by kernel_rfl
theorem arcs_take {xs : List Arc} {k : Nat} (h : k < xs.length) : ((xs.take (k + 1)).map Arc.lab) = (xs.take k).map Arc.lab ++ [xs[k].lab] := by
  rw [List.take_succ_eq_append_getElem h, List.map_append]; rfl

set_option maxRecDepth 100000 in
set_option maxHeartbeats 2000000 in
theorem labelsOf_any (lo : Nat) (v : Value) (xs : List Arc) (w : World) (hv : SliceK 3 encC lo w v xs) (hn : xs.length ≤ 1048576) : Calls Tryz.prog 98 #[v] w (MadeTexts (xs.map Arc.lab) w) := by
  obtain ⟨a, c, rfl, hc, hc2, hrow⟩ := hv
  have HR := Lib.hid hrow
  obtain ⟨i0, hi, hz0, hz1, hz2⟩ := info_parts info_strA
  obtain ⟨N, hN⟩ : ∃ N, N = xs.length := ⟨_, rfl⟩
  rw [← hN] at hc hn ⊢
  have HN := Lib.hid hN
  clear hrow hN
  go_enter Tryz.func98, Tryz.ntmps98
  go_wp2
  go_loopw [3, 8] (fun v3 v8 wr => ∃ k : Nat, k ≤ N ∧ v8 = .int .i64 k ∧ Below w.heap.size w wr ∧ wr.ownsRow w.heap.size 9 1 v3 k (((xs.take k).map Arc.lab).map .string)) (fun _ v8 _ => N - (intOf v8).toNat)
  case atStart => exact ⟨0, Nat.zero_le _, rfl, Below.refl _ _, World.ownsRow_nil _ _ _ _⟩
  case round =>
    obtain ⟨k, hk, rfl, hbl, ho⟩ := hrel
    have HBL := Lib.hid hbl
    have HO := Lib.hid ho
    have hsz := hbl.size
    by_cases hlt : k < N
    · have hkx : k < xs.length := by rw [← HN.out]; exact hlt
      obtain ⟨ba, oa, rfl, -, hba, e1, e2, e3⟩ := (HR.out.below hbl).arc hkx
      have HTK := Lib.hid (arcs_take hkx)
      obtain ⟨x, hx⟩ : ∃ x, x = xs[k] := ⟨_, rfl⟩
      rw [← hx] at e1 e2 e3 HTK
      obtain ⟨ls, hls⟩ : ∃ ls, ls = (xs.take k).map Arc.lab := ⟨_, rfl⟩
      rw [← hls] at HO HTK
      clear hbl ho hx hkx hls
      go_wp2_with (at_builtin; refine wpList_append_own_at _ rfl _ _ 22 rfl w.heap.size 9 i0 (.string ⟨#[]⟩) 1 16 Tryz.underlying22 hi hz0 hz1 hz2 rfl (by decide) _ _ _ rfl ((HO.out.alloc _).alloc _) ⟨wr.heap.size + 1, 0, none⟩ 1 1 [.string x.lab] rfl rfl ?c1 ?c2 ?c3 ?c4 ?c5 ?_)
      case c1 => have := cell_one_new (wr.alloc (.cells #[.int .i64 x.src, .string x.lab, .int .i64 x.dst] 129)) (.string x.lab) 9; simpa using this
      case c2 => intro u hu; simp at hu; subst hu; rfl
      case c3 => first | omega | (simp [maxLen]; omega)
      case c4 => first | omega | (simp; omega)
      case c5 => first | omega | (simp; omega)
      intro v5 w5 ho5 hg5 _ _
      have HB5 : Hid (Below w.heap.size w w5) := ((HBL.out.alloc hsz _).alloc (by simp; omega) _).grown hg5 (by simp; omega) (fun b e => (HO.out.lt b e).1)
      have HO5 : Hid (w5.ownsRow w.heap.size 9 1 v5 (k + 1) (((xs.take (k + 1)).map Arc.lab).map .string)) := by
        unfold Hid
        rw [HTK.out, List.map_append]
        exact ho5
      clear ho5 hg5
      go_wp2
      go_roundw
      case rel => exact ⟨k + 1, by omega, by go_num, HB5.out, HO5.out⟩
      case measure => simp [intOf]; omega
    · have hkN : k = N := by omega
      have HO2 : Hid (wr.ownsRow w.heap.size 9 1 u3 (xs.map Arc.lab).length ((xs.map Arc.lab).map .string)) := by
        have := HO.out
        rw [hkN, HN.out, List.take_length] at this
        rw [List.length_map]
        exact this
      clear hbl ho
      go_wp2
      go_ret
      exact ⟨_, rfl, HBL.out, HO2.out⟩

set_option maxRecDepth 100000 in
set_option maxHeartbeats 4000000 in
theorem arcs_any (lo : Nat) (t : Lts) (lv ev : Value) (w : World) (hok : ∀ i (h : i < t.edges.length), EdgeOk t t.edges[i]) (hn : t.edges.length ≤ 1048576) (hl : SliceK 1 encS lo w lv t.labels) (he : SliceK 3 encE lo w ev t.edges) :
    Calls Tryz.prog 81 #[.agg #[.int .i64 t.states, .int .i64 t.initial, lv, ev]] w (MadeArcs (t.edges.map (arcOf t)) w) := by
  have HOK := Lib.hid hok
  obtain ⟨al, cl, rfl, hln, hlc, hlrow⟩ := hl
  obtain ⟨ae, ce, rfl, hen, hec, herow⟩ := he
  have HLR := Lib.hid hlrow
  have HER := Lib.hid herow
  obtain ⟨i0, hi, hz0, hz1, hz2⟩ := info_parts info_arcA
  obtain ⟨wB, hwB⟩ : ∃ wB, wB = w.alloc (.cells #[.int .i64 t.states, .int .i64 t.initial, .slice al t.labels.length cl, .slice ae t.edges.length ce] 31) := ⟨_, rfl⟩
  have HB0 : Hid (Below w.heap.size w wB) := by unfold Hid; rw [hwB]; exact (Below.refl _ _).alloc (Nat.le_refl _) _
  have HX0 : Hid (Blk wB w.heap.size [.int .i64 t.states, .int .i64 t.initial, .slice al t.labels.length cl, .slice ae t.edges.length ce] 31) := by unfold Hid; rw [hwB]; exact Blk.new w _ _
  have HWB := Lib.hid hwB
  obtain ⟨bx, hbx⟩ : ∃ bx, bx = w.heap.size := ⟨_, rfl⟩
  rw [← hbx] at HX0
  have HBX := Lib.hid hbx
  obtain ⟨B, hB⟩ : ∃ B, B = wB.heap.size := ⟨_, rfl⟩
  have hbxB : bx < B := by rw [hB]; exact HX0.out.lt
  have HBB := Lib.hid hB
  obtain ⟨N, hN⟩ : ∃ N, N = t.edges.length := ⟨_, rfl⟩
  obtain ⟨L, hL⟩ : ∃ L, L = t.labels.length := ⟨_, rfl⟩
  rw [← hN] at hen hn HX0 HWB ⊢
  rw [← hL] at hln HX0 HWB ⊢
  have HN := Lib.hid hN
  have HL := Lib.hid hL
  have x3 := HX0.out.cell 3 rfl
  clear hok hlrow herow hwB hbx hB hN hL
  go_enter Tryz.func81, Tryz.ntmps81
  go_wp2_with fail
  rw [← HWB.out, ← HBX.out]
  clear x3
  go_loopw [3, 9] (fun v3 v9 wr => ∃ k : Nat, k ≤ N ∧ v9 = .int .i64 k ∧ Below B wB wr ∧ wr.ownsRow B 129 3 v3 k ((((t.edges.take k).map (arcOf t)).flatMap encC))) (fun _ v9 _ => N - (intOf v9).toNat)
  case atStart => exact ⟨0, Nat.zero_le _, rfl, Below.refl _ _, World.ownsRow_nil _ _ _ _⟩
  case round =>
    obtain ⟨k, hk, rfl, hbl, ho⟩ := hrel
    have HBL := Lib.hid hbl
    have HO := Lib.hid ho
    have hsz : B ≤ wr.heap.size := by have := hbl.size; rw [HBB.out]; exact this
    by_cases hlt : k < N
    · have hke : k < t.edges.length := by rw [← HN.out]; exact hlt
      have hbw : Below w.heap.size w wr := HB0.out.trans (hbl.mono (by rw [HBB.out]; exact HB0.out.size))
      obtain ⟨be, oe, rfl, -, hbe, e1, e2, e3⟩ := (HER.out.below hbw).edge hke
      have hek := HOK.out k hke
      obtain ⟨hll, hla⟩ := labAt_idx hek
      obtain ⟨bl, ol, rfl, -, hblw, c1⟩ := HLR.out.one hll
      simp only [encS, List.getElem?_cons_zero] at c1
      replace c1 := keeps hbw hblw c1
      have hbl2 : bl < wr.heap.size := Nat.lt_of_lt_of_le hblw hbw.size
      rw [← hla] at c1
      have hl0 : ((t.edges[k].lab.toNat : Nat) : Int) = t.edges[k].lab := by have := hek.l0; omega
      have hlL : (t.edges[k].lab.toNat : Nat) < L := by rw [HL.out]; exact hll
      have HTK : Hid (((t.edges.take (k + 1)).map (arcOf t)).flatMap encC = ((t.edges.take k).map (arcOf t)).flatMap encC ++ [.int .i64 t.edges[k].src, .string (labAt t t.edges[k]), .int .i64 t.edges[k].dst]) := by
        unfold Hid
        rw [List.take_succ_eq_append_getElem hke, List.map_append, List.flatMap_append]
        simp [encC, arcOf]
      obtain ⟨l, hl⟩ : ∃ l, l = labAt t t.edges[k] := ⟨_, rfl⟩
      rw [← hl] at c1 HTK
      obtain ⟨e, hee⟩ : ∃ e, e = t.edges[k] := ⟨_, rfl⟩
      rw [← hee] at e1 e2 e3 hl0 hlL c1 HTK
      obtain ⟨m, hm⟩ : ∃ m, m = e.lab.toNat := ⟨_, rfl⟩
      rw [← hm] at hl0 hlL c1
      rw [← hl0] at e2
      have hmL : (m : Int) < (L : Int) := by omega
      obtain ⟨fl, hfl⟩ : ∃ fl, fl = ((t.edges.take k).map (arcOf t)).flatMap encC := ⟨_, rfl⟩
      rw [← hfl] at HO HTK
      have x2 := (HX0.out.belowB hbl hbxB).cell 2 rfl
      have hbxw : bx < wr.heap.size := by omega
      obtain ⟨W1, hW1⟩ : ∃ W1, W1 = wr.alloc (.cells #[.int .i64 e.src, .int .i64 m, .int .i64 e.dst] 62) := ⟨_, rfl⟩
      have hbW : Below wr.heap.size wr W1.drew := by rw [hW1]; exact ((Below.refl _ _).alloc (Nat.le_refl _) _).drew
      have hs1 : W1.heap.size = wr.heap.size + 1 := by rw [hW1]; simp
      have hv1 : Blk W1.drew wr.heap.size [.int .i64 e.src, .int .i64 m, .int .i64 e.dst] 62 := by rw [hW1]; exact Blk.new wr _ _
      have P0 := hv1.cell 0 rfl
      have P1 := hv1.cell 1 rfl
      have P2 := hv1.cell 2 rfl
      have P3 := keeps hbW hbxw x2
      have P4 := keeps hbW hbl2 c1
      have HO1 : Hid (W1.drew.ownsRow B 129 3 u3 k fl) := owns_below HO.out hbW
      have hnew : ((W1.alloc (.cells #[.int .i64 e.src, .string l, .int .i64 e.dst] 129)).drew).heap[wr.heap.size + 1]? = some (.cells #[.int .i64 e.src, .string l, .int .i64 e.dst] 129 (0, 0)) := by
        have h1 := heap_alloc_new W1 (.cells #[.int .i64 e.src, .string l, .int .i64 e.dst] 129)
        rw [hs1] at h1
        exact h1
      have hA5 : Below W1.drew.heap.size W1.drew ((W1.alloc (.cells #[.int .i64 e.src, .string l, .int .i64 e.dst] 129)).drew) := ⟨rfl, rfl, rfl, by simp, fun k hk => Go.RowKit.Below.heap_alloc W1 _ k (by simpa using hk)⟩
      have hsd : W1.drew.heap.size = wr.heap.size + 1 := by simpa using hs1
      have R0 := keeps hA5 (by omega) P0
      have R1 := keeps hA5 (by omega) P1
      have R2 := keeps hA5 (by omega) P2
      have R3 := keeps hA5 (by omega) P3
      have R4 := keeps hA5 (by omega) P4
      have HO2 := Lib.hid (owns_below HO1.out hA5)
      have HA5 := Lib.hid hA5
      have n0 : some wr.heap.size ≠ u3.ownBlock := fun e => by have := (ho.lt _ e.symm).2; omega
      have n3 : some bx ≠ u3.ownBlock := fun e => by have := (ho.lt _ e.symm).1; omega
      have n4 : some bl ≠ u3.ownBlock := fun e => by have h1 := (ho.lt _ e.symm).1; have h2 := HB0.out.size; have h3 := HBB.out; omega
      have HW1 := Lib.hid hW1
      have HBW := Lib.hid hbW
      obtain ⟨sz, hsz1⟩ : ∃ sz, sz = wr.heap.size := ⟨_, rfl⟩
      rw [← hsz1] at P0 P1 P2 R0 R1 R2 hnew n0 hs1 hbl2 hbxw hsz
      have HSZ := Lib.hid hsz1
      clear hbl ho hbw hke hek hll hla hl hee hm hfl hW1 hbW hv1 hl0 hlL x2 c1 hsz1 hA5 hsd
      go_wp2
      rw [← HW1.out, ← HSZ.out]
      go_region_held3 (fun w' => w'.cell? ⟨sz, 0, none⟩ = some (.int .i64 e.src) ∧ w'.cell? ⟨sz, 1, none⟩ = some (.int .i64 m) ∧ w'.cell? ⟨sz, 2, none⟩ = some (.int .i64 e.dst) ∧ w'.cell? ⟨bx, 2, none⟩ = some (.slice (some ⟨bl, ol, none⟩) L cl) ∧ w'.cell? ⟨bl, ol + m, none⟩ = some (.string l))
        (first
          | (refine ⟨?_, ?_, ?_, ?_, ?_⟩ <;> assumption)
          | go_keep)
        (first
          | (refine step_append_lies _ (by rfl) _ _ _ (by rfl) B 129 i0 _ 3 32 Tryz.underlying106 hi hz0 hz1 hz2 rfl (by omega) u3 k fl (by rfl) HO2.out ⟨sz + 1, 0, none⟩ 1 1 [.int .i64 e.src, .string l, .int .i64 e.dst] (by rfl) (by rfl) (World.news_of_block (cs := #[.int .i64 e.src, .string l, .int .i64 e.dst]) (t := 129) (fr := (0, 0)) hnew) (by simp [Value.oneCell']) (by omega) (by first | omega | (simp [maxLen]; omega)) (by first | omega | (simp; omega)) (by first | omega | (simp; omega)) (sz + 2) (by first | omega | (simp; omega)) ?_; intro gg cap w5 hown5 hgrow5 hat5 hlt5; have z0 := (hgrow5.cell_far ⟨sz, 0, none⟩ (by simp; omega) n0).trans R0; have z1 := (hgrow5.cell_far ⟨sz, 1, none⟩ (by simp; omega) n0).trans R1; have z2 := (hgrow5.cell_far ⟨sz, 2, none⟩ (by simp; omega) n0).trans R2; have z3 := (hgrow5.cell_far ⟨bx, 2, none⟩ (by simp; omega) n3).trans R3; have z4 := (hgrow5.cell_far ⟨bl, ol + m, none⟩ (by simp; omega) n4).trans R4))
      all_goals (
        have hsw : B ≤ W1.drew.heap.size := by simp; omega
        have HB5 : Hid (Below B wB w5) := ((HBL.out.trans (HBW.out.mono (by rw [← HSZ.out]; exact hsz))).trans (HA5.out.mono hsw)).grown hgrow5 (by simp; omega) (fun b e => (HO2.out.lt b e).1)
        have HO5 : Hid (w5.ownsRow B 129 3 (.slice (some ⟨gg, 0, none⟩) (k + 1) cap) (k + 1) (((t.edges.take (k + 1)).map (arcOf t)).flatMap encC)) := by
          unfold Hid
          rw [HTK.out]
          exact hown5
        clear hown5 hgrow5 hat5 hlt5 z0 z1 z2 z3 z4 P0 P1 P2 P3 P4 R0 R1 R2 R3 R4 hnew
        go_wp2
        go_roundw
        case rel => exact ⟨k + 1, by omega, by go_num, HB5.out, HO5.out⟩
        case measure => simp [intOf]; omega)
    · have hkN : k = N := by omega
      have HO2 : Hid (wr.ownsRow B 129 3 u3 (t.edges.map (arcOf t)).length ((t.edges.map (arcOf t)).flatMap encC)) := by
        have := HO.out
        rw [hkN, HN.out, List.take_length] at this
        rw [List.length_map]
        exact this
      clear hbl ho
      go_wp2
      go_ret
      exact ⟨_, rfl, HB0.out.trans (HBL.out.mono (by rw [HBB.out]; exact HB0.out.size)), own_lower HO2.out (by rw [HBB.out]; exact HB0.out.size)⟩

end Go.Proofs.YtbbffbnfppbibaaGreatDoor
