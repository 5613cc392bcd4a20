/-
  What the reference's CanStay returns.
-/
import Derived.Test.YtaccfpacemhaaaaGreatDoorSpec7
import Derived.Deep.RegionHeld3
import Derived.Deep.AppendLies
namespace Go.Proofs.YtaccfpacemhaaaaGreatDoor
open Go Go.RowKit

theorem two_new (w : World) (a b : Obj) : ((w.alloc a).alloc b).heap[w.heap.size + 1]? = some b := by
  have := heap_alloc_new (w.alloc a) b
  rwa [show (w.alloc a).heap.size = w.heap.size + 1 from by simp] at this

theorem info_int64s : (Tryz.prog.info? 56).map (fun i => (i.zero, i.size, i.bytes)) = some (some (.slice none 0 0), 1, 24) := by kernel_rfl

/-- A slice of slices of numbers in memory of the call's own. -/
def MadeIntss (xss : List (List Int)) (w : World) (e : Ending) (w' : World) : Prop :=
  ∃ v vs, e = .returned v ∧ Below w.heap.size w w' ∧ OwnIntss 56 2 w.heap.size w' v vs xss

/-- The pairs among the first k places. -/
def pairsTo (P : Nat) (c : List Bool) (k : Nat) : List (List Int) := ((List.range k).filter fun i => c.getD i false).map fun (i : Nat) => [((i / P : Nat) : Int), ((i % P : Nat) : Int)]
theorem pairsTo_succ (P : Nat) (c : List Bool) (k : Nat) : pairsTo P c (k + 1) = pairsTo P c k ++ if c.getD k false then [[((k / P : Nat) : Int), ((k % P : Nat) : Int)]] else [] := by
  unfold pairsTo
  rw [List.range_succ, List.filter_append, List.map_append]
  cases h : c.getD k false
  · have : [k].filter (fun i => c.getD i false) = [] := by rw [List.filter_cons, h]; rfl
    rw [this]; rfl
  · have : [k].filter (fun i => c.getD i false) = [k] := by rw [List.filter_cons, h]; rfl
    rw [this]; rfl
theorem pairsTo_len (P : Nat) (c : List Bool) (k : Nat) : (pairsTo P c k).length ≤ k := by
  unfold pairsTo
  rw [List.length_map]
  exact Nat.le_trans (List.length_filter_le _ _) (by simp)
theorem pairsTo_all {p : Lts} {P : Nat} (hP : (P : Int) = p.states) (c : List Bool) : pairsTo P c c.length = pairsOf p c := by
  unfold pairsTo pairsOf
  rw [← hP]
  rfl

set_option maxRecDepth 100000 in
set_option maxHeartbeats 2000000 in
theorem l30Pairs_any (bp P lo lo2 : Nat) (p : Lts) (v : Value) (c : List Bool) (w : World) (hbp : bp < w.heap.size) (hq0 : w.cell? ⟨bp, 0, none⟩ = some (.int .i64 P)) (hP : 1 ≤ P) (hP2 : P ≤ 40) (hc : c.length ≤ 1600) (hv : SliceK 1 encB lo2 w v c) :
    Calls Tryz.prog 16 #[.pointer (some ⟨bp, 0, none⟩), v] w (MadeIntss (pairsTo P c c.length) w) := by
  obtain ⟨ac, cc, rfl, hcn, hcc, hrow⟩ := hv
  obtain ⟨i0, hi, hz0, hz1, hz2⟩ := info_parts info_int64s
  have HQ0 := Lib.hid hq0
  clear hq0
  go_enter Tryz.func16, Tryz.ntmps16
  go_wp2
  go_loopw [5, 6] (fun v i wr => ∃ (k : Nat) (vs : List Value), k ≤ c.length ∧ i = .int .i64 k ∧ Below w.heap.size w wr ∧ OwnIntss 56 2 w.heap.size wr v vs (pairsTo P c k)) (fun _ i _ => c.length - (intOf i).toNat)
  case atStart =>
    exact ⟨0, [], Nat.zero_le _, rfl, (Below.refl _ _).alloc (Nat.le_refl _) _, rfl, World.ownsRow_lit (size := 1) w #[] 0 (Nat.le_refl _) (by simp [maxLen]) rfl, (fun i h => by simp at h), (fun i j h => by simp at h), fun i h => by simp at h⟩
  case round =>
    obtain ⟨k, vs, hk, rfl, hb, ho⟩ := hrel
    have HB := Lib.hid hb
    have HO := Lib.hid ho
    have hsz := hb.size
    have hvl : vs.length ≤ k := by rw [ho.1]; exact pairsTo_len _ _ _
    have b0 := keeps hb hbp HQ0.out
    clear hb ho
    by_cases hlt : k < c.length
    · obtain ⟨b1, o1, rfl, -, hbs, c1⟩ := (hrow.below HB.out).one hlt
      simp only [encB, List.getElem?_cons_zero] at c1
      have hgd : c[k] = c.getD k false := by simp [List.getD, hlt]
      rw [hgd] at c1
      clear hrow hgd
      have HPS := Lib.hid (pairsTo_succ P c k)
      cases hg : c.getD k false
      · rw [hg] at c1 HPS
        clear hg
        go_wp2
        go_roundw
        case rel => exact ⟨k + 1, vs, by omega, by go_num, HB.out, by rw [HPS.out]; simpa using HO.out⟩
        case measure => simp [intOf]; omega
      · rw [hg] at c1 HPS
        clear hg
        obtain ⟨a, ha⟩ : ∃ a : Nat, a = k / P := ⟨_, rfl⟩
        obtain ⟨b, hb⟩ : ∃ b : Nat, b = k % P := ⟨_, rfl⟩
        rw [← ha, ← hb] at HPS
        have ha2 : a ≤ 1600 := by rw [ha]; exact Nat.le_trans (Nat.div_le_self _ _) (by omega)
        have hb2 : b < 40 := by rw [hb]; exact Nat.lt_of_lt_of_le (Nat.mod_lt _ (by omega)) hP2
        have hd1 : (k : Int) / (P : Int) = (a : Int) := by rw [ha]; simp
        have hd2 : (k : Int) % (P : Int) = (b : Int) := by rw [hb]; simp
        have hd3 : (k : Int).tdiv (P : Int) = (a : Int) := by rw [Int.tdiv_eq_ediv_of_nonneg (by omega)]; exact hd1
        have hd4 : (k : Int).tmod (P : Int) = (b : Int) := by rw [Int.tmod_eq_emod_of_nonneg (by omega)]; exact hd2
        have hd5 : IntKind.i64.wrap (a : Int) = (a : Int) := IntWalk.i64_in _ (by omega)
        have hd6 : IntKind.i64.wrap (b : Int) = (b : Int) := IntWalk.i64_in _ (by omega)
        have hd7 : ((P : Int) == 0) = false := by rw [beq_eq_false_iff_ne]; omega
        have hd8 : ¬ (P : Int) = 0 := by omega
        have hd9 : ¬ P = 0 := by omega
        clear ha hb
        go_wp2
        have hne : some bp ≠ u5.ownBlock := fun e => by have := (HO.out.2.1.lt bp e.symm).1; omega
        go_region_held3 (fun w' => w'.cell? ⟨bp, 0, none⟩ = some (.int .i64 P))
          (first
            | go_keep
            | (rw [hgrow.cell_far _ (by simp; omega) hne]; assumption))
          ((refine step_append_lies _ (by rfl) _ _ _ (by rfl) w.heap.size 56 i0 _ 1 24 Tryz.underlying27 hi hz0 hz1 hz2 rfl (by omega) u5 vs.length vs (by rfl) (((HO.out.2.1.alloc _).alloc _).drew)
              ⟨wr.heap.size + 1, 0, none⟩ 1 1 [.slice (some ⟨wr.heap.size, 0, none⟩) 2 2] (by rfl) (by rfl) (World.news_of_block (cs := #[.slice (some ⟨wr.heap.size, 0, none⟩) 2 2]) (t := 56) (fr := (0, 0)) (two_new _ _ _)) (by simp [Value.oneCell'])
              (by omega) (by simp [maxLen]; omega) (by omega) (by simp; omega) (wr.heap.size + 2) (by simp) ?_; intro gg cap w1 hown1 hgrow hat hlt))
        clear hd1 hd2 hd3 hd4 hd5 hd6 hd7 hd8 hd9
        have HO2 : Hid (OwnIntss 56 2 w.heap.size w1 (.slice (some ⟨gg, 0, none⟩) (vs.length + 1) cap) (vs ++ [.slice (some ⟨wr.heap.size, 0, none⟩) 2 2]) (pairsTo P c (k + 1))) := by
          rw [HPS.out]
          exact OwnIntss.push (B := wr.heap.size) (xs := [(a : Int), (b : Int)]) (by decide) HO.out (Nat.le_refl _) ((((Below.refl _ _).alloc (Nat.le_refl _) _).alloc (by simp) _).drew)
            ((((World.ownsRow_lit (size := 1) wr #[.int .i64 a, .int .i64 b] 2 (Nat.le_refl _) (by simp [maxLen]) rfl)).alloc _).drew) hsz hgrow hown1
        have HB2 : Hid (Below w.heap.size w w1) := (((HB.out.alloc hsz _).alloc (by simp; omega) _).drew).grown hgrow (by simp; omega) (fun b e => (HO.out.2.1.lt b e).1)
        clear hown1 hgrow hat HO HB
        go_wp2
        go_roundw
        case rel => exact ⟨k + 1, _, by omega, by go_num, HB2.out, HO2.out⟩
        case measure => simp [intOf]; omega
    · clear hrow
      go_wp2
      go_ret
      obtain rfl : k = c.length := by omega
      exact ⟨_, vs, rfl, HB.out, HO.out⟩

end Go.Proofs.YtaccfpacemhaaaaGreatDoor
