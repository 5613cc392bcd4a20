/-
  What the implementation's follow and step compute at one state of a deterministic system.
-/
import Derived.Test.YtkffdamgekoifaaGreatDoorImpl11
import Derived.Test.YtkffdamgekoifaaGreatDoorShelf
namespace Go.Proofs.YtkffdamgekoifaaGreatDoor
open Go Go.RowKit

theorem Sort_one (a : Option Addr) (n cap : Nat) (w : World) (hn : n ≤ 1) :
    Calls Tryz.prog 82 #[.slice a n cap] w fun e w' => e = .returned (.tuple #[]) ∧ w = w' := by
  have h0 : (0 : Int) ≤ (n : Int) := by omega
  have h1 : (n : Int) ≤ 18446744073709551615 := by omega
  go_enter Tryz.func82, Tryz.ntmps82
  go_wp2_with fail
  refine (Tryz.bits_Len _ _ h0 h1).mono ?_
  rintro e w' ⟨rfl, rfl⟩
  go_wp2_with fail
  refine (pdq_one _ _ _ _ hn).mono ?_
  rintro e w' ⟨rfl, rfl⟩
  go_wp2_with fail
  go_end0
  exact ⟨rfl, rfl⟩

theorem info_int64x : (Tryz.prog.info? 2).map (fun i => (i.zero, i.size, i.bytes)) = some (some (.int .i64 0), 1, 8) := by kernel_rfl

theorem hit_take {p : Lts} {q : Int} {l : ByteArray} {k : Nat} (h : k < p.edges.length) (g : hitB p q l p.edges[k] = true) :
    ((p.edges.take (k + 1)).filter (hitB p q l)).map Edge.dst = ((p.edges.take k).filter (hitB p q l)).map Edge.dst ++ [p.edges[k].dst] := by
  rw [List.take_succ_eq_append_getElem h, List.filter_append, List.map_append]
  simp [g]
theorem miss_take {p : Lts} {q : Int} {l : ByteArray} {k : Nat} (h : k < p.edges.length) (g : hitB p q l p.edges[k] = false) :
    ((p.edges.take (k + 1)).filter (hitB p q l)).map Edge.dst = ((p.edges.take k).filter (hitB p q l)).map Edge.dst := by
  rw [List.take_succ_eq_append_getElem h, List.filter_append, List.map_append]
  simp [g]

set_option maxRecDepth 100000 in
set_option maxHeartbeats 2000000 in
theorem follow_one (lo lo2 : Nat) (p : Lts) (lv ev sv : Value) (q : Int) (l : ByteArray) (w : World) (hvp : Valid p) (hsp : Single p) (hl : SliceK 1 encS lo w lv p.labels) (he : SliceK 3 encE lo w ev p.edges) (hs : SliceK 1 encI lo2 w sv [q]) :
    Calls Tryz.prog 75 #[.agg #[.int .i64 p.states, .int .i64 p.initial, lv, ev], sv, .string l] w (MadeNums (behind p q l) w) := by
  have HS := Lib.hid hs
  have hone := behind_one hvp hsp q l
  have HE := Lib.hid hvp.edge
  have hmost := hvp.most
  clear hs hvp hsp
  obtain ⟨al, cl, rfl, hln, hlc, hlr⟩ := hl
  obtain ⟨ae, ce, rfl, hen, hec, hrow⟩ := he
  have HLR := Lib.hid hlr
  have HER := Lib.hid hrow
  clear hlr hrow
  obtain ⟨i0, hi, hz0, hz1, hz2⟩ := info_parts info_int64x
  have HB0 : Hid (Below w.heap.size w (w.alloc (.cells #[.int .i64 p.states, .int .i64 p.initial, .slice al p.labels.length cl, .slice ae p.edges.length ce] 34))) := (Below.refl _ _).alloc (Nat.le_refl _) _
  have HQ2 : Hid ((w.alloc (.cells #[.int .i64 p.states, .int .i64 p.initial, .slice al p.labels.length cl, .slice ae p.edges.length ce] 34)).cell? ⟨w.heap.size, 2, none⟩ = some (.slice al p.labels.length cl)) := by unfold Hid; simp
  obtain ⟨wB, hwB⟩ : ∃ wB, wB = w.alloc (.cells #[.int .i64 p.states, .int .i64 p.initial, .slice al p.labels.length cl, .slice ae p.edges.length ce] 34) := ⟨_, rfl⟩
  have hwz : wB.heap.size = w.heap.size + 1 := by rw [hwB]; simp
  rw [← hwB] at HB0 HQ2
  have HWB := Lib.hid hwB
  clear hwB
  go_enter Tryz.func75, Tryz.ntmps75
  go_wp2_with fail
  rw [← HWB.out]
  clear HWB
  go_loopw [7, 13] (fun v i wr => ∃ k : Nat, k ≤ p.edges.length ∧ i = .int .i64 k ∧ Below wB.heap.size wB wr ∧ wr.ownsRow wB.heap.size 2 1 v (((p.edges.take k).filter (hitB p q l)).map Edge.dst).length ((((p.edges.take k).filter (hitB p q l)).map Edge.dst).map (Value.int .i64))) (fun _ i _ => p.edges.length - (intOf i).toNat)
  case atStart => exact ⟨0, Nat.zero_le _, rfl, Below.refl _ _, World.ownsRow_nil _ _ _ _⟩
  case round =>
    obtain ⟨k, hk, rfl, hbl, ho⟩ := hrel
    have HBL := Lib.hid hbl
    have HO := Lib.hid ho
    have hsz := hbl.size
    have q2 := keeps hbl (by omega) HQ2.out
    have hwr : w.heap.size < wr.heap.size := by omega
    have hfl : (((p.edges.take k).filter (hitB p q l)).map Edge.dst).length ≤ k := by rw [List.length_map]; exact Nat.le_trans (List.length_filter_le _ _) (List.length_take_le _ _)
    clear hbl ho
    by_cases hlt : k < p.edges.length
    · have hbr := HB0.out.trans (HBL.out.mono HB0.out.size)
      obtain ⟨be, oe, rfl, -, hbe, e1, e2, e3⟩ := (HER.out.below hbr).edge hlt
      have hek := HE.out k hlt
      obtain ⟨hll, hla⟩ := labAt_idx hek
      obtain ⟨bl, ol, rfl, -, hbl2, c1⟩ := (HLR.out.below hbr).one hll
      simp only [encS, List.getElem?_cons_zero] at c1
      rw [← hla] at c1
      have hl0 : ((p.edges[k].lab.toNat : Nat) : Int) = p.edges[k].lab := by have := hek.l0; omega
      have hl1 := hek.l1
      have hl2 := hek.l0
      obtain ⟨e, hee⟩ : ∃ e, e = p.edges[k] := ⟨_, rfl⟩
      obtain ⟨m, hm⟩ : ∃ m, m = p.edges[k].lab.toNat := ⟨_, rfl⟩
      rw [← hm] at c1 hl0 hll
      rw [← hee] at e1 e2 e3 c1 hl0 hl1 hl2
      have HEE := Lib.hid hee
      rw [← hl0] at e2
      have HBA : Hid (Below wB.heap.size wB (wr.alloc (.cells #[.int .i64 e.src, .int .i64 m, .int .i64 e.dst] 73))) := HBL.out.alloc hsz _
      have HSA : Hid (SliceK 1 encI lo2 (wr.alloc (.cells #[.int .i64 e.src, .int .i64 m, .int .i64 e.dst] 73)) sv [q]) := HS.out.below (hbr.alloc hbr.size _)
      have HOA : Hid ((wr.alloc (.cells #[.int .i64 e.src, .int .i64 m, .int .i64 e.dst] 73)).ownsRow wB.heap.size 2 1 u7 (((p.edges.take k).filter (hitB p q l)).map Edge.dst).length ((((p.edges.take k).filter (hitB p q l)).map Edge.dst).map (Value.int .i64))) := HO.out.alloc _
      have hml : (m : Int) < (p.labels.length : Int) := by omega
      clear hl0 hl1 hl2 hek hbr hla
      cases g1 : ((labAt p e).toList == l.toList)
      · have HG : Hid (hitB p q l p.edges[k] = false) := by unfold Hid hitB; rw [← hee, g1, Bool.and_false]
        clear hee hm
        go_wp2_with fail
        go_roundw
        case rel => exact ⟨k + 1, by omega, by go_num, HBA.out, by rw [miss_take hlt HG.out]; exact HOA.out⟩
        case measure => simp [intOf]; omega
      · cases g2 : (q == e.src)
        · have HG : Hid (hitB p q l p.edges[k] = false) := by
            unfold Hid hitB
            rw [← hee]
            have : (e.src == q) = false := by rw [beq_eq_false_iff_ne] at g2 ⊢; exact fun h => g2 h.symm
            rw [this, Bool.false_and]
          have HG2 : Hid (([q].any fun y => y == e.src) = false) := by unfold Hid; simp [g2]
          clear hee hm g2
          go_wp2_with fail
          refine (Contains_ints lo2 _ _ [q] _ HSA.out).mono ?_
          rintro e' w' ⟨rfl, rfl⟩
          rw [HG2.out]
          go_wp2_with fail
          go_roundw
          case rel => exact ⟨k + 1, by omega, by go_num, HBA.out, by rw [miss_take hlt HG.out]; exact HOA.out⟩
          case measure => simp [intOf]; omega
        · have HG : Hid (hitB p q l p.edges[k] = true) := by
            unfold Hid hitB
            rw [← hee]
            have : (e.src == q) = true := by rw [beq_iff_eq] at g2 ⊢; exact g2.symm
            rw [this, g1]; rfl
          have HG2 : Hid (([q].any fun y => y == e.src) = true) := by unfold Hid; simp [g2]
          have HD : Hid (p.edges[k].dst = e.dst) := by unfold Hid; rw [← hee]
          clear hee hm g2
          have hfz := hfl
          generalize hfs : ((p.edges.take k).filter (hitB p q l)).map Edge.dst = fs at *
          have HFS := Lib.hid hfs
          clear hfs
          go_wp2_with fail
          refine (Contains_ints lo2 _ _ [q] _ HSA.out).mono ?_
          rintro e' w' ⟨rfl, rfl⟩
          rw [HG2.out]
          go_wp2_with (at_builtin; refine wpList_append_own _ rfl _ _ 26 rfl wB.heap.size 2 i0 (.int .i64 0) 1 8 Tryz.underlying26 hi hz0 hz1 hz2 rfl (by decide) _ _ _ rfl (HOA.out.alloc _) ⟨wr.heap.size + 1, 0, none⟩ 1 1 [.int .i64 e.dst] rfl rfl ?c1 ?c2 ?c3 ?c4 ?c5 ?_)
          case c1 => have := cell_one_new (wr.alloc (.cells #[.int .i64 e.src, .int .i64 m, .int .i64 e.dst] 73)) (.int .i64 e.dst) 2; simpa using this
          case c2 => intro u hu; simp at hu; subst hu; rfl
          case c3 => simp [maxLen]; omega
          case c4 => omega
          case c5 => simp; omega
          intro v' w3 ho1 hg1 _
          have HO2 : Hid (w3.ownsRow wB.heap.size 2 1 v' (fs ++ [e.dst]).length ((fs ++ [e.dst]).map (Value.int .i64))) := by
            unfold Hid
            rw [List.length_append, List.map_append, hwz]
            exact ho1
          have HB2 : Hid (Below wB.heap.size wB w3) := (HBA.out.alloc (by simp; omega) _).grown hg1 (by simp; omega) (fun b e => (HO.out.lt b e).1)
          clear ho1 hg1
          go_wp2_with fail
          go_roundw
          case rel => exact ⟨k + 1, by omega, by go_num, HB2.out, by rw [hit_take hlt HG.out, HFS.out, HD.out]; exact HO2.out⟩
          case measure => simp [intOf]; omega
    · obtain rfl : k = p.edges.length := by omega
      have HO2 : Hid (wr.ownsRow wB.heap.size 2 1 u7 (behind p q l).length ((behind p q l).map (Value.int .i64))) := by
        have := HO.out
        rw [List.take_length] at this
        exact this
      obtain ⟨a7, c7, rfl, -, -⟩ := owns_slice HO2.out
      clear HO HER HLR q2
      go_wp2_with fail
      refine (Sort_one _ _ _ _ hone).mono ?_
      rintro e' w' ⟨rfl, rfl⟩
      go_wp2_with fail
      refine (Compact_one _ _ _ _ hone).mono ?_
      rintro e' w' ⟨rfl, rfl⟩
      go_wp2_with fail
      go_ret
      exact ⟨_, rfl, HB0.out.trans (HBL.out.mono HB0.out.size), own_lower HO2.out HB0.out.size⟩

end Go.Proofs.YtkffdamgekoifaaGreatDoor
