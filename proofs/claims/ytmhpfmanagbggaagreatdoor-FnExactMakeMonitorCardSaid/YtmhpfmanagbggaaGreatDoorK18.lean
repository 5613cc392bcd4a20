/-
  The program's monitor: judge, search, verdicts.
-/
import Derived.Test.YtmhpfmanagbggaaGreatDoorK17
import Derived.Test.YtmhpfmanagbggaaGreatDoorK11
import Derived.Deep.RegionHeld3
import Derived.Deep.Cut
import Derived.Deep.AppendLies
namespace Go.Proofs.YtmhpfmanagbggaaGreatDoor
open Go Go.RowKit

theorem mo_results {w : World} {b : Nat} {v0 v1 v2 v3 v4 : Value} {tmps : Array Value} (hc : tmps.getD 2 undef = .pointer (some ⟨b, 0, none⟩)) (hb : Blk w b [v0, v1, v2, v3, v4] 32) :
  (results Tryz.f20 tmps).run Tryz.prog w = .ok (.tuple #[.agg #[v0, v1, v2, v3, v4], tmps.getD 3 undef]) w := by
 have h0 := hb.cell 0 rfl
 have h1 := hb.cell 1 rfl
 have h2 := hb.cell 2 rfl
 have h3 := hb.cell 3 rfl
 have h4 := hb.cell 4 rfl
 simp only [Array.getD_eq_getD_getElem?] at hc
 simp [results, Tryz.results20, go_sem, hc, h0, h1, h2, h3, h4, Result.andThen]
theorem info_int64W : (Tryz.prog.info? 2).map (fun i => (i.zero, i.size, i.bytes)) = some (some (.int .i64 0), 1, 8) := by kernel_rfl
/-- One number in a new block. -/
theorem lit_one (w : World) (k : Int) {n : Nat} (h : w.heap.size = n) : SliceK 1 encI 0 (w.alloc (.cells #[.int .i64 k] 2)) (.slice (some ⟨n, 0, none⟩) 1 1) [k] := by
 have := World.ownsRow_lit (base := 0) (e := 2) (size := 1) w #[.int .i64 k] 1 (Nat.zero_le _) (by decide) (by simp)
 rw [h] at this
 exact SliceK.of_owns (e := 2) encI_len rfl (by rw [flat_encI]; simpa using this)

theorem blk_at (w : World) (cs : List Value) (T : TypeId) {n : Nat} (h : w.heap.size = n) : Blk (w.alloc (.cells cs.toArray T)) n cs T := by
 subst h
 exact Blk.new w cs T

/-- The monitor that is made: its system, its verdicts so far, the pairs. -/
structure MoMem (B mb : Nat) (w : World) (sv vv lv ev : Value) (vs : List Value) (rows : List WSt) (L : List ByteArray) (E : List Edge) (R : Int) (xs : List Int) : Prop where
 rows : OwnW B w sv vs rows
 vd : w.ownsRow B 2 1 vv xs.length (xs.map (Value.int .i64))
 far : ∀ (i : Nat) (h : i < vs.length), FarB vs[i] vv
 labs : w.ownsRow B 9 1 lv L.length (L.map .string)
 eds : w.ownsRow B 67 3 ev E.length (E.flatMap encE)
 blk : Blk w mb [.int .i64 R, .int .i64 0, lv, ev, vv] 32
theorem MoMem.below {B mb : Nat} {w w' : World} {sv vv lv ev : Value} {vs : List Value} {rows : List WSt} {L : List ByteArray} {E : List Edge} {R : Int} {xs : List Int} (h : MoMem B mb w sv vv lv ev vs rows L E R xs) (hb : Below w.heap.size w w') : MoMem B mb w' sv vv lv ev vs rows L E R xs :=
 ⟨h.rows.below hb, owns_below h.vd hb, h.far, owns_below h.labs hb, owns_below h.eds hb, h.blk.below hb⟩
/-- One verdict more. -/
theorem MoMem.push {B mb : Nat} {w w1 w2 : World} {sv vv vv' lv ev : Value} {vs : List Value} {rows : List WSt} {L : List ByteArray} {E : List Edge} {R : Int} {xs : List Int} {x : Int} (h : MoMem B mb w sv vv lv ev vs rows L E R xs) (hA : Below w.heap.size w w1) (hg : w1.grownBy w2 vv.ownBlock)
  (ho : w2.ownsRow B 2 1 vv' (xs.length + 1) (xs.map (Value.int .i64) ++ [.int .i64 x])) (ha : ∀ b, vv'.ownBlock = some b → vv.ownBlock = some b ∨ w.heap.size ≤ b) :
  MoMem B mb (w2.setCell ⟨mb, 4, none⟩ vv') sv vv' lv ev vs rows L E R (xs ++ [x]) := by
 have h1 := h.below hA
 have hb2 : Blk w2 mb _ _ := h1.blk.kept hg (blk_own_ne' h1.blk h1.vd (by decide))
 have r2 := h1.rows.kept hg (own_types h1.rows.2.1 h1.vd (by decide)) (fun i hi => (h1.far i hi).or)
 have l2 := h1.labs.kept hg (own_types h1.labs h1.vd (by decide))
 have e2 := h1.eds.kept hg (own_types h1.eds h1.vd (by decide))
 refine ⟨r2.set1 hb2 (by decide) (by decide) 4 _, ?_, ?_, own_sets l2 hb2 (by decide) 4 _, own_sets e2 hb2 (by decide) 4 _, hb2.set 4 _⟩
 ·rw [List.length_append, List.map_append]
  exact own_sets ho hb2 (by decide) 4 _
 ·intro i hi b hb hb'
  rcases ha b hb' with e | e
  ·exact h.far i hi b hb e
  ·have := ((h.rows.2.2 i hi (by rw [← h.rows.1]; exact hi)).lt b hb).2
   omega

theorem five_sets {w w8 : World} {b : Nat} {x0 x1 x2 x3 x4 v0 v1 v2 v3 v4 : Value} (hb : Blk w8 b [x0, x1, x2, x3, x4] 32) (hB : Below w.heap.size w w8) (hw : w.heap.size ≤ b) :
  Below w.heap.size w (((((w8.setCell ⟨b, 0, none⟩ v0).setCell ⟨b, 1, none⟩ v1).setCell ⟨b, 2, none⟩ v2).setCell ⟨b, 3, none⟩ v3).setCell ⟨b, 4, none⟩ v4) ∧ Blk (((((w8.setCell ⟨b, 0, none⟩ v0).setCell ⟨b, 1, none⟩ v1).setCell ⟨b, 2, none⟩ v2).setCell ⟨b, 3, none⟩ v3).setCell ⟨b, 4, none⟩ v4) b [v0, v1, v2, v3, v4] 32
   ∧ ∀ {base e size n : Nat} {v : Value} {xs : List Value}, w8.ownsRow base e size v n xs → e ≠ 32 → (((((w8.setCell ⟨b, 0, none⟩ v0).setCell ⟨b, 1, none⟩ v1).setCell ⟨b, 2, none⟩ v2).setCell ⟨b, 3, none⟩ v3).setCell ⟨b, 4, none⟩ v4).ownsRow base e size v n xs :=
 ⟨((((hB.setCell hw _).setCell hw _).setCell hw _).setCell hw _).setCell hw _, ((((hb.set 0 v0).set 1 v1).set 2 v2).set 3 v3).set 4 v4, fun ho he => own5M hb ho he⟩

set_option maxRecDepth 100000 in
set_option maxHeartbeats 8000000 in
theorem monitor_any (lo S P : Nat) (t p : Lts) (lv ev lv2 ev2 : Value) (w : World) (hO : Both lo S P t p lv ev lv2 ev2 w) (g : Glob w) (hsh : Short20 t.labels) :
  Calls Tryz.prog 20 #[.agg #[.int .i64 t.states, .int .i64 t.initial, lv, ev, .int .i64 p.states, .int .i64 p.initial, lv2, ev2]] w (RetMake t p w) := by
 have HV := Lib.hid hO.vt
 have HVW := Lib.hid (wT_valid hO.vt)
 have HVP := Lib.hid hO.vp
 have HSS := Lib.hid hO.hS
 have HPP := Lib.hid hO.hP
 have HSH := Lib.hid hsh
 obtain ⟨ob, hob⟩ : ∃ ob, ob = w.heap.size := ⟨_, rfl⟩
 obtain ⟨wA, hwA⟩ : ∃ wA, wA = (w.alloc (.cells #[.int .i64 t.states, .int .i64 t.initial, lv, ev, .int .i64 p.states, .int .i64 p.initial, lv2, ev2] 51)).alloc (.cells #[.int .i64 0, .int .i64 0, .slice none 0 0, .slice none 0 0, .slice none 0 0] 32) := ⟨_, rfl⟩
 have hbA : Below w.heap.size w wA := by rw [hwA]; exact ((Below.refl _ _).alloc (Nat.le_refl _) _).alloc (by simp) _
 have hX : Blk wA ob [.int .i64 t.states, .int .i64 t.initial, lv, ev, .int .i64 p.states, .int .i64 p.initial, lv2, ev2] 51 := by rw [hwA, hob]; exact (Blk.new w _ _).alloc _
 have hR : Blk wA (ob + 1) [.int .i64 0, .int .i64 0, .slice none 0 0, .slice none 0 0, .slice none 0 0] 32 := by
  have h := Blk.new (w.alloc (.cells #[.int .i64 t.states, .int .i64 t.initial, lv, ev, .int .i64 p.states, .int .i64 p.initial, lv2, ev2] 51)) [.int .i64 0, .int .i64 0, .slice none 0 0, .slice none 0 0, .slice none 0 0] 32
  rw [World.size_alloc, ← hob] at h
  rw [hwA]
  exact h
 have HJ := Lib.hid (judge_any lo S P t p lv ev lv2 ev2 wA (hO.below hbA))
 have HOA := Lib.hid (hO.below hbA)
 have HGA := Lib.hid (g.below hbA)
 have HX := Lib.hid hX
 have HR := Lib.hid hR
 have HBA := Lib.hid hbA
 have HWA := Lib.hid hwA
 have HOB := Lib.hid hob
 have hle : w.heap.size ≤ ob + 1 := by rw [hob]; omega
 have hsA : w.heap.size ≤ wA.heap.size := hbA.size
 have o0 := hX.cell 0 rfl
 have o1 := hX.cell 1 rfl
 have o2 := hX.cell 2 rfl
 have o3 := hX.cell 3 rfl
 have o4 := hX.cell 4 rfl
 have o5 := hX.cell 5 rfl
 have o6 := hX.cell 6 rfl
 have o7 := hX.cell 7 rfl
 rw [hwA, hob] at o0 o1 o2 o3 o4 o5 o6 o7
 clear hO g hsh hbA hX hR hwA hob
 go_enter Tryz.func20, Tryz.ntmps20
 go_wp2_with fail
 rw [← HWA.out]
 try rw [← HOB.out]
 refine Calls.mono HJ.out ?_
 rintro e w2 ⟨c, d, bm, g1, bm2, g2, gs, gs2, rfl, hb2, hm1, hm2, hlv, hrs⟩
 clear o0 o1 o2 o3 o4 o5 o6 o7 HJ
 -- both matrices in a box
 obtain ⟨w3, hw3⟩ : ∃ w3, w3 = w2.alloc (.cells #[.slice (some ⟨g1, 0, none⟩) S S, .slice (some ⟨g2, 0, none⟩) S S] 74) := ⟨_, rfl⟩
 obtain ⟨jb, hjb⟩ : ∃ jb, jb = w2.heap.size := ⟨_, rfl⟩
 have hb23 : Below w2.heap.size w2 w3 := by rw [hw3]; exact (Below.refl _ _).alloc (Nat.le_refl _) _
 have hJB : Blk w3 jb [.slice (some ⟨g1, 0, none⟩) S S, .slice (some ⟨g2, 0, none⟩) S S] 74 := by rw [hw3, hjb]; exact Blk.new w2 _ _
 have hA3 : Below wA.heap.size wA w3 := hb2.trans (hb23.mono hb2.size)
 have HB3 := Lib.hid (HBA.out.trans (hA3.mono hsA))
 have HM1 := Lib.hid (hm1.below hb23)
 have HM2 := Lib.hid (hm2.below hb23)
 have HJB := Lib.hid hJB
 have HX3 := Lib.hid (HX.out.below hA3)
 have HR3 := Lib.hid (HR.out.below hA3)
 have HO3 := Lib.hid (HOA.out.below hA3)
 have HG3 := Lib.hid (HGA.out.below hA3)
 have HLV := Lib.hid hlv
 have hSP : S * P = t.states.toNat * p.states.toNat := by rw [show S = t.states.toNat from by have := HSS.out; omega, show P = p.states.toNat from by have := HPP.out; omega]
 rw [hSP] at hrs
 have HRS := Lib.hid hrs
 clear hSP
 have hs3 : w.heap.size ≤ w3.heap.size := HB3.out.size
 have hobl := HX3.out.lt
 have hrbl := HR3.out.lt
 have hjbl := HJB.out.lt
 have HW3 := Lib.hid hw3
 have HJE := Lib.hid hjb
 have hD : Below w3.heap.size w3 w3.drew := (Below.refl _ _).drew
 have HD := Lib.hid hD
 have HDA : Hid (∀ o, Below w3.heap.size w3 (w3.alloc o).drew) := fun o => ((Below.refl _ _).alloc (Nat.le_refl _) o).drew
 have HDAA : Hid (∀ o o', Below w3.heap.size w3 ((w3.alloc o).alloc o').drew) := fun o o' => (((Below.refl _ _).alloc (Nat.le_refl _) o).alloc (by simp) o').drew
 have HL1 : Hid (SliceK 1 encI 0 (w3.alloc (.cells #[.int .i64 t.initial] 2)).drew (.slice (some ⟨w3.heap.size, 0, none⟩) 1 1) [t.initial]) := (lit_one w3 t.initial rfl).below (Below.refl _ _).drew
 have HL2 : Hid (SliceK 1 encI 0 ((w3.alloc (.cells #[.int .i64 t.initial] 2)).alloc (.cells #[.slice none 0 0, .int .i64 0] 78)).drew (.slice (some ⟨w3.heap.size, 0, none⟩) 1 1) [t.initial]) := ((lit_one w3 t.initial rfl).below ((Below.refl _ _).alloc (Nat.le_refl _) _)).below (Below.refl _ _).drew
 have HL3 : Hid (SliceK 1 encI 0 ((w3.alloc (.cells #[.slice none 0 0, .int .i64 0] 78)).alloc (.cells #[.int .i64 t.initial] 2)).drew (.slice (some ⟨w3.heap.size + 1, 0, none⟩) 1 1) [t.initial]) := (lit_one _ t.initial (by simp)).below (Below.refl _ _).drew
 have HX2 : Hid (Blk ((w3.alloc (.cells #[.int .i64 t.initial] 2)).alloc (.cells #[.slice none 0 0, .int .i64 0] 78)).drew (w3.heap.size + 1) [.slice none 0 0, .int .i64 0] 78) := (blk_at _ [.slice none 0 0, .int .i64 0] 78 (by simp)).below (Below.refl _ _).drew
 have HX3' : Hid (Blk ((w3.alloc (.cells #[.slice none 0 0, .int .i64 0] 78)).alloc (.cells #[.int .i64 t.initial] 2)).drew w3.heap.size [.slice none 0 0, .int .i64 0] 78) := ((blk_at w3 [.slice none 0 0, .int .i64 0] 78 rfl).alloc _).below (Below.refl _ _).drew
 have HIN : Hid (∀ (W : World) (v : Value), Below w3.heap.size w3 W → SliceK 1 encI 0 W v [t.initial] → Calls Tryz.prog 42 #[.agg #[.int .i64 t.states, .int .i64 t.initial, lv, ev], v] W (fun e w5 => ∃ fa fc, e = .returned (.slice fa (firstS t).length fc) ∧ Below w3.heap.size w3 w5 ∧ Below W.heap.size W w5 ∧ w5.ownsRow w3.heap.size 2 1 (.slice fa (firstS t).length fc) (firstS t).length ((firstS t).map (Value.int .i64)))) := by
  intro W v hb hs
  have hv := HV.out
  have h := internal_any lo 0 t lv ev v [t.initial] W hv (HO3.out.s1.below hb) (HO3.out.s2.below hb) hs (fun x hx => by rw [List.mem_singleton] at hx; subst hx; exact ⟨hv.in0, hv.in1⟩) (by simp)
  rw [firstS_eq] at h
  refine h.mono ?_
  rintro e w5 ⟨fv, rfl, h5, ho⟩
  obtain ⟨fa, fc, rfl, -, -⟩ := owns_slice ho
  exact ⟨fa, fc, rfl, hb.trans (h5.mono hb.size), h5, own_lower ho hb.size⟩
 obtain ⟨FL, hFL⟩ : ∃ FL, FL = (firstS t).length := ⟨_, rfl⟩
 rw [← hFL] at HIN
 have HFL := Lib.hid hFL
 have o0 := HX3.out.cell 0 rfl
 have o1 := HX3.out.cell 1 rfl
 have o2 := HX3.out.cell 2 rfl
 have o3 := HX3.out.cell 3 rfl
 have o5 := HX3.out.cell 5 rfl
 have d0 := keeps hD hobl o0
 have d1 := keeps hD hobl o1
 have d2 := keeps hD hobl o2
 have d3 := keeps hD hobl o3
 have d5 := keeps hD hobl o5
 clear hw3 hjb hb2 hb23 hJB hA3 hm1 hm2 hlv hrs hD hFL HX HR HOA HGA
 go_wp2
 rw [← HW3.out]
 try rw [← HJE.out]
 go_cut [5] from 13 (fun v5 wx => ∃ (b5 : Nat) (fa : Option Addr) (fc : Nat), v5 = .pointer (some ⟨b5, 0, none⟩) ∧ Below w3.heap.size w3 wx ∧ Blk wx b5 [.slice fa FL fc, .int .i64 p.initial] 78 ∧ wx.ownsRow w3.heap.size 2 1 (.slice fa FL fc) FL ((firstS t).map (Value.int .i64)))
 case first =>
  go_region_held3 (fun w' => w'.cell? ⟨ob, 0, none⟩ = some (.int .i64 t.states) ∧ w'.cell? ⟨ob, 1, none⟩ = some (.int .i64 t.initial) ∧ w'.cell? ⟨ob, 2, none⟩ = some lv ∧ w'.cell? ⟨ob, 3, none⟩ = some ev ∧ w'.cell? ⟨ob, 5, none⟩ = some (.int .i64 p.initial))
   (first
    | (refine ⟨?_, ?_, ?_, ?_, ?_⟩ <;> with_reducible assumption)
    | (refine ⟨?_, ?_, ?_, ?_, ?_⟩ <;> (rw [World.cell?_setCell_far _ _ _ _ (by exact fun e => nox e.symm), World.cell?_setCell_far _ _ _ _ (by exact fun e => nox e.symm)]; with_reducible assumption))
    | go_keep)
   (first
    | (go_at_call 42; refine Calls.mono (HIN.out _ _ (by first | with_reducible exact HDAA.out _ _ | with_reducible exact HDA.out _) (by first | with_reducible exact HL1.out | with_reducible exact HL2.out | with_reducible exact HL3.out)) ?_; rintro e w5 ⟨fa, fc, rfl, hw5, hb5, ho5⟩; have k0 := keeps hw5 hobl o0; have k1 := keeps hw5 hobl o1; have k2 := keeps hw5 hobl o2; have k3 := keeps hw5 hobl o3; have k5 := keeps hw5 hobl o5; (try (have QX : Hid (Blk w5 w3.heap.size [.slice none 0 0, .int .i64 0] 78) := Lib.hid (by with_reducible exact HX3'.out.below hb5))); (try (have QY : Hid (Blk w5 (w3.heap.size + 1) [.slice none 0 0, .int .i64 0] 78) := Lib.hid (by with_reducible exact HX2.out.below hb5))); (try (have q0 := QX.out.cell 0 rfl; have q1 := QX.out.cell 1 rfl; have f0 := QX.out.frozen 0; have f1 := QX.out.frozen 1; have nox : ob ≠ w3.heap.size := (by omega))); (try (have q0 := QY.out.cell 0 rfl; have q1 := QY.out.cell 1 rfl; have f0 := QY.out.frozen 0; have f1 := QY.out.frozen 1; have nox : ob ≠ w3.heap.size + 1 := (by omega))))
    | fail)
  all_goals (
   first
    | (
     obtain ⟨WE, hWE⟩ : ∃ WE, WE = (w5.setCell ⟨w3.heap.size, 0, none⟩ (.slice fa FL fc)).setCell ⟨w3.heap.size, 1, none⟩ (.int .i64 p.initial) := ⟨_, rfl⟩
     have hwe : Below w3.heap.size w3 WE := by rw [hWE]; exact (hw5.setCell (Nat.le_refl _) _).setCell (Nat.le_refl _) _
     have hbe : Blk WE w3.heap.size [.slice fa FL fc, .int .i64 p.initial] 78 := by rw [hWE]; exact (QX.out.set 0 _).set 1 _
     have hfo : WE.ownsRow w3.heap.size 2 1 (.slice fa FL fc) FL ((firstS t).map (Value.int .i64)) := by rw [hWE]; exact own_sets (own_sets ho5 QX.out (by decide) 0 _) (QX.out.set 0 _) (by decide) 1 _
     rw [← hWE]
     obtain ⟨b5, hb5'⟩ : ∃ b5, b5 = w3.heap.size := ⟨_, rfl⟩
     rw [← hb5'] at hbe
     try rw [← hb5']
     clear hWE hb5')
    | (
     obtain ⟨WE, hWE⟩ : ∃ WE, WE = (w5.setCell ⟨w3.heap.size + 1, 0, none⟩ (.slice fa FL fc)).setCell ⟨w3.heap.size + 1, 1, none⟩ (.int .i64 p.initial) := ⟨_, rfl⟩
     have hwe : Below w3.heap.size w3 WE := by rw [hWE]; exact (hw5.setCell (Nat.le_succ _) _).setCell (Nat.le_succ _) _
     have hbe : Blk WE (w3.heap.size + 1) [.slice fa FL fc, .int .i64 p.initial] 78 := by rw [hWE]; exact (QY.out.set 0 _).set 1 _
     have hfo : WE.ownsRow w3.heap.size 2 1 (.slice fa FL fc) FL ((firstS t).map (Value.int .i64)) := by rw [hWE]; exact own_sets (own_sets ho5 QY.out (by decide) 0 _) (QY.out.set 0 _) (by decide) 1 _
     rw [← hWE]
     obtain ⟨b5, hb5'⟩ : ∃ b5, b5 = w3.heap.size + 1 := ⟨_, rfl⟩
     rw [← hb5'] at hbe
     try rw [← hb5']
     clear hWE hb5')
    | (
     obtain ⟨WE, hWE⟩ : ∃ WE, WE = w5.alloc (.cells #[.slice fa FL fc, .int .i64 p.initial] 78) := ⟨_, rfl⟩
     have hwe : Below w3.heap.size w3 WE := by rw [hWE]; exact hw5.alloc hw5.size _
     have hbe : Blk WE w5.heap.size [.slice fa FL fc, .int .i64 p.initial] 78 := by rw [hWE]; exact Blk.new w5 _ _
     have hfo : WE.ownsRow w3.heap.size 2 1 (.slice fa FL fc) FL ((firstS t).map (Value.int .i64)) := by rw [hWE]; exact ho5.alloc _
     rw [← hWE]
     obtain ⟨b5, hb5'⟩ : ∃ b5, b5 = w5.heap.size := ⟨_, rfl⟩
     rw [← hb5'] at hbe
     try rw [← hb5']
     clear hWE hb5')
   go_wp2_with fail
   go_meet
   case rel => exact ⟨_, _, _, rfl, hwe, hbe, hfo⟩)
 case rest =>
  obtain ⟨b5, fa, fc, rfl, hwe, hbe, hfo⟩ := hcut
  obtain ⟨WE, rfl⟩ : ∃ WE : World, WE = wc := ⟨_, rfl⟩
  have HEX := Lib.hid (exploredW_any w3.heap.size jb ob lo S P bm g1 bm2 g2 gs gs2 t p c d lv ev lv2 ev2 (.slice fa FL fc) w3 WE HO3.out HM1.out HM2.out HJB.out HX3.out rfl hwe (by rw [← HFL.out]; exact hfo) HG3.out HSH.out)
  have e0 := hbe.cell 0 rfl
  have e1 := hbe.cell 1 rfl
  clear hwe hbe hfo
  go_wp2_with fail
  refine Calls.mono HEX.out ?_
  rintro e6 w6 ⟨hb6, ⟨hfull, a, b, a1, n1, c1, a2, n2, c2, v, rfl⟩ | ⟨st, lvS, evS, sv, hok, hG, hu, rfl, hol, hoe, vs, hiv⟩⟩
  ·have HF := Lib.hid hfull
   have HB6 := Lib.hid (HB3.out.trans (hb6.mono hs3))
   obtain ⟨W7, hW7⟩ : ∃ W7, W7 = w6.alloc (.cells #[.int .i64 a, .int .i64 b, .slice a1 n1 c1, .slice a2 n2 c2] 29) := ⟨_, rfl⟩
   have HR7 : Hid (Blk W7 (ob + 1) [.int .i64 0, .int .i64 0, .slice none 0 0, .slice none 0 0, .slice none 0 0] 32) := by unfold Hid; rw [hW7]; exact (HR3.out.below hb6).alloc _
   have HB7 : Hid (Below w.heap.size w W7) := by unfold Hid; rw [hW7]; exact HB6.out.alloc HB6.out.size _
   have HW7 := Lib.hid hW7
   have r0 := HR7.out.cell 0 rfl
   have r1 := HR7.out.cell 1 rfl
   have r2 := HR7.out.cell 2 rfl
   have r3 := HR7.out.cell 3 rfl
   have r4 := HR7.out.cell 4 rfl
   have s0 := HR7.out.frozen 0
   have s1 := HR7.out.frozen 1
   have s2 := HR7.out.frozen 2
   have s3 := HR7.out.frozen 3
   have s4 := HR7.out.frozen 4
   rw [hW7] at r0 r1 r2 r3 r4 s0 s1 s2 s3 s4
   clear hfull hb6 HEX hW7
   go_wp2
   rw [← HW7.out]
   refine bodyPost_ret (mo_results rfl (((((HR7.out.set 0 _).set 1 _).set 2 _).set 3 _).set 4 _)) rfl ?_
   exact ⟨((((HB7.out.setCell hle _).setCell hle _).setCell hle _).setCell hle _).setCell hle _, c, d, HLV.out, HRS.out, .inl ⟨HF.out, rfl⟩⟩
  ·have HOK := Lib.hid hok
   have HWG := Lib.hid (wNet_good (t := t) hG rfl HV.out.labels.pos hok.2.1)
   have HU := Lib.hid (show Up (wNet st).edges from hu)
   have HQ := Lib.hid hG.rows
   have hst := hok.2
   have HB6 := Lib.hid (HB3.out.trans (hb6.mono hs3))
   have HB36 := Lib.hid hb6
   obtain ⟨la, lc, rfl, -, -⟩ := owns_slice hol
   obtain ⟨ea, ec, rfl, -, -⟩ := owns_slice hoe
   obtain ⟨sa, sc, rfl, -, -⟩ := owns_slice hiv.2.1
   obtain ⟨R, hRR⟩ : ∃ R, R = st.rows.length := ⟨_, rfl⟩
   have hR40 : R ≤ 40 := by rw [hRR]; exact hst.1
   have HSYS := Lib.hid (sys_edge HVW.out HWG.out)
   have hSYE : (sysOf (wT t) (wNet st)).edges.length ≤ 1048576 := by have := hst.2; simp [sysOf, arcsOf]; show st.edges.length ≤ 1048576; omega
   obtain ⟨Y, hY⟩ : ∃ Y, Y = sysOf (wT t) (wNet st) := ⟨_, rfl⟩
   rw [← hY] at hol hoe HSYS hSYE
   have SKL : SliceK 1 encS w3.heap.size w6 (.slice la Y.labels.length lc) Y.labels := SliceK.of_owns (enc := encS) (e := 9) encS_len rfl (by rw [flat_encS]; exact hol)
   have SKE : SliceK 3 encE w3.heap.size w6 (.slice ea Y.edges.length ec) Y.edges := SliceK.of_owns (enc := encE) (e := 67) encE_len rfl hoe
   rw [← hY]
   obtain ⟨LS, hLS⟩ : ∃ LS, LS = Y.labels.length := ⟨_, rfl⟩
   obtain ⟨ES, hES⟩ : ∃ ES, ES = Y.edges.length := ⟨_, rfl⟩
   rw [← hLS] at SKL
   rw [← hES] at SKE
   rw [← hRR, ← hLS, ← hES]
   rw [← hRR] at hiv
   have hYs : Y.states = (R : Int) := by rw [hY, hRR]; show (((wNet st).rows.length : Nat) : Int) = _; rw [wNet_len]
   have hYi : Y.initial = 0 := by rw [hY]; rfl
   have hYa : Y.edges.map (arcOf Y) = arcsOf (wT t) (wNet st) := by rw [hY]; exact sys_arcs HVW.out HWG.out
   obtain ⟨W7, hW7⟩ : ∃ W7, W7 = w6.alloc (.cells #[.int .i64 R, .int .i64 0, .slice la LS lc, .slice ea ES ec] 29) := ⟨_, rfl⟩
   obtain ⟨tb, htb⟩ : ∃ tb, tb = w6.heap.size := ⟨_, rfl⟩
   have hb67 : Below w6.heap.size w6 W7 := by rw [hW7]; exact (Below.refl _ _).alloc (Nat.le_refl _) _
   have hTB : Blk W7 tb [.int .i64 R, .int .i64 0, .slice la LS lc, .slice ea ES ec] 29 := by rw [hW7, htb]; exact Blk.new w6 _ _
   have hb37 : Below w3.heap.size w3 W7 := hb6.trans (hb67.mono hb6.size)
   have HB7 := Lib.hid (HB3.out.trans (hb37.mono hs3))
   have HB37 := Lib.hid hb37
   have HR7 := Lib.hid (HR3.out.below hb37)
   have HX7 := Lib.hid (HX3.out.below hb37)
   have HJ7 := Lib.hid (HJB.out.below hb37)
   have HIV := Lib.hid (hiv.below hb67)
   have HTB := Lib.hid hTB
   have hs37 : w3.heap.size ≤ W7.heap.size := hb37.size
   have HAR : Hid (∀ (W : World), Below W7.heap.size W7 W → Calls Tryz.prog 52 #[.agg #[.int .i64 R, .int .i64 0, .slice la LS lc, .slice ea ES ec]] W (fun e wV => ∃ va, e = .returned va ∧ Below W7.heap.size W7 wV ∧ Below W.heap.size W wV ∧ SliceK 3 encC W.heap.size wV va (arcsOf (wT t) (wNet st)))) := by
    intro W hb
    have h := arcs_any w3.heap.size Y (.slice la LS lc) (.slice ea ES ec) W HSYS.out hSYE ((SKL.below hb67).below hb) ((SKE.below hb67).below hb)
    rw [hYa, hYs, hYi] at h
    refine h.mono ?_
    rintro e wV ⟨va, rfl, h5, ho⟩
    exact ⟨va, rfl, hb.trans (h5.mono hb.size), h5, SliceK.of_owns (enc := encC) encC_len rfl ho⟩
   have HSL := Lib.hid (SrcS.of_slice (HO3.out.s1.below hb37) HV.out.labels.pos)
   have HLB : Hid (∀ (W : World) (lo3 : Nat) (va : Value), Below W7.heap.size W7 W → SliceK 3 encC lo3 W va (arcsOf (wT t) (wNet st)) → Calls Tryz.prog 51 #[.int .i64 R, .int .i64 0, lv, va] W (fun e wL => ∃ la2 lc2 ea2 ec2, e = .returned (.agg #[.int .i64 R, .int .i64 0, .slice la2 t.labels.length lc2, .slice ea2 st.edges.length ec2]) ∧ Below W7.heap.size W7 wL ∧ Below W.heap.size W wL
     ∧ wL.ownsRow W7.heap.size 9 1 (.slice la2 t.labels.length lc2) t.labels.length (t.labels.map .string) ∧ wL.ownsRow W7.heap.size 67 3 (.slice ea2 st.edges.length ec2) st.edges.length (st.edges.flatMap encE))) := by
    intro W lo3 va hb h1
    have h := lts_back (t := wT t) (st := wNet st) (lv := lv) (av := va) (w := W) (lo2 := lo3) HVW.out HWG.out HU.out ((wNet_small st).2 HOK.out.2) (HSL.out.below hb) h1
    rw [wNet_len, ← hRR] at h
    refine h.mono ?_
    rintro e wL ⟨l5, e5, h4, h5, h6, h7⟩
    obtain ⟨la2, lc2, rfl, -, -⟩ := owns_slice h6
    obtain ⟨ea2, ec2, rfl, -, -⟩ := owns_slice h7
    exact ⟨la2, lc2, ea2, ec2, h4, hb.trans (h5.mono hb.size), h5, own_lower h6 hb.size, own_lower h7 hb.size⟩
   obtain ⟨LN, hLN⟩ : ∃ LN, LN = t.labels.length := ⟨_, rfl⟩
   obtain ⟨EN, hEN⟩ : ∃ EN, EN = st.edges.length := ⟨_, rfl⟩
   rw [← hLN, ← hEN] at HLB
   have HLN := Lib.hid hLN
   have HEN := Lib.hid hEN
   have HRR := Lib.hid hRR
   have hD7 : Below W7.heap.size W7 W7.drew := (Below.refl _ _).drew
   have HDA7 : Hid (∀ o, Below W7.heap.size W7 (W7.alloc o).drew) := fun o => ((Below.refl _ _).alloc (Nat.le_refl _) o).drew
   have HD7 := Lib.hid hD7
   have hobW : ob < W7.heap.size := HX7.out.lt
   have htbW : tb < W7.heap.size := HTB.out.lt
   have t0 := HTB.out.cell 0 rfl
   have t1 := HTB.out.cell 1 rfl
   have t2 := HTB.out.cell 2 rfl
   have t3 := HTB.out.cell 3 rfl
   have o2 := HX7.out.cell 2 rfl
   have v0 := keeps hD7 htbW t0
   have v1 := keeps hD7 htbW t1
   have v2 := keeps hD7 htbW t2
   have v3 := keeps hD7 htbW t3
   have v4 := keeps hD7 hobW o2
   have HZ7 : Hid (Blk (W7.alloc (.cells #[.int .i64 0, .int .i64 0, .slice none 0 0, .slice none 0 0, .slice none 0 0] 32)).drew W7.heap.size [.int .i64 0, .int .i64 0, .slice none 0 0, .slice none 0 0, .slice none 0 0] 32) := (Blk.new W7 [.int .i64 0, .int .i64 0, .slice none 0 0, .slice none 0 0, .slice none 0 0] 32).below (Below.refl _ _).drew
   have HW7 := Lib.hid hW7
   have HTE := Lib.hid htb
   clear hok hG hu hst hb6 hol hoe hiv hRR hY SKL SKE hLS hES hYs hYi hYa hW7 htb hb67 hTB hb37 hLN hEN hD7 HEX hSYE e0 e1
   go_wp2_with fail
   rw [← HW7.out, ← HTE.out]
   go_cut [10] from 13 (fun v10 wx => ∃ (mb : Nat) (la2 : Option Addr) (lc2 : Nat) (ea2 : Option Addr) (ec2 : Nat), v10 = .pointer (some ⟨mb, 0, none⟩) ∧ W7.heap.size ≤ mb ∧ Below W7.heap.size W7 wx ∧ Blk wx mb [.int .i64 R, .int .i64 0, .slice la2 LN lc2, .slice ea2 EN ec2, .slice none 0 0] 32
    ∧ wx.ownsRow W7.heap.size 9 1 (.slice la2 LN lc2) LN (t.labels.map .string) ∧ wx.ownsRow W7.heap.size 67 3 (.slice ea2 EN ec2) EN (st.edges.flatMap encE))
   case first =>
    go_region_held3 (fun w' => w'.cell? ⟨tb, 0, none⟩ = some (.int .i64 R) ∧ w'.cell? ⟨tb, 1, none⟩ = some (.int .i64 0) ∧ w'.cell? ⟨tb, 2, none⟩ = some (.slice la LS lc) ∧ w'.cell? ⟨tb, 3, none⟩ = some (.slice ea ES ec) ∧ w'.cell? ⟨ob, 2, none⟩ = some lv)
     (first
      | (refine ⟨?_, ?_, ?_, ?_, ?_⟩ <;> with_reducible assumption)
      | (refine ⟨?_, ?_, ?_, ?_, ?_⟩ <;> (rw [cell_setV (by first | exact nt | exact no), cell_setV (by first | exact nt | exact no), cell_setV (by first | exact nt | exact no), cell_setV (by first | exact nt | exact no), cell_setV (by first | exact nt | exact no)]; with_reducible assumption))
      | go_keep)
     (first
      | (go_at_call 52; refine Calls.mono (HAR.out _ (by first | with_reducible exact HDA7.out _ | with_reducible exact HD7.out)) ?_; rintro e wV ⟨va, rfl, hwV, hbV, hsV⟩; have k0 := keeps hwV htbW t0; have k1 := keeps hwV htbW t1; have k2 := keeps hwV htbW t2; have k3 := keeps hwV htbW t3; have k4 := keeps hwV hobW o2; (try (have QX : Hid (Blk wV W7.heap.size [.int .i64 0, .int .i64 0, .slice none 0 0, .slice none 0 0, .slice none 0 0] 32) := Lib.hid (by with_reducible exact HZ7.out.below hbV))); have HSV := Lib.hid hsV; clear hsV)
      | (go_at_call 51; refine Calls.mono (HLB.out _ _ va (by first | with_reducible exact hwV | with_reducible exact hwV.alloc hwV.size _) (by first | with_reducible exact HSV.out | with_reducible exact HSV.out.below (box_below9 _ _ _))) ?_; rintro e wL ⟨la2, lc2, ea2, ec2, rfl, hwL, hbL, hlL, heL⟩; have k5 := keeps hwL htbW t0; have k6 := keeps hwL htbW t1; have k7 := keeps hwL htbW t2; have k8 := keeps hwL htbW t3; have k9 := keeps hwL hobW o2; (try (have QZ : Hid (Blk wL W7.heap.size [.int .i64 0, .int .i64 0, .slice none 0 0, .slice none 0 0, .slice none 0 0] 32) := Lib.hid (by with_reducible exact QX.out.below hbL))); (try (have z0 := QZ.out.cell 0 rfl; have z1 := QZ.out.cell 1 rfl; have z2 := QZ.out.cell 2 rfl; have z3 := QZ.out.cell 3 rfl; have z4 := QZ.out.cell 4 rfl; have f0 := QZ.out.frozen 0; have f1 := QZ.out.frozen 1; have f2 := QZ.out.frozen 2; have f3 := QZ.out.frozen 3; have f4 := QZ.out.frozen 4; have nt : tb ≠ W7.heap.size := (by omega); have no : ob ≠ W7.heap.size := (by omega))); ((have HN9 := blk_at wV [.int .i64 0, .int .i64 0, .slice none 0 0, .slice none 0 0, .slice none 0 0] 32 rfl); (try (have QY : Hid (Blk wL wV.heap.size [.int .i64 0, .int .i64 0, .slice none 0 0, .slice none 0 0, .slice none 0 0] 32) := Lib.hid (by with_reducible exact HN9.below hbL))); (try (have z0 := QY.out.cell 0 rfl; have z1 := QY.out.cell 1 rfl; have z2 := QY.out.cell 2 rfl; have z3 := QY.out.cell 3 rfl; have z4 := QY.out.cell 4 rfl; have f0 := QY.out.frozen 0; have f1 := QY.out.frozen 1; have f2 := QY.out.frozen 2; have f3 := QY.out.frozen 3; have f4 := QY.out.frozen 4; have nt : tb ≠ wV.heap.size := (by have := hwV.size; omega); have no : ob ≠ wV.heap.size := (by have := hwV.size; omega)))))
      | fail)
    all_goals (
     first
      | (
       have h1 := five_sets (v0 := .int .i64 R) (v1 := .int .i64 0) (v2 := .slice la2 LN lc2) (v3 := .slice ea2 EN ec2) (v4 := .slice none 0 0) QZ.out hwL (Nat.le_refl _)
       have hlm := h1.2.2 hlL (by decide)
       have hem := h1.2.2 heL (by decide)
       have hwm := h1.1
       have hmb := h1.2.1
       obtain ⟨WM, hWM⟩ : ∃ WM, WM = ((((wL.setCell ⟨W7.heap.size, 0, none⟩ (.int .i64 R)).setCell ⟨W7.heap.size, 1, none⟩ (.int .i64 0)).setCell ⟨W7.heap.size, 2, none⟩ (.slice la2 LN lc2)).setCell ⟨W7.heap.size, 3, none⟩ (.slice ea2 EN ec2)).setCell ⟨W7.heap.size, 4, none⟩ (.slice none 0 0) := ⟨_, rfl⟩
       rw [← hWM] at hlm hem hwm hmb ⊢
       obtain ⟨mb, hmbe⟩ : ∃ mb, mb = W7.heap.size := ⟨_, rfl⟩
       have hlo : W7.heap.size ≤ mb := by rw [hmbe]; exact (Nat.le_refl _)
       rw [← hmbe] at hmb
       rw [← hmbe]
       clear hWM hmbe h1)
      | (
       have h1 := five_sets (v0 := .int .i64 R) (v1 := .int .i64 0) (v2 := .slice la2 LN lc2) (v3 := .slice ea2 EN ec2) (v4 := .slice none 0 0) QY.out hwL hwV.size
       have hlm := h1.2.2 hlL (by decide)
       have hem := h1.2.2 heL (by decide)
       have hwm := h1.1
       have hmb := h1.2.1
       obtain ⟨WM, hWM⟩ : ∃ WM, WM = ((((wL.setCell ⟨wV.heap.size, 0, none⟩ (.int .i64 R)).setCell ⟨wV.heap.size, 1, none⟩ (.int .i64 0)).setCell ⟨wV.heap.size, 2, none⟩ (.slice la2 LN lc2)).setCell ⟨wV.heap.size, 3, none⟩ (.slice ea2 EN ec2)).setCell ⟨wV.heap.size, 4, none⟩ (.slice none 0 0) := ⟨_, rfl⟩
       rw [← hWM] at hlm hem hwm hmb ⊢
       obtain ⟨mb, hmbe⟩ : ∃ mb, mb = wV.heap.size := ⟨_, rfl⟩
       have hlo : W7.heap.size ≤ mb := by rw [hmbe]; exact hwV.size
       rw [← hmbe] at hmb
       rw [← hmbe]
       clear hWM hmbe h1)
      | (
       have hlm : (wL.alloc (.cells #[.int .i64 R, .int .i64 0, .slice la2 LN lc2, .slice ea2 EN ec2, .slice none 0 0] 32)).ownsRow W7.heap.size 9 1 (.slice la2 LN lc2) LN (t.labels.map .string) := hlL.alloc _
       have hem : (wL.alloc (.cells #[.int .i64 R, .int .i64 0, .slice la2 LN lc2, .slice ea2 EN ec2, .slice none 0 0] 32)).ownsRow W7.heap.size 67 3 (.slice ea2 EN ec2) EN (st.edges.flatMap encE) := heL.alloc _
       have hwm : Below W7.heap.size W7 (wL.alloc (.cells #[.int .i64 R, .int .i64 0, .slice la2 LN lc2, .slice ea2 EN ec2, .slice none 0 0] 32)) := hwL.alloc hwL.size _
       have hmb : Blk (wL.alloc (.cells #[.int .i64 R, .int .i64 0, .slice la2 LN lc2, .slice ea2 EN ec2, .slice none 0 0] 32)) wL.heap.size [.int .i64 R, .int .i64 0, .slice la2 LN lc2, .slice ea2 EN ec2, .slice none 0 0] 32 := Blk.new wL _ _
       obtain ⟨WM, hWM⟩ : ∃ WM, WM = wL.alloc (.cells #[.int .i64 R, .int .i64 0, .slice la2 LN lc2, .slice ea2 EN ec2, .slice none 0 0] 32) := ⟨_, rfl⟩
       rw [← hWM] at hlm hem hwm hmb ⊢
       obtain ⟨mb, hmbe⟩ : ∃ mb, mb = wL.heap.size := ⟨_, rfl⟩
       have hlo : W7.heap.size ≤ mb := by rw [hmbe]; exact hwL.size
       rw [← hmbe] at hmb
       rw [← hmbe]
       clear hWM hmbe)
     go_wp2_with fail
     go_meet
     case rel => exact ⟨_, _, _, _, _, rfl, hlo, hwm, hmb, hlm, hem⟩)
   case rest =>
    obtain ⟨mb, la2, lc2, ea2, ec2, rfl, hlo, hwm, hmb, hlm, hem⟩ := hcut
    obtain ⟨WM, rfl⟩ : ∃ WM : World, WM = wc := ⟨_, rfl⟩
    have HMO : Hid (MoMem w3.heap.size mb WM (.slice sa R sc) (.slice none 0 0) (.slice la2 LN lc2) (.slice ea2 EN ec2) vs st.rows t.labels st.edges R (vdsTo p c d st.rows 0)) :=
     ⟨HIV.out.below hwm, World.ownsRow_nil _ _ _ _, fun i hi x _ h => (by cases h), by rw [← HLN.out]; exact own_lower hlm hs37, by rw [← HEN.out]; exact own_lower hem hs37, hmb⟩
    have HBM := Lib.hid (HB37.out.trans (hwm.mono hs37))
    have hmb3 : w3.heap.size ≤ mb := Nat.le_trans hs37 hlo
    obtain ⟨i1, hi1, hz10, hz11, hz12⟩ := info_parts info_int64W
    have hobmb : ob < w3.heap.size := hobl
    clear hlm hem hwm hmb hlo HIV HTB HLB HAR HSL HB37 HB7 HR7 HX7 HJ7 HDA7 HD7 HZ7 HB36 HB6 hobW htbW hs37
    go_wp2
    go_loopw [48] (fun v48 wr => ∃ (k : Nat) (vv : Value), v48 = .int .i64 k ∧ k ≤ R ∧ Below w3.heap.size w3 wr ∧ MoMem w3.heap.size mb wr (.slice sa R sc) vv (.slice la2 LN lc2) (.slice ea2 EN ec2) vs st.rows t.labels st.edges R (vdsTo p c d st.rows k)) (fun v48 _ => R - (intOf v48).toNat)
    case atStart => exact ⟨0, .slice none 0 0, rfl, Nat.zero_le _, HBM.out, HMO.out⟩
    case round =>
     clear HMO HBM
     obtain ⟨k, vv, rfl, hk, hbl, hmo⟩ := hrel
     obtain ⟨wC, rfl⟩ : ∃ wC : World, wC = wr := ⟨_, rfl⟩
     have hdl : (vdsTo p c d st.rows k).length = k := vdsTo_len p c d (by rw [← HRR.out]; exact hk)
     obtain ⟨av, cv, rfl, -, -⟩ := owns_slice hmo.vd
     rw [hdl] at hmo
     have HMO := Lib.hid hmo
     have HBL := Lib.hid hbl
     have hszC : w3.heap.size ≤ wC.heap.size := hbl.size
     clear hmo hbl hdl
     by_cases hlt : k < R
     ·have hlR : k < st.rows.length := by rw [← HRR.out]; exact hlt
      obtain ⟨cs, y, hcur⟩ : ∃ cs y, st.rows[k]? = some (cs, y) := ⟨_, _, List.getElem?_eq_getElem hlR⟩
      have hcg := (List.getElem?_eq_some_iff.1 hcur).2
      have hvl : vs.length = st.rows.length := HMO.out.rows.1
      have hrow := HMO.out.rows.2.2 k (by omega) hlR
      rw [hcg] at hrow
      obtain ⟨ar, cr, her, -, -⟩ := owns_slice hrow
      obtain ⟨bs, e1, hbs, hcs, hcs'⟩ : ∃ bs, sa = some ⟨bs, 0, none⟩ ∧ bs < wC.heap.size ∧ wC.cell? ⟨bs, k * 2, none⟩ = some (.slice ar cs.length cr) ∧ wC.cell? ⟨bs, k * 2 + 1, none⟩ = some (.int .i64 y) := by
       have h1 := HMO.out.rows.2.1
       rw [← HRR.out] at h1
       have hg := cellsW_get (vs := vs) (rows := st.rows) (n := k) (by omega) hlR
       rcases h1.2 with ⟨h, h0⟩ | ⟨bs, c, u, h, -⟩
       ·omega
       ·simp only [Value.slice.injEq, true_and] at h
        obtain ⟨rfl, rfl⟩ := h
        refine ⟨bs, rfl, (h1.lt bs rfl).2, ?_, ?_⟩
        ·rw [h1.cellAt (k * 2) (by omega), hg.1, her]
        ·rw [h1.cellAt (k * 2 + 1) (by omega), hg.2, hcg]
      subst e1
      rw [her] at hrow
      obtain ⟨CL, hCL⟩ : ∃ CL, CL = cs.length := ⟨_, rfl⟩
      rw [← hCL] at hcs hrow
      have HQK := Lib.hid (HQ.out (cs, y) (List.mem_of_getElem? hcur))
      obtain ⟨W10, hW10⟩ : ∃ W10, W10 = wC.alloc (.cells #[.slice ar CL cr, .int .i64 y] 78) := ⟨_, rfl⟩
      obtain ⟨b12, hb12⟩ : ∃ b12, b12 = wC.heap.size := ⟨_, rfl⟩
      have hb10 : Below wC.heap.size wC W10 := by rw [hW10]; exact (Below.refl _ _).alloc (Nat.le_refl _) _
      have hXB : Blk W10 b12 [.slice ar CL cr, .int .i64 y] 78 := by rw [hW10, hb12]; exact Blk.new wC _ _
      have hD10 : Below W10.heap.size W10 W10.drew := (Below.refl _ _).drew
      have hCD : Below wC.heap.size wC W10.drew := hb10.trans (hD10.mono hb10.size)
      have h3D : Below w3.heap.size w3 W10.drew := HBL.out.trans (hCD.mono hszC)
      have HVC := Lib.hid (verdict_any w3.heap.size bm bm2 S P t p c d g1 g2 gs gs2 (.slice ar CL cr) cs y W10.drew HSS.out HPP.out (HM1.out.below h3D) (HM2.out.below h3D) (by rw [hCL]; exact (SliceK.of_owns (enc := encI) (e := 2) encI_len rfl (by rw [flat_encI, ← hCL]; exact hrow)).below hCD) HQK.out.low HQK.out.y1)
      obtain ⟨vd, hvd⟩ : ∃ vd, vd = vdL p c d cs y := ⟨_, rfl⟩
      rw [← hvd] at HVC
      have HVD := Lib.hid hvd
      have HCUR := Lib.hid hcur
      have HMD := Lib.hid (HMO.out.below hCD)
      have HCD := Lib.hid hCD
      have hJ10 := HJB.out.below (HBL.out.trans (hb10.mono hszC))
      have j0 := hJ10.cell 0 rfl
      have j1 := hJ10.cell 1 rfl
      have x0 := hXB.cell 0 rfl
      have x1 := hXB.cell 1 rfl
      have m4 := (HMO.out.below hb10).blk.cell 4 rfl
      have hjl := hJ10.lt
      have hxl := hXB.lt
      have hml := (HMO.out.below hb10).blk.lt
      have J0 := keeps hD10 hjl j0
      have J1 := keeps hD10 hjl j1
      have X0 := keeps hD10 hxl x0
      have X1 := keeps hD10 hxl x1
      have M4 := keeps hD10 hml m4
      have njm : jb ≠ mb := blk_blk_ne hJ10 (HMO.out.below hb10).blk (by decide)
      have nxm : b12 ≠ mb := blk_blk_ne hXB (HMO.out.below hb10).blk (by decide)
      have hxj : b12 ≠ jb := blk_blk_ne hXB hJ10 (by decide)
      have HJ10 := Lib.hid (hJ10.below hD10)
      have HXB := Lib.hid (hXB.below hD10)
      have hVR := HMD.out.vd
      rw [vdsTo_len p c d (by rw [← HRR.out]; exact hk)] at hVR
      have HVR := Lib.hid hVR
      have HW10 := Lib.hid hW10
      have HB12 := Lib.hid hb12
      have hbd10 : b12 < W10.drew.heap.size := hxl
      clear hlR hcur hcg hvl hrow her hCL hW10 hb12 hb10 hXB hD10 hCD h3D hvd hJ10 hVR
      go_wp2
      rw [← HW10.out]
      try rw [← HB12.out]
      refine wp_region_noPanic ?_
      refine wp_region_held_drew (S := fun w' => w'.cell? ⟨jb, 0, none⟩ = some (.slice (some ⟨g1, 0, none⟩) S S) ∧ w'.cell? ⟨jb, 1, none⟩ = some (.slice (some ⟨g2, 0, none⟩) S S) ∧ w'.cell? ⟨b12, 0, none⟩ = some (.slice ar CL cr) ∧ w'.cell? ⟨b12, 1, none⟩ = some (.int .i64 y)) (by kernel_rfl) ?hS (fun hHeld => ?goon)
      case hS =>
       try dsimp only
       first
               | (refine ⟨?_, ?_, ?_, ?_⟩ <;> with_reducible assumption)
               | (refine ⟨?_, ?_, ?_, ?_⟩ <;> (rw [cell_setV (by first | exact njm | exact nxm)]; with_reducible assumption))
               | go_keep
      case goon =>
       refine wpAnyH_take (i := 0) (oi := ?oi1) (v := ?v1) ?ho1 ?ka1 ?kb1 ?kc1 (fun _ _ _ h => h) (Or.inl ⟨?wn1, ?hy1⟩) (by assumption) ?rest1
       case ho1 => (simp only [List.getElem?_toArray, List.getElem?_cons_zero]; rfl)
       case ka1 => kernel_rfl
       case kb1 => kernel_rfl
       case kc1 => kernel_rfl
       case wn1 => rfl
       case hy1 => (intro w hSw; (try dsimp only at hSw); first | (go_simp; done) | (go_simp; with_reducible rfl))
       case rest1 =>
        try simp only [Act.put, List.setIfInBounds_toArray, List.set_cons_zero, List.set_cons_succ]
        refine wpAnyH_take (i := 2) (oi := ?oi2) (v := ?v2) ?ho2 ?ka2 ?kb2 ?kc2 (fun _ _ _ h => h) (Or.inl ⟨?wn2, ?hy2⟩) (by assumption) ?rest2
        case ho2 => (simp only [List.getElem?_toArray, List.getElem?_cons_succ, List.getElem?_cons_zero]; rfl)
        case ka2 => kernel_rfl
        case kb2 => kernel_rfl
        case kc2 => kernel_rfl
        case wn2 => rfl
        case hy2 => (intro w hSw; (try dsimp only at hSw); first | (go_simp; done) | (go_simp; with_reducible rfl))
        case rest2 =>
         try simp only [Act.put, List.setIfInBounds_toArray, List.set_cons_zero, List.set_cons_succ]
         refine wpAnyH_take (i := 3) (oi := ?oi3) (v := ?v3) ?ho3 ?ka3 ?kb3 ?kc3 (fun _ _ _ h => h) (Or.inl ⟨?wn3, ?hy3⟩) (by assumption) ?rest3
         case ho3 => (simp only [List.getElem?_toArray, List.getElem?_cons_succ, List.getElem?_cons_zero]; rfl)
         case ka3 => kernel_rfl
         case kb3 => kernel_rfl
         case kc3 => kernel_rfl
         case wn3 => rfl
         case hy3 => (intro w hSw; (try dsimp only at hSw); first | (go_simp; done) | (go_simp; with_reducible rfl))
         case rest3 =>
          try simp only [Act.put, List.setIfInBounds_toArray, List.set_cons_zero, List.set_cons_succ]
          refine wpAnyH_take (i := 4) (oi := ?oi4) (v := ?v4) ?ho4 ?ka4 ?kb4 ?kc4 (fun _ _ _ h => h) (Or.inl ⟨?wn4, ?hy4⟩) (by assumption) ?rest4
          case ho4 => (simp only [List.getElem?_toArray, List.getElem?_cons_succ, List.getElem?_cons_zero]; rfl)
          case ka4 => kernel_rfl
          case kb4 => kernel_rfl
          case kc4 => kernel_rfl
          case wn4 => rfl
          case hy4 => (intro w hSw; (try dsimp only at hSw); first | (go_simp; done) | (go_simp; with_reducible rfl))
          case rest4 =>
           try simp only [Act.put, List.setIfInBounds_toArray, List.set_cons_zero, List.set_cons_succ]
           refine wpAnyH_take (i := 5) (oi := ?oi5) (v := ?v5) ?ho5 ?ka5 ?kb5 ?kc5 (fun _ _ _ h => h) (Or.inl ⟨?wn5, ?hy5⟩) (by assumption) ?rest5
           case ho5 => (simp only [List.getElem?_toArray, List.getElem?_cons_succ, List.getElem?_cons_zero]; rfl)
           case ka5 => kernel_rfl
           case kb5 => kernel_rfl
           case kc5 => kernel_rfl
           case wn5 => rfl
           case hy5 => (intro w hSw; (try dsimp only at hSw); first | (go_simp; done) | (go_simp; with_reducible rfl))
           case rest5 =>
            try simp only [Act.put, List.setIfInBounds_toArray, List.set_cons_zero, List.set_cons_succ]
            refine wpAnyH_take (i := 6) (oi := ?oi6) (v := ?v6) ?ho6 ?ka6 ?kb6 ?kc6 (fun _ _ _ h => h) (Or.inl ⟨?wn6, ?hy6⟩) (by assumption) ?rest6
            case ho6 => (simp only [List.getElem?_toArray, List.getElem?_cons_succ, List.getElem?_cons_zero]; rfl)
            case ka6 => kernel_rfl
            case kb6 => kernel_rfl
            case kc6 => kernel_rfl
            case wn6 => rfl
            case hy6 => (intro w hSw; (try dsimp only at hSw); first | (go_simp; done) | (go_simp; with_reducible rfl))
            case rest6 =>
             try simp only [Act.put, List.setIfInBounds_toArray, List.set_cons_zero, List.set_cons_succ]
             refine wpAnyH_ready (rs := [1, 7]) (by kernel_rfl) (by simp) ?_
             refine AllReadyH.cons (o := ?o7) ?ho7 (fun K hK => ?st7) ?more7
             case ho7 => (simp only [List.getElem?_toArray, List.getElem?_cons_succ, List.getElem?_cons_zero]; rfl)
             case st7 =>
              go_simp
              refine hK.out _ _ ?hS7 (fun hHeld => ?goon7)
              case hS7 =>
               try dsimp only
               first
                       | (refine ⟨?_, ?_, ?_, ?_⟩ <;> with_reducible assumption)
                       | (refine ⟨?_, ?_, ?_, ?_⟩ <;> (rw [cell_setV (by first | exact njm | exact nxm)]; with_reducible assumption))
                       | go_keep
              case goon7 =>
               clear hK K
               try simp only [Act.put, List.setIfInBounds_toArray, List.set_cons_zero, List.set_cons_succ]
               refine wpAnyH_ready (rs := [7]) (by kernel_rfl) (by simp) ?_
               refine AllReadyH.cons (o := ?o8) ?ho8 (fun K hK => ?st8) ?more8
               case ho8 => (simp only [List.getElem?_toArray, List.getElem?_cons_succ, List.getElem?_cons_zero]; rfl)
               case st8 =>
                go_simp
                first
                        | (go_at_call 48; refine Calls.mono HVC.out ?_; rintro e w11 ⟨rfl, hb11⟩; have y0 := keeps hb11 hjl J0; have y1 := keeps hb11 hjl J1; have y2 := keeps hb11 hxl X0; have y3 := keeps hb11 hxl X1; have y4 := keeps hb11 hml M4; have HV11 := Lib.hid (owns_below HVR.out hb11); have HMM11 := Lib.hid (HMD.out.below hb11); have hjl11 : jb < w11.heap.size := (Nat.lt_of_lt_of_le hjl hb11.size); have hxl11 : b12 < w11.heap.size := (Nat.lt_of_lt_of_le hxl hb11.size); have hml11 : mb < w11.heap.size := (Nat.lt_of_lt_of_le hml hb11.size); have nmv : some mb ≠ (Value.slice av k cv).ownBlock := blk_own_ne' HMM11.out.blk HV11.out (by decide); have njv : some jb ≠ (Value.slice av k cv).ownBlock := blk_own_ne' (HJ10.out.below hb11) HV11.out (by decide); have nxv : some b12 ≠ (Value.slice av k cv).ownBlock := blk_own_ne' (HXB.out.below hb11) HV11.out (by decide); have hs11 : w3.heap.size ≤ w11.heap.size := (by have := hb11.size; have := HCD.out.size; omega))
                        | (refine step_append_lies _ (by rfl) _ _ _ (by rfl) w3.heap.size 2 i1 _ 1 8 Tryz.underlying30 hi1 hz10 hz11 hz12 rfl (by omega) (.slice av k cv) k _ (by rfl) (HV11.out.alloc _) ⟨w11.heap.size, 0, none⟩ 1 1 [.int .i64 vd] (by rfl) (by rfl) (World.news_of_block (cs := #[.int .i64 vd]) (t := 2) (fr := (0, 0)) (heap_alloc_new _ _)) (by simp [Value.oneCell']) (by omega) (by simp [maxLen]; omega) (by omega) (by simp; omega) (w11.heap.size + 1) (by simp) ?_; intro gg cap wN hownN hgrowN hatN hltN; have hAN : Below w11.heap.size w11 (w11.alloc (.cells #[.int .i64 vd] 2)) := (Below.refl _ _).alloc (Nat.le_refl _) _; have z1 : wN.frozen? ⟨mb, 4, none⟩ = false := (hgrowN.frozen_far ⟨mb, 4, none⟩ (by simp; omega) nmv).trans ((hAN.frozen (p := ⟨mb, 4, none⟩) hml11).trans (HMM11.out.blk.frozen 4)); have z2 := (hgrowN.cell_far ⟨mb, 4, none⟩ (by simp; omega) nmv).trans (keeps hAN hml11 y4); have z3 := (hgrowN.cell_far ⟨jb, 0, none⟩ (by simp; omega) njv).trans (keeps hAN hjl11 y0); have z4 := (hgrowN.cell_far ⟨jb, 1, none⟩ (by simp; omega) njv).trans (keeps hAN hjl11 y1); have z5 := (hgrowN.cell_far ⟨b12, 0, none⟩ (by simp; omega) nxv).trans (keeps hAN hxl11 y2); have z6 := (hgrowN.cell_far ⟨b12, 1, none⟩ (by simp; omega) nxv).trans (keeps hAN hxl11 y3))
                        | fail
                try go_wp2_with fail
                refine hK.out _ _ ?hS8 (fun hHeld => ?goon8)
                case hS8 =>
                 try dsimp only
                 first
                         | (refine ⟨?_, ?_, ?_, ?_⟩ <;> with_reducible assumption)
                         | (refine ⟨?_, ?_, ?_, ?_⟩ <;> (rw [cell_setV (by first | exact njm | exact nxm)]; with_reducible assumption))
                         | go_keep
                case goon8 =>
                 clear hK K
                 try simp only [Act.put, List.setIfInBounds_toArray, List.set_cons_zero, List.set_cons_succ]
                 refine wpAnyH_ready (rs := [8]) (by kernel_rfl) (by simp) ?_
                 refine AllReadyH.cons (o := ?o9) ?ho9 (fun K hK => ?st9) ?more9
                 case ho9 => (simp only [List.getElem?_toArray, List.getElem?_cons_succ, List.getElem?_cons_zero]; rfl)
                 case st9 =>
                  go_simp
                  refine hK.out _ _ ?hS9 (fun hHeld => ?goon9)
                  case hS9 =>
                   try dsimp only
                   first
                           | (refine ⟨?_, ?_, ?_, ?_⟩ <;> with_reducible assumption)
                           | (refine ⟨?_, ?_, ?_, ?_⟩ <;> (rw [cell_setV (by first | exact njm | exact nxm)]; with_reducible assumption))
                           | go_keep
                  case goon9 =>
                   clear hK K
                   try simp only [Act.put, List.setIfInBounds_toArray, List.set_cons_zero, List.set_cons_succ]
                   refine wpAnyH_ready (rs := [9]) (by kernel_rfl) (by simp) ?_
                   refine AllReadyH.cons (o := ?o10) ?ho10 (fun K hK => ?st10) ?more10
                   case ho10 => (simp only [List.getElem?_toArray, List.getElem?_cons_succ, List.getElem?_cons_zero]; rfl)
                   case st10 =>
                    first
                            | (go_at_call 48; refine Calls.mono HVC.out ?_; rintro e w11 ⟨rfl, hb11⟩; have y0 := keeps hb11 hjl J0; have y1 := keeps hb11 hjl J1; have y2 := keeps hb11 hxl X0; have y3 := keeps hb11 hxl X1; have y4 := keeps hb11 hml M4; have HV11 := Lib.hid (owns_below HVR.out hb11); have HMM11 := Lib.hid (HMD.out.below hb11); have hjl11 : jb < w11.heap.size := (Nat.lt_of_lt_of_le hjl hb11.size); have hxl11 : b12 < w11.heap.size := (Nat.lt_of_lt_of_le hxl hb11.size); have hml11 : mb < w11.heap.size := (Nat.lt_of_lt_of_le hml hb11.size); have nmv : some mb ≠ (Value.slice av k cv).ownBlock := blk_own_ne' HMM11.out.blk HV11.out (by decide); have njv : some jb ≠ (Value.slice av k cv).ownBlock := blk_own_ne' (HJ10.out.below hb11) HV11.out (by decide); have nxv : some b12 ≠ (Value.slice av k cv).ownBlock := blk_own_ne' (HXB.out.below hb11) HV11.out (by decide); have hs11 : w3.heap.size ≤ w11.heap.size := (by have := hb11.size; have := HCD.out.size; omega))
                            | (refine step_append_lies _ (by rfl) _ _ _ (by rfl) w3.heap.size 2 i1 _ 1 8 Tryz.underlying30 hi1 hz10 hz11 hz12 rfl (by omega) (.slice av k cv) k _ (by rfl) (HV11.out.alloc _) ⟨w11.heap.size, 0, none⟩ 1 1 [.int .i64 vd] (by rfl) (by rfl) (World.news_of_block (cs := #[.int .i64 vd]) (t := 2) (fr := (0, 0)) (heap_alloc_new _ _)) (by simp [Value.oneCell']) (by omega) (by simp [maxLen]; omega) (by omega) (by simp; omega) (w11.heap.size + 1) (by simp) ?_; intro gg cap wN hownN hgrowN hatN hltN; have hAN : Below w11.heap.size w11 (w11.alloc (.cells #[.int .i64 vd] 2)) := (Below.refl _ _).alloc (Nat.le_refl _) _; have z1 : wN.frozen? ⟨mb, 4, none⟩ = false := (hgrowN.frozen_far ⟨mb, 4, none⟩ (by simp; omega) nmv).trans ((hAN.frozen (p := ⟨mb, 4, none⟩) hml11).trans (HMM11.out.blk.frozen 4)); have z2 := (hgrowN.cell_far ⟨mb, 4, none⟩ (by simp; omega) nmv).trans (keeps hAN hml11 y4); have z3 := (hgrowN.cell_far ⟨jb, 0, none⟩ (by simp; omega) njv).trans (keeps hAN hjl11 y0); have z4 := (hgrowN.cell_far ⟨jb, 1, none⟩ (by simp; omega) njv).trans (keeps hAN hjl11 y1); have z5 := (hgrowN.cell_far ⟨b12, 0, none⟩ (by simp; omega) nxv).trans (keeps hAN hxl11 y2); have z6 := (hgrowN.cell_far ⟨b12, 1, none⟩ (by simp; omega) nxv).trans (keeps hAN hxl11 y3))
                            | fail
                    refine hK.out _ _ ?hS10 (fun hHeld => ?goon10)
                    case hS10 =>
                     try dsimp only
                     first
                             | (refine ⟨?_, ?_, ?_, ?_⟩ <;> with_reducible assumption)
                             | (refine ⟨?_, ?_, ?_, ?_⟩ <;> (rw [cell_setV (by first | exact njm | exact nxm)]; with_reducible assumption))
                             | go_keep
                    case goon10 =>
                     clear hK K
                     try simp only [Act.put, List.setIfInBounds_toArray, List.set_cons_zero, List.set_cons_succ]
                     refine wpAnyH_take (i := 10) (oi := ?oi11) (v := ?v11) ?ho11 ?ka11 ?kb11 ?kc11 (fun _ _ _ h => h) (Or.inl ⟨?wn11, ?hy11⟩) (by assumption) ?rest11
                     case ho11 => (simp only [List.getElem?_toArray, List.getElem?_cons_succ, List.getElem?_cons_zero]; rfl)
                     case ka11 => kernel_rfl
                     case kb11 => kernel_rfl
                     case kc11 => kernel_rfl
                     case wn11 => rfl
                     case hy11 => (intro w hSw; (try dsimp only at hSw); first | (go_simp; done) | (go_simp; with_reducible rfl))
                     case rest11 =>
                      try simp only [Act.put, List.setIfInBounds_toArray, List.set_cons_zero, List.set_cons_succ]
                      refine wpAnyH_ready (rs := [11]) (by kernel_rfl) (by simp) ?_
                      refine AllReadyH.cons (o := ?o12) ?ho12 (fun K hK => ?st12) ?more12
                      case ho12 => (simp only [List.getElem?_toArray, List.getElem?_cons_succ, List.getElem?_cons_zero]; rfl)
                      case st12 =>
                       go_simp
                       refine hK.out _ _ ?hS12 (fun hHeld => ?goon12)
                       case hS12 =>
                        try dsimp only
                        first
                                | (refine ⟨?_, ?_, ?_, ?_⟩ <;> with_reducible assumption)
                                | (refine ⟨?_, ?_, ?_, ?_⟩ <;> (rw [cell_setV (by first | exact njm | exact nxm)]; with_reducible assumption))
                                | go_keep
                       case goon12 =>
                        clear hK K
                        try simp only [Act.put, List.setIfInBounds_toArray, List.set_cons_zero, List.set_cons_succ]
                        refine wpAnyH_done (by kernel_rfl) ?_ _
                        refine NoPanic.normal ?_
                        obtain ⟨vv', hvv'⟩ : ∃ vv', vv' = Value.slice (some ⟨gg, 0, none⟩) (k + 1) cap := ⟨_, rfl⟩
                        have hCN : Below wC.heap.size wC (w11.alloc (.cells #[.int .i64 vd] 2)) := (HCD.out.trans (hb11.mono HCD.out.size)).trans (hAN.mono (HCD.out.trans (hb11.mono HCD.out.size)).size)
                        have hlv : (vdsTo p c d st.rows k).length = k := vdsTo_len p c d (by rw [← HRR.out]; exact hk)
                        have hPU := HMO.out.push (x := vd) (vv' := Value.slice (some ⟨gg, 0, none⟩) (k + 1) cap) hCN hgrowN (by rw [hlv]; exact hownN) (fun b' e => by
                         rcases hatN with h | h
                         ·exact .inl (h.trans e)
                         ·have e2 : gg = b' := Option.some.inj e
                          have h1 := (HCD.out.trans (hb11.mono HCD.out.size)).size
                          exact .inr (by omega))
                        rw [HVD.out, ← vdsTo_succ p c d HCUR.out] at hPU
                        have hBN : Below w3.heap.size w3 wN := (HBL.out.trans (hCN.mono hszC)).grown hgrowN (by simp; omega) (fun b e => (HV11.out.lt b e).1)
                        rw [← hvv'] at hPU ⊢
                        have HPU := Lib.hid hPU
                        have HBN := Lib.hid hBN
                        clear hownN hgrowN hatN hltN hvv' z1 z2 z3 z4 z5 z6 y0 y1 y2 y3 y4 J0 J1 X0 X1 M4 j0 j1 x0 x1 m4 hPU hBN hCN hAN hb11 hlv
                        go_wp2
                        go_roundw
                        case rel => exact ⟨k + 1, vv', by go_num, by omega, HBN.out.setCell hmb3 _, HPU.out⟩
                        case measure => simp [intOf]; omega
                      exact AllReadyH.nil
                   exact AllReadyH.nil
                 exact AllReadyH.nil
               exact AllReadyH.nil
             refine AllReadyH.cons (o := ?o13) ?ho13 (fun K hK => ?st13) ?more13
             case ho13 => (simp only [List.getElem?_toArray, List.getElem?_cons_succ, List.getElem?_cons_zero]; rfl)
             case st13 =>
              go_simp
              first
                      | (go_at_call 48; refine Calls.mono HVC.out ?_; rintro e w11 ⟨rfl, hb11⟩; have y0 := keeps hb11 hjl J0; have y1 := keeps hb11 hjl J1; have y2 := keeps hb11 hxl X0; have y3 := keeps hb11 hxl X1; have y4 := keeps hb11 hml M4; have HV11 := Lib.hid (owns_below HVR.out hb11); have HMM11 := Lib.hid (HMD.out.below hb11); have hjl11 : jb < w11.heap.size := (Nat.lt_of_lt_of_le hjl hb11.size); have hxl11 : b12 < w11.heap.size := (Nat.lt_of_lt_of_le hxl hb11.size); have hml11 : mb < w11.heap.size := (Nat.lt_of_lt_of_le hml hb11.size); have nmv : some mb ≠ (Value.slice av k cv).ownBlock := blk_own_ne' HMM11.out.blk HV11.out (by decide); have njv : some jb ≠ (Value.slice av k cv).ownBlock := blk_own_ne' (HJ10.out.below hb11) HV11.out (by decide); have nxv : some b12 ≠ (Value.slice av k cv).ownBlock := blk_own_ne' (HXB.out.below hb11) HV11.out (by decide); have hs11 : w3.heap.size ≤ w11.heap.size := (by have := hb11.size; have := HCD.out.size; omega))
                      | (refine step_append_lies _ (by rfl) _ _ _ (by rfl) w3.heap.size 2 i1 _ 1 8 Tryz.underlying30 hi1 hz10 hz11 hz12 rfl (by omega) (.slice av k cv) k _ (by rfl) (HV11.out.alloc _) ⟨w11.heap.size, 0, none⟩ 1 1 [.int .i64 vd] (by rfl) (by rfl) (World.news_of_block (cs := #[.int .i64 vd]) (t := 2) (fr := (0, 0)) (heap_alloc_new _ _)) (by simp [Value.oneCell']) (by omega) (by simp [maxLen]; omega) (by omega) (by simp; omega) (w11.heap.size + 1) (by simp) ?_; intro gg cap wN hownN hgrowN hatN hltN; have hAN : Below w11.heap.size w11 (w11.alloc (.cells #[.int .i64 vd] 2)) := (Below.refl _ _).alloc (Nat.le_refl _) _; have z1 : wN.frozen? ⟨mb, 4, none⟩ = false := (hgrowN.frozen_far ⟨mb, 4, none⟩ (by simp; omega) nmv).trans ((hAN.frozen (p := ⟨mb, 4, none⟩) hml11).trans (HMM11.out.blk.frozen 4)); have z2 := (hgrowN.cell_far ⟨mb, 4, none⟩ (by simp; omega) nmv).trans (keeps hAN hml11 y4); have z3 := (hgrowN.cell_far ⟨jb, 0, none⟩ (by simp; omega) njv).trans (keeps hAN hjl11 y0); have z4 := (hgrowN.cell_far ⟨jb, 1, none⟩ (by simp; omega) njv).trans (keeps hAN hjl11 y1); have z5 := (hgrowN.cell_far ⟨b12, 0, none⟩ (by simp; omega) nxv).trans (keeps hAN hxl11 y2); have z6 := (hgrowN.cell_far ⟨b12, 1, none⟩ (by simp; omega) nxv).trans (keeps hAN hxl11 y3))
                      | fail
              try go_wp2_with fail
              refine hK.out _ _ ?hS13 (fun hHeld => ?goon13)
              case hS13 =>
               try dsimp only
               first
                       | (refine ⟨?_, ?_, ?_, ?_⟩ <;> with_reducible assumption)
                       | (refine ⟨?_, ?_, ?_, ?_⟩ <;> (rw [cell_setV (by first | exact njm | exact nxm)]; with_reducible assumption))
                       | go_keep
              case goon13 =>
               clear hK K
               try simp only [Act.put, List.setIfInBounds_toArray, List.set_cons_zero, List.set_cons_succ]
               refine wpAnyH_ready (rs := [1, 8]) (by kernel_rfl) (by simp) ?_
               refine AllReadyH.cons (o := ?o14) ?ho14 (fun K hK => ?st14) ?more14
               case ho14 => (simp only [List.getElem?_toArray, List.getElem?_cons_succ, List.getElem?_cons_zero]; rfl)
               case st14 =>
                go_simp
                refine hK.out _ _ ?hS14 (fun hHeld => ?goon14)
                case hS14 =>
                 try dsimp only
                 first
                         | (refine ⟨?_, ?_, ?_, ?_⟩ <;> with_reducible assumption)
                         | (refine ⟨?_, ?_, ?_, ?_⟩ <;> (rw [cell_setV (by first | exact njm | exact nxm)]; with_reducible assumption))
                         | go_keep
                case goon14 =>
                 clear hK K
                 try simp only [Act.put, List.setIfInBounds_toArray, List.set_cons_zero, List.set_cons_succ]
                 refine wpAnyH_ready (rs := [8]) (by kernel_rfl) (by simp) ?_
                 refine AllReadyH.cons (o := ?o15) ?ho15 (fun K hK => ?st15) ?more15
                 case ho15 => (simp only [List.getElem?_toArray, List.getElem?_cons_succ, List.getElem?_cons_zero]; rfl)
                 case st15 =>
                  go_simp
                  refine hK.out _ _ ?hS15 (fun hHeld => ?goon15)
                  case hS15 =>
                   try dsimp only
                   first
                           | (refine ⟨?_, ?_, ?_, ?_⟩ <;> with_reducible assumption)
                           | (refine ⟨?_, ?_, ?_, ?_⟩ <;> (rw [cell_setV (by first | exact njm | exact nxm)]; with_reducible assumption))
                           | go_keep
                  case goon15 =>
                   clear hK K
                   try simp only [Act.put, List.setIfInBounds_toArray, List.set_cons_zero, List.set_cons_succ]
                   refine wpAnyH_ready (rs := [9]) (by kernel_rfl) (by simp) ?_
                   refine AllReadyH.cons (o := ?o16) ?ho16 (fun K hK => ?st16) ?more16
                   case ho16 => (simp only [List.getElem?_toArray, List.getElem?_cons_succ, List.getElem?_cons_zero]; rfl)
                   case st16 =>
                    first
                            | (go_at_call 48; refine Calls.mono HVC.out ?_; rintro e w11 ⟨rfl, hb11⟩; have y0 := keeps hb11 hjl J0; have y1 := keeps hb11 hjl J1; have y2 := keeps hb11 hxl X0; have y3 := keeps hb11 hxl X1; have y4 := keeps hb11 hml M4; have HV11 := Lib.hid (owns_below HVR.out hb11); have HMM11 := Lib.hid (HMD.out.below hb11); have hjl11 : jb < w11.heap.size := (Nat.lt_of_lt_of_le hjl hb11.size); have hxl11 : b12 < w11.heap.size := (Nat.lt_of_lt_of_le hxl hb11.size); have hml11 : mb < w11.heap.size := (Nat.lt_of_lt_of_le hml hb11.size); have nmv : some mb ≠ (Value.slice av k cv).ownBlock := blk_own_ne' HMM11.out.blk HV11.out (by decide); have njv : some jb ≠ (Value.slice av k cv).ownBlock := blk_own_ne' (HJ10.out.below hb11) HV11.out (by decide); have nxv : some b12 ≠ (Value.slice av k cv).ownBlock := blk_own_ne' (HXB.out.below hb11) HV11.out (by decide); have hs11 : w3.heap.size ≤ w11.heap.size := (by have := hb11.size; have := HCD.out.size; omega))
                            | (refine step_append_lies _ (by rfl) _ _ _ (by rfl) w3.heap.size 2 i1 _ 1 8 Tryz.underlying30 hi1 hz10 hz11 hz12 rfl (by omega) (.slice av k cv) k _ (by rfl) (HV11.out.alloc _) ⟨w11.heap.size, 0, none⟩ 1 1 [.int .i64 vd] (by rfl) (by rfl) (World.news_of_block (cs := #[.int .i64 vd]) (t := 2) (fr := (0, 0)) (heap_alloc_new _ _)) (by simp [Value.oneCell']) (by omega) (by simp [maxLen]; omega) (by omega) (by simp; omega) (w11.heap.size + 1) (by simp) ?_; intro gg cap wN hownN hgrowN hatN hltN; have hAN : Below w11.heap.size w11 (w11.alloc (.cells #[.int .i64 vd] 2)) := (Below.refl _ _).alloc (Nat.le_refl _) _; have z1 : wN.frozen? ⟨mb, 4, none⟩ = false := (hgrowN.frozen_far ⟨mb, 4, none⟩ (by simp; omega) nmv).trans ((hAN.frozen (p := ⟨mb, 4, none⟩) hml11).trans (HMM11.out.blk.frozen 4)); have z2 := (hgrowN.cell_far ⟨mb, 4, none⟩ (by simp; omega) nmv).trans (keeps hAN hml11 y4); have z3 := (hgrowN.cell_far ⟨jb, 0, none⟩ (by simp; omega) njv).trans (keeps hAN hjl11 y0); have z4 := (hgrowN.cell_far ⟨jb, 1, none⟩ (by simp; omega) njv).trans (keeps hAN hjl11 y1); have z5 := (hgrowN.cell_far ⟨b12, 0, none⟩ (by simp; omega) nxv).trans (keeps hAN hxl11 y2); have z6 := (hgrowN.cell_far ⟨b12, 1, none⟩ (by simp; omega) nxv).trans (keeps hAN hxl11 y3))
                            | fail
                    refine hK.out _ _ ?hS16 (fun hHeld => ?goon16)
                    case hS16 =>
                     try dsimp only
                     first
                             | (refine ⟨?_, ?_, ?_, ?_⟩ <;> with_reducible assumption)
                             | (refine ⟨?_, ?_, ?_, ?_⟩ <;> (rw [cell_setV (by first | exact njm | exact nxm)]; with_reducible assumption))
                             | go_keep
                    case goon16 =>
                     clear hK K
                     try simp only [Act.put, List.setIfInBounds_toArray, List.set_cons_zero, List.set_cons_succ]
                     refine wpAnyH_take (i := 10) (oi := ?oi17) (v := ?v17) ?ho17 ?ka17 ?kb17 ?kc17 (fun _ _ _ h => h) (Or.inl ⟨?wn17, ?hy17⟩) (by assumption) ?rest17
                     case ho17 => (simp only [List.getElem?_toArray, List.getElem?_cons_succ, List.getElem?_cons_zero]; rfl)
                     case ka17 => kernel_rfl
                     case kb17 => kernel_rfl
                     case kc17 => kernel_rfl
                     case wn17 => rfl
                     case hy17 => (intro w hSw; (try dsimp only at hSw); first | (go_simp; done) | (go_simp; with_reducible rfl))
                     case rest17 =>
                      try simp only [Act.put, List.setIfInBounds_toArray, List.set_cons_zero, List.set_cons_succ]
                      refine wpAnyH_ready (rs := [11]) (by kernel_rfl) (by simp) ?_
                      refine AllReadyH.cons (o := ?o18) ?ho18 (fun K hK => ?st18) ?more18
                      case ho18 => (simp only [List.getElem?_toArray, List.getElem?_cons_succ, List.getElem?_cons_zero]; rfl)
                      case st18 =>
                       go_simp
                       refine hK.out _ _ ?hS18 (fun hHeld => ?goon18)
                       case hS18 =>
                        try dsimp only
                        first
                                | (refine ⟨?_, ?_, ?_, ?_⟩ <;> with_reducible assumption)
                                | (refine ⟨?_, ?_, ?_, ?_⟩ <;> (rw [cell_setV (by first | exact njm | exact nxm)]; with_reducible assumption))
                                | go_keep
                       case goon18 =>
                        clear hK K
                        try simp only [Act.put, List.setIfInBounds_toArray, List.set_cons_zero, List.set_cons_succ]
                        refine wpAnyH_done (by kernel_rfl) ?_ _
                        refine NoPanic.normal ?_
                        obtain ⟨vv', hvv'⟩ : ∃ vv', vv' = Value.slice (some ⟨gg, 0, none⟩) (k + 1) cap := ⟨_, rfl⟩
                        have hCN : Below wC.heap.size wC (w11.alloc (.cells #[.int .i64 vd] 2)) := (HCD.out.trans (hb11.mono HCD.out.size)).trans (hAN.mono (HCD.out.trans (hb11.mono HCD.out.size)).size)
                        have hlv : (vdsTo p c d st.rows k).length = k := vdsTo_len p c d (by rw [← HRR.out]; exact hk)
                        have hPU := HMO.out.push (x := vd) (vv' := Value.slice (some ⟨gg, 0, none⟩) (k + 1) cap) hCN hgrowN (by rw [hlv]; exact hownN) (fun b' e => by
                         rcases hatN with h | h
                         ·exact .inl (h.trans e)
                         ·have e2 : gg = b' := Option.some.inj e
                          have h1 := (HCD.out.trans (hb11.mono HCD.out.size)).size
                          exact .inr (by omega))
                        rw [HVD.out, ← vdsTo_succ p c d HCUR.out] at hPU
                        have hBN : Below w3.heap.size w3 wN := (HBL.out.trans (hCN.mono hszC)).grown hgrowN (by simp; omega) (fun b e => (HV11.out.lt b e).1)
                        rw [← hvv'] at hPU ⊢
                        have HPU := Lib.hid hPU
                        have HBN := Lib.hid hBN
                        clear hownN hgrowN hatN hltN hvv' z1 z2 z3 z4 z5 z6 y0 y1 y2 y3 y4 J0 J1 X0 X1 M4 j0 j1 x0 x1 m4 hPU hBN hCN hAN hb11 hlv
                        go_wp2
                        go_roundw
                        case rel => exact ⟨k + 1, vv', by go_num, by omega, HBN.out.setCell hmb3 _, HPU.out⟩
                        case measure => simp [intOf]; omega
                      exact AllReadyH.nil
                   exact AllReadyH.nil
                 exact AllReadyH.nil
               refine AllReadyH.cons (o := ?o19) ?ho19 (fun K hK => ?st19) ?more19
               case ho19 => (simp only [List.getElem?_toArray, List.getElem?_cons_succ, List.getElem?_cons_zero]; rfl)
               case st19 =>
                go_simp
                refine hK.out _ _ ?hS19 (fun hHeld => ?goon19)
                case hS19 =>
                 try dsimp only
                 first
                         | (refine ⟨?_, ?_, ?_, ?_⟩ <;> with_reducible assumption)
                         | (refine ⟨?_, ?_, ?_, ?_⟩ <;> (rw [cell_setV (by first | exact njm | exact nxm)]; with_reducible assumption))
                         | go_keep
                case goon19 =>
                 clear hK K
                 try simp only [Act.put, List.setIfInBounds_toArray, List.set_cons_zero, List.set_cons_succ]
                 refine wpAnyH_ready (rs := [1]) (by kernel_rfl) (by simp) ?_
                 refine AllReadyH.cons (o := ?o20) ?ho20 (fun K hK => ?st20) ?more20
                 case ho20 => (simp only [List.getElem?_toArray, List.getElem?_cons_succ, List.getElem?_cons_zero]; rfl)
                 case st20 =>
                  go_simp
                  refine hK.out _ _ ?hS20 (fun hHeld => ?goon20)
                  case hS20 =>
                   try dsimp only
                   first
                           | (refine ⟨?_, ?_, ?_, ?_⟩ <;> with_reducible assumption)
                           | (refine ⟨?_, ?_, ?_, ?_⟩ <;> (rw [cell_setV (by first | exact njm | exact nxm)]; with_reducible assumption))
                           | go_keep
                  case goon20 =>
                   clear hK K
                   try simp only [Act.put, List.setIfInBounds_toArray, List.set_cons_zero, List.set_cons_succ]
                   refine wpAnyH_ready (rs := [9]) (by kernel_rfl) (by simp) ?_
                   refine AllReadyH.cons (o := ?o21) ?ho21 (fun K hK => ?st21) ?more21
                   case ho21 => (simp only [List.getElem?_toArray, List.getElem?_cons_succ, List.getElem?_cons_zero]; rfl)
                   case st21 =>
                    first
                            | (go_at_call 48; refine Calls.mono HVC.out ?_; rintro e w11 ⟨rfl, hb11⟩; have y0 := keeps hb11 hjl J0; have y1 := keeps hb11 hjl J1; have y2 := keeps hb11 hxl X0; have y3 := keeps hb11 hxl X1; have y4 := keeps hb11 hml M4; have HV11 := Lib.hid (owns_below HVR.out hb11); have HMM11 := Lib.hid (HMD.out.below hb11); have hjl11 : jb < w11.heap.size := (Nat.lt_of_lt_of_le hjl hb11.size); have hxl11 : b12 < w11.heap.size := (Nat.lt_of_lt_of_le hxl hb11.size); have hml11 : mb < w11.heap.size := (Nat.lt_of_lt_of_le hml hb11.size); have nmv : some mb ≠ (Value.slice av k cv).ownBlock := blk_own_ne' HMM11.out.blk HV11.out (by decide); have njv : some jb ≠ (Value.slice av k cv).ownBlock := blk_own_ne' (HJ10.out.below hb11) HV11.out (by decide); have nxv : some b12 ≠ (Value.slice av k cv).ownBlock := blk_own_ne' (HXB.out.below hb11) HV11.out (by decide); have hs11 : w3.heap.size ≤ w11.heap.size := (by have := hb11.size; have := HCD.out.size; omega))
                            | (refine step_append_lies _ (by rfl) _ _ _ (by rfl) w3.heap.size 2 i1 _ 1 8 Tryz.underlying30 hi1 hz10 hz11 hz12 rfl (by omega) (.slice av k cv) k _ (by rfl) (HV11.out.alloc _) ⟨w11.heap.size, 0, none⟩ 1 1 [.int .i64 vd] (by rfl) (by rfl) (World.news_of_block (cs := #[.int .i64 vd]) (t := 2) (fr := (0, 0)) (heap_alloc_new _ _)) (by simp [Value.oneCell']) (by omega) (by simp [maxLen]; omega) (by omega) (by simp; omega) (w11.heap.size + 1) (by simp) ?_; intro gg cap wN hownN hgrowN hatN hltN; have hAN : Below w11.heap.size w11 (w11.alloc (.cells #[.int .i64 vd] 2)) := (Below.refl _ _).alloc (Nat.le_refl _) _; have z1 : wN.frozen? ⟨mb, 4, none⟩ = false := (hgrowN.frozen_far ⟨mb, 4, none⟩ (by simp; omega) nmv).trans ((hAN.frozen (p := ⟨mb, 4, none⟩) hml11).trans (HMM11.out.blk.frozen 4)); have z2 := (hgrowN.cell_far ⟨mb, 4, none⟩ (by simp; omega) nmv).trans (keeps hAN hml11 y4); have z3 := (hgrowN.cell_far ⟨jb, 0, none⟩ (by simp; omega) njv).trans (keeps hAN hjl11 y0); have z4 := (hgrowN.cell_far ⟨jb, 1, none⟩ (by simp; omega) njv).trans (keeps hAN hjl11 y1); have z5 := (hgrowN.cell_far ⟨b12, 0, none⟩ (by simp; omega) nxv).trans (keeps hAN hxl11 y2); have z6 := (hgrowN.cell_far ⟨b12, 1, none⟩ (by simp; omega) nxv).trans (keeps hAN hxl11 y3))
                            | fail
                    refine hK.out _ _ ?hS21 (fun hHeld => ?goon21)
                    case hS21 =>
                     try dsimp only
                     first
                             | (refine ⟨?_, ?_, ?_, ?_⟩ <;> with_reducible assumption)
                             | (refine ⟨?_, ?_, ?_, ?_⟩ <;> (rw [cell_setV (by first | exact njm | exact nxm)]; with_reducible assumption))
                             | go_keep
                    case goon21 =>
                     clear hK K
                     try simp only [Act.put, List.setIfInBounds_toArray, List.set_cons_zero, List.set_cons_succ]
                     refine wpAnyH_take (i := 10) (oi := ?oi22) (v := ?v22) ?ho22 ?ka22 ?kb22 ?kc22 (fun _ _ _ h => h) (Or.inl ⟨?wn22, ?hy22⟩) (by assumption) ?rest22
                     case ho22 => (simp only [List.getElem?_toArray, List.getElem?_cons_succ, List.getElem?_cons_zero]; rfl)
                     case ka22 => kernel_rfl
                     case kb22 => kernel_rfl
                     case kc22 => kernel_rfl
                     case wn22 => rfl
                     case hy22 => (intro w hSw; (try dsimp only at hSw); first | (go_simp; done) | (go_simp; with_reducible rfl))
                     case rest22 =>
                      try simp only [Act.put, List.setIfInBounds_toArray, List.set_cons_zero, List.set_cons_succ]
                      refine wpAnyH_ready (rs := [11]) (by kernel_rfl) (by simp) ?_
                      refine AllReadyH.cons (o := ?o23) ?ho23 (fun K hK => ?st23) ?more23
                      case ho23 => (simp only [List.getElem?_toArray, List.getElem?_cons_succ, List.getElem?_cons_zero]; rfl)
                      case st23 =>
                       go_simp
                       refine hK.out _ _ ?hS23 (fun hHeld => ?goon23)
                       case hS23 =>
                        try dsimp only
                        first
                                | (refine ⟨?_, ?_, ?_, ?_⟩ <;> with_reducible assumption)
                                | (refine ⟨?_, ?_, ?_, ?_⟩ <;> (rw [cell_setV (by first | exact njm | exact nxm)]; with_reducible assumption))
                                | go_keep
                       case goon23 =>
                        clear hK K
                        try simp only [Act.put, List.setIfInBounds_toArray, List.set_cons_zero, List.set_cons_succ]
                        refine wpAnyH_done (by kernel_rfl) ?_ _
                        refine NoPanic.normal ?_
                        obtain ⟨vv', hvv'⟩ : ∃ vv', vv' = Value.slice (some ⟨gg, 0, none⟩) (k + 1) cap := ⟨_, rfl⟩
                        have hCN : Below wC.heap.size wC (w11.alloc (.cells #[.int .i64 vd] 2)) := (HCD.out.trans (hb11.mono HCD.out.size)).trans (hAN.mono (HCD.out.trans (hb11.mono HCD.out.size)).size)
                        have hlv : (vdsTo p c d st.rows k).length = k := vdsTo_len p c d (by rw [← HRR.out]; exact hk)
                        have hPU := HMO.out.push (x := vd) (vv' := Value.slice (some ⟨gg, 0, none⟩) (k + 1) cap) hCN hgrowN (by rw [hlv]; exact hownN) (fun b' e => by
                         rcases hatN with h | h
                         ·exact .inl (h.trans e)
                         ·have e2 : gg = b' := Option.some.inj e
                          have h1 := (HCD.out.trans (hb11.mono HCD.out.size)).size
                          exact .inr (by omega))
                        rw [HVD.out, ← vdsTo_succ p c d HCUR.out] at hPU
                        have hBN : Below w3.heap.size w3 wN := (HBL.out.trans (hCN.mono hszC)).grown hgrowN (by simp; omega) (fun b e => (HV11.out.lt b e).1)
                        rw [← hvv'] at hPU ⊢
                        have HPU := Lib.hid hPU
                        have HBN := Lib.hid hBN
                        clear hownN hgrowN hatN hltN hvv' z1 z2 z3 z4 z5 z6 y0 y1 y2 y3 y4 J0 J1 X0 X1 M4 j0 j1 x0 x1 m4 hPU hBN hCN hAN hb11 hlv
                        go_wp2
                        go_roundw
                        case rel => exact ⟨k + 1, vv', by go_num, by omega, HBN.out.setCell hmb3 _, HPU.out⟩
                        case measure => simp [intOf]; omega
                      exact AllReadyH.nil
                   exact AllReadyH.nil
                 exact AllReadyH.nil
               exact AllReadyH.nil
             exact AllReadyH.nil
     ·have HKR : Hid (k = R) := Lib.hid (show k = R by omega)
      have HRC := Lib.hid (HR3.out.below HBL.out)
      have m0 := HMO.out.blk.cell 0 rfl
      have m1 := HMO.out.blk.cell 1 rfl
      have m2 := HMO.out.blk.cell 2 rfl
      have m3 := HMO.out.blk.cell 3 rfl
      have m4 := HMO.out.blk.cell 4 rfl
      have r0 := HRC.out.cell 0 rfl
      have r1 := HRC.out.cell 1 rfl
      have r2 := HRC.out.cell 2 rfl
      have r3 := HRC.out.cell 3 rfl
      have r4 := HRC.out.cell 4 rfl
      have s0 := HRC.out.frozen 0
      have s1 := HRC.out.frozen 1
      have s2 := HRC.out.frozen 2
      have s3 := HRC.out.frozen 3
      have s4 := HRC.out.frozen 4
      have HBW := Lib.hid (HB3.out.trans (HBL.out.mono hs3))
      go_wp21
      refine bodyPost_ret (mo_results rfl (((((HRC.out.set 0 _).set 1 _).set 2 _).set 3 _).set 4 _)) rfl ?_
      refine ⟨((((HBW.out.setCell hle _).setCell hle _).setCell hle _).setCell hle _).setCell hle _, c, d, HLV.out, HRS.out, .inr ⟨st, .slice la2 LN lc2, .slice ea2 EN ec2, _, HOK.out, by rw [← HRR.out]; rfl, ⟨?_, ?_⟩, ?_⟩⟩
      ·have h := own_lower HMO.out.labs hs3
       rw [← HLN.out] at h
       show World.ownsRow _ w.heap.size 9 1 _ t.labels.length (t.labels.map .string)
       rw [← HLN.out]
       exact own5M HRC.out h (by decide)
      ·have h := own_lower HMO.out.eds hs3
       rw [← HEN.out] at h
       show World.ownsRow _ w.heap.size 67 3 _ st.edges.length (st.edges.flatMap encE)
       rw [← HEN.out]
       exact own5M HRC.out h (by decide)
      ·have h := own_lower HMO.out.vd hs3
       have hvd : vdsTo p c d st.rows k = st.rows.map fun r => vdL p c d r.1 r.2 := by rw [HKR.out, HRR.out, vdsTo_all]
       rw [hvd] at h
       exact own5M HRC.out h (by decide)

end Go.Proofs.YtmhpfmanagbggaaGreatDoor
