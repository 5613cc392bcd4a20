/-
  The program's only: the edges that a function keeps; clone.
  The program's clone of a system.
  What PruneBrothers leaves in memory.
  The program's pruneBrothers.
  What the implementation's functions on lists of values and on labels compute.
  What the implementation's readNumbers computes.
  What the implementation's joined computes.
  What the implementation's labelOf computes.
-/
import Derived.Test.YtbjbjbnbapeajaaGreatDoorP7
import Derived.Deep.RegionHeld3
import Derived.Laws.Cover3
import Derived.Test.YtbjbjbnbapeajaaGreatDoorP1
import Derived.Laws.EntriesVeiled
import Derived.Test.YtbjbjbnbapeajaaGreatDoorP5
namespace Go.Proofs.YtbjbjbnbapeajaaGreatDoor
open Go Go.RowKit

theorem only_results {w : World} {b : Nat} {v0 v1 v2 v3 : Value} {tmps : Array Value} (hc : tmps.getD 4 undef = .pointer (some ⟨b, 0, none⟩)) (hb : Blk w b [v0, v1, v2, v3] 29) :
  (results Tryz.f52 tmps).run Tryz.prog w = .ok (.agg #[v0, v1, v2, v3]) w := by
 have h0 := hb.cell 0 rfl
 have h1 := hb.cell 1 rfl
 have h2 := hb.cell 2 rfl
 have h3 := hb.cell 3 rfl
 simp only [Array.getD_eq_getD_getElem?] at hc
 simp [results, Tryz.results52, go_sem, hc, h0, h1, h2, h3, Result.andThen]
theorem clone_results {w : World} {b : Nat} {v0 v1 v2 v3 : Value} {tmps : Array Value} (hc : tmps.getD 2 undef = .pointer (some ⟨b, 0, none⟩)) (hb : Blk w b [v0, v1, v2, v3] 29) :
  (results Tryz.f54 tmps).run Tryz.prog w = .ok (.agg #[v0, v1, v2, v3]) w := by
 have h0 := hb.cell 0 rfl
 have h1 := hb.cell 1 rfl
 have h2 := hb.cell 2 rfl
 have h3 := hb.cell 3 rfl
 simp only [Array.getD_eq_getD_getElem?] at hc
 simp [results, Tryz.results54, go_sem, hc, h0, h1, h2, h3, Result.andThen]

theorem eqNilE (a : Option Addr) (l c : Nat) (w : World) : (binOp .eql 27 (.slice a l c) (.slice none 0 0)).run Tryz.prog w = .ok (.bool a.isNone) w := by
 simp only [binOp]
 simp [run_equal_slice_nil w 27 73 a l c Tryz.underlying27]

set_option maxRecDepth 100000 in
theorem CloneE_own (lo : Nat) (v : Value) (xs : List Edge) (w : World) (hv : SliceK 3 encE lo w v xs) (hz : xs.length ≤ 1048576) :
  Calls Tryz.prog 76 #[v] w fun e w' => ∃ v', e = .returned v' ∧ w'.ownsRow w.heap.size 73 3 v' xs.length (xs.flatMap encE) ∧ Below w.heap.size w w' := by
 obtain ⟨i0, hi, hz0, hz1, hz2⟩ := info_parts info_edge2
 obtain ⟨a, c, rfl, hn, hc, hrow⟩ := id hv
 cases a with
 | none =>
  have h0 : xs.length = 0 := by
   rcases hrow with h | ⟨b, o, h, -⟩
   ·exact h
   ·cases h
  have hx : xs = [] := List.eq_nil_of_length_eq_zero h0
  subst hx
  clear hv hn hc hrow hz h0
  go_enter Tryz.func76, Tryz.ntmps76
  have hq := eqNilE none 0 c w
  simp only [Option.isNone_none] at hq
  go_wp2
  go_ret
  exact ⟨_, rfl, World.ownsRow_nil _ _ _ _, Below.refl _ _⟩
 | some a =>
  have ho : Hid ((w.alloc (.cells #[] 73)).ownsRow w.heap.size 73 3 (.slice (some ⟨w.heap.size, 0, none⟩) 0 0) 0 []) := World.ownsRow_lit (base := w.heap.size) (e := 73) (size := 3) w #[] 0 (Nat.le_refl _) (by simp [maxLen]) rfl
  have hb : Below w.heap.size w (w.alloc (.cells #[] 73)) := (Below.refl _ _).alloc (Nat.le_refl _) _
  have HS := Lib.hid (hv.below hb)
  have HB := Lib.hid hb
  obtain ⟨XL, hXL⟩ : ∃ XL, XL = xs.length := ⟨_, rfl⟩
  rw [← hXL] at HS hz
  rw [← hXL]
  have HXL := Lib.hid hXL
  have hq := eqNilE (some a) XL c w
  simp only [Option.isNone_some] at hq
  clear hv hn hc hrow hb hXL
  go_enter Tryz.func76, Tryz.ntmps76
  go_wp2_with (at_builtin; refine append_slice encE_len encE_one (by decide) rfl _ _ 27 rfl w.heap.size 73 i0 (.agg #[.int .i64 0, .int .i64 0, .int .i64 0]) 24 Tryz.underlying27 hi hz0 hz1 hz2 rfl _ _ _ rfl ho.out lo xs HS.out ?_ ?_ ?_ ?_)
  ·rw [← HXL.out]; simp [maxLen]; omega
  ·rw [← HXL.out]; omega
  ·simp
  intro v' w' ho' hg'
  have HO : Hid (w'.ownsRow w.heap.size 73 3 v' XL (xs.flatMap encE)) := by
   unfold Hid
   rw [HXL.out]
   simpa using ho'
  have HB2 : Hid (Below w.heap.size w w') := HB.out.grown hg' (by simp) (fun b e => (ho.out.lt b e).1)
  clear ho' hg'
  go_wp2
  go_ret
  exact ⟨_, rfl, HO.out, HB2.out⟩

set_option maxRecDepth 100000 in
set_option maxHeartbeats 2000000 in
theorem only_any (lo fid : Nat) (caps : Array Value) (K : Edge → Bool) (t : Lts) (lv ev : Value) (w : World) (hz : t.edges.length ≤ 1048576) (hl : ∃ p n c, lv = .slice p n c) (he : SliceK 3 encE lo w ev t.edges) (eg : ∀ args w, (callFunc fid args).run Tryz.prog w = .ok (.enter fid args) w) (hK : AskE fid caps K t.edges w.heap.size w) :
  Calls Tryz.prog 52 #[.agg #[.int .i64 t.states, .int .i64 t.initial, lv, ev], .func (.func fid) #[] caps] w fun e w' => ∃ ev', e = .returned (.agg #[.int .i64 t.states, .int .i64 t.initial, lv, ev']) ∧ Below w.heap.size w w' ∧ w'.ownsRow w.heap.size 73 3 ev' (t.edges.filter K).length ((t.edges.filter K).flatMap encE) := by
 obtain ⟨l1, l2, l3, rfl⟩ := hl
 obtain ⟨ea, ec, rfl, hen, hec, hrow⟩ := he
 obtain ⟨i0, hi, hz0, hz1, hz2⟩ := info_parts info_edge2
 obtain ⟨B, hB⟩ : ∃ B, B = w.heap.size := ⟨_, rfl⟩
 obtain ⟨rc, hrc⟩ : ∃ rc, rc = w.heap.size + 1 := ⟨_, rfl⟩
 obtain ⟨ob, hob⟩ : ∃ ob, ob = w.heap.size + 1 + 1 := ⟨_, rfl⟩
 obtain ⟨EN, hEN⟩ : ∃ EN, EN = t.edges.length := ⟨_, rfl⟩
 rw [← hEN] at hz hen
 rw [← hEN]
 obtain ⟨W, hW⟩ : ∃ W, W = ((w.alloc (.cells #[.int .i64 t.states, .int .i64 t.initial, .slice l1 l2 l3, .slice ea EN ec] 29)).alloc (.cells #[.int .i64 0, .int .i64 0, .slice none 0 0, .slice none 0 0] 29)).alloc (.cells #[.int .i64 t.states, .int .i64 t.initial, .slice l1 l2 l3, .slice none 0 0] 29) := ⟨_, rfl⟩
 have hb : Below w.heap.size w W := by rw [hW]; exact (((Below.refl _ _).alloc (Nat.le_refl _) _).alloc (by simp) _).alloc (by simp; omega) _
 have hR : Blk W rc [.int .i64 0, .int .i64 0, .slice none 0 0, .slice none 0 0] 29 := by
  have h := (Blk.new (w.alloc (.cells #[.int .i64 t.states, .int .i64 t.initial, .slice l1 l2 l3, .slice ea EN ec] 29)) [.int .i64 0, .int .i64 0, .slice none 0 0, .slice none 0 0] 29).alloc (.cells #[.int .i64 t.states, .int .i64 t.initial, .slice l1 l2 l3, .slice none 0 0] 29)
  rw [World.size_alloc, ← hrc] at h
  rw [hW]
  exact h
 have hO : Blk W ob [.int .i64 t.states, .int .i64 t.initial, .slice l1 l2 l3, .slice none 0 0] 29 := by
  have h := Blk.new ((w.alloc (.cells #[.int .i64 t.states, .int .i64 t.initial, .slice l1 l2 l3, .slice ea EN ec] 29)).alloc (.cells #[.int .i64 0, .int .i64 0, .slice none 0 0, .slice none 0 0] 29)) [.int .i64 t.states, .int .i64 t.initial, .slice l1 l2 l3, .slice none 0 0] 29
  rw [World.size_alloc, World.size_alloc, ← hob] at h
  rw [hW]
  exact h
 have hBr : B ≤ rc := by omega
 have hBo : B ≤ ob := by omega
 have hne : rc ≠ ob := by omega
 have HB := Lib.hid hB
 have HRC := Lib.hid hrc
 have HOB := Lib.hid hob
 have HEN := Lib.hid hEN
 have HW := Lib.hid hW
 have HR := Lib.hid hR
 have HO := Lib.hid hO
 have HBB : Hid (Below B w W) := by unfold Hid; rw [hB]; exact hb
 have HER := Lib.hid hrow
 have HK := Lib.hid hK
 have HNE := Lib.hid hne
 clear hB hrc hob hEN hW hb hR hO hrow hK hne
 go_enter Tryz.func52, Tryz.ntmps52
 go_wp2_with fail
 rw [← HW.out]
 rw [← HOB.out, ← HRC.out]
 go_loopw [18] (fun v18 wr => ∃ (k : Nat) (p : Option Addr) (c : Nat), k ≤ EN ∧ v18 = .int .i64 k ∧ Below B w wr ∧ Blk wr rc [.int .i64 0, .int .i64 0, .slice none 0 0, .slice none 0 0] 29 ∧ Blk wr ob [.int .i64 t.states, .int .i64 t.initial, .slice l1 l2 l3, .slice p ((t.edges.take k).filter K).length c] 29 ∧ wr.ownsRow B 73 3 (.slice p ((t.edges.take k).filter K).length c) ((t.edges.take k).filter K).length (((t.edges.take k).filter K).flatMap encE)) (fun v18 _ => EN - (intOf v18).toNat)
 case atStart => exact ⟨0, none, 0, Nat.zero_le _, rfl, HBB.out, HR.out, HO.out, World.ownsRow_nil _ _ _ _⟩
 case round =>
  clear HBB HR HO
  obtain ⟨k, p, c, hk, rfl, hbl, hr, ho, hown⟩ := hrel
  obtain ⟨wC, rfl⟩ : ∃ wC : World, wC = wr := ⟨_, rfl⟩
  have HBL := Lib.hid hbl
  have HR := Lib.hid hr
  have HO := Lib.hid ho
  have HOW := Lib.hid hown
  obtain ⟨F, hF⟩ : ∃ F, F = (t.edges.take k).filter K := ⟨_, rfl⟩
  have hfl : F.length ≤ k := by rw [hF]; exact Nat.le_trans (List.length_filter_le _ _) (List.length_take_le _ _)
  rw [← hF] at HO HOW
  have HF := Lib.hid hF
  obtain ⟨FL, hFL⟩ : ∃ FL, FL = F.length := ⟨_, rfl⟩
  rw [← hFL] at HO HOW hfl
  have HFL := Lib.hid hFL
  have hszC : w.heap.size ≤ wC.heap.size := by have := hbl.size; have := HB.out; omega
  have hBC : B ≤ wC.heap.size := by have := HB.out; omega
  clear hbl hr ho hown hF hFL
  by_cases hlt : k < EN
  ·have hkE : k < t.edges.length := by rw [← HEN.out]; exact hlt
   have hb9 : Below w.heap.size w wC := by have := HBL.out; rw [HB.out] at this; exact this
   obtain ⟨be, oe, rfl, -, hbe, e1, e2, e3⟩ := (HER.out.below hb9).edge hkE
   have hty : K t.edges[k] = false → (t.edges.take (k + 1)).filter K = F := fun g => by rw [List.take_succ_eq_append_getElem hkE, List.filter_append, HF.out]; simp [g]
   have hty2 : K t.edges[k] = true → (t.edges.take (k + 1)).filter K = F ++ [t.edges[k]] := fun g => by rw [List.take_succ_eq_append_getElem hkE, List.filter_append, HF.out]; simp [g]
   have hmem : t.edges[k] ∈ t.edges := List.getElem_mem hkE
   obtain ⟨q, hq⟩ : ∃ q, q = t.edges[k] := ⟨_, rfl⟩
   rw [← hq] at e1 e2 e3 hty hty2 hmem
   obtain ⟨W2, hW2⟩ : ∃ W2, W2 = wC.alloc (.cells #[.int .i64 q.src, .int .i64 q.lab, .int .i64 q.dst] 73) := ⟨_, rfl⟩
   obtain ⟨eb, heb⟩ : ∃ eb, eb = wC.heap.size := ⟨_, rfl⟩
   have hb2 : Below wC.heap.size wC W2 := by rw [hW2]; exact (Below.refl _ _).alloc (Nat.le_refl _) _
   have hE : Blk W2 eb [.int .i64 q.src, .int .i64 q.lab, .int .i64 q.dst] 73 := by rw [hW2, heb]; exact Blk.new wC _ _
   have HE := Lib.hid hE
   have HB2 : Hid (Below B w W2) := HBL.out.trans (hb2.mono hBC)
   have HR2 := Lib.hid (HR.out.below hb2)
   have HO2 := Lib.hid (HO.out.below hb2)
   have HOW2 := Lib.hid (owns_below HOW.out hb2)
   have HC := Lib.hid (HK.out W2 (by have := HB2.out; rw [HB.out] at this; exact this) q hmem)
   obtain ⟨g, hg⟩ : ∃ g, g = K q := ⟨_, rfl⟩
   rw [← hg] at HC hty hty2
   have HTY := Lib.hid hty
   have HTY2 := Lib.hid hty2
   have HW2 := Lib.hid hW2
   have HEB := Lib.hid heb
   have hB2 : B ≤ W2.heap.size := Nat.le_trans hBC hb2.size
   clear hty hty2 hmem hq hW2 heb hb2 hE hg hb9
   go_wp2_with fail
   rw [← HW2.out]
   try rw [← HEB.out]
   refine Calls.mono HC.out ?_
   rintro e w3 ⟨rfl, hb3⟩
   have HB3 : Hid (Below B w w3) := HB2.out.trans (hb3.mono hB2)
   have HR3 := Lib.hid (HR2.out.below hb3)
   have HO3 := Lib.hid (HO2.out.below hb3)
   have HOW3 := Lib.hid (owns_below HOW2.out hb3)
   have HE3 := Lib.hid (HE.out.below hb3)
   have hB3 : B ≤ w3.heap.size := Nat.le_trans hB2 hb3.size
   clear hb3 HC e1 e2 e3
   cases g
   ·have HT := Lib.hid (HTY.out rfl)
    go_wp2
    go_roundw
    case rel => exact ⟨k + 1, p, c, by omega, by go_num, HB3.out, HR3.out, by rw [HT.out, ← HFL.out]; exact HO3.out, by rw [HT.out, ← HFL.out]; exact HOW3.out⟩
    case measure => simp [intOf]; omega
   ·have HT := Lib.hid (HTY2.out rfl)
    have f0 := HE3.out.cell 0 rfl
    have f1 := HE3.out.cell 1 rfl
    have f2 := HE3.out.cell 2 rfl
    have o3 := HO3.out.cell 3 rfl
    have hol := HO3.out.lt
    go_wp2_with (at_builtin; refine wpList_append_own _ rfl _ _ 27 rfl B 73 i0 (.agg #[.int .i64 0, .int .i64 0, .int .i64 0]) 3 24 Tryz.underlying27 hi hz0 hz1 hz2 rfl (by decide) _ _ _ rfl (HOW3.out.alloc _) ⟨w3.heap.size, 0, none⟩ 1 1 (encE q) rfl rfl ?c1 ?c2 ?c3 ?c4 ?c5 ?_)
    case c1 => have := three_new w3 q 73; simpa using this
    case c2 => exact encE_one _
    case c3 => simp [maxLen]; omega
    case c4 => omega
    case c5 => simp; omega
    intro v' w4 ho4 hg4 _
    have hal : Below w3.heap.size w3 (w3.alloc (.cells #[.int .i64 q.src, .int .i64 q.lab, .int .i64 q.dst] 73)) := (Below.refl _ _).alloc (Nat.le_refl _) _
    have HB4 : Hid (Below B w w4) := (HB3.out.trans (hal.mono hB3)).grown hg4 (by simp; omega) (fun b e => (HOW3.out.lt b e).1)
    have hot := own_type_ne (owns_below HOW3.out hal) (HO3.out.below hal) (by decide)
    have hrt := own_type_ne (owns_below HOW3.out hal) (HR3.out.below hal) (by decide)
    have HO4 : Hid (Blk w4 ob [.int .i64 t.states, .int .i64 t.initial, .slice l1 l2 l3, .slice p FL c] 29) := (hg4.block ob (HO3.out.below hal).lt (by rcases hot with h | h <;> intro e <;> rw [← e] at h <;> simp at h)).trans (HO3.out.below hal)
    have HR4 : Hid (Blk w4 rc [.int .i64 0, .int .i64 0, .slice none 0 0, .slice none 0 0] 29) := (hg4.block rc (HR3.out.below hal).lt (by rcases hrt with h | h <;> intro e <;> rw [← e] at h <;> simp at h)).trans (HR3.out.below hal)
    obtain ⟨p4, c4, rfl, -, -⟩ := owns_slice ho4
    have HOW4 : Hid (w4.ownsRow B 73 3 (.slice p4 (FL + 1) c4) (FL + 1) ((F ++ [q]).flatMap encE)) := by
     unfold Hid
     rw [List.flatMap_append, List.flatMap_singleton]
     exact ho4
    have HOW5 := Lib.hid (own_put (i := 3) (u := .slice p4 (FL + 1) c4) HOW4.out HO4.out (by decide))
    have HO5 := Lib.hid (HO4.out.set 3 (.slice p4 (FL + 1) c4))
    have HR5 := Lib.hid (blk_put HR4.out 3 (.slice p4 (FL + 1) c4) HNE.out)
    have o34 := HO4.out.cell 3 rfl
    have o35 := HO4.out.frozen 3
    clear ho4 hg4 hal hot hrt f0 f1 f2 o3
    go_wp2
    go_roundw
    case rel => exact ⟨k + 1, p4, c4, by omega, by go_num, HB4.out.setCell hBo _, HR5.out, by rw [HT.out, List.length_append, List.length_singleton, ← HFL.out]; exact HO5.out, by rw [HT.out, List.length_append, List.length_singleton, ← HFL.out]; exact HOW5.out⟩
    case measure => simp [intOf]; omega
  ·have HKE : Hid (k = EN) := Lib.hid (show k = EN by omega)
   have o0 := HO.out.cell 0 rfl
   have o1 := HO.out.cell 1 rfl
   have o2 := HO.out.cell 2 rfl
   have o3 := HO.out.cell 3 rfl
   have r0 := HR.out.cell 0 rfl
   have r1 := HR.out.cell 1 rfl
   have r2 := HR.out.cell 2 rfl
   have r3 := HR.out.cell 3 rfl
   have s0 := HR.out.frozen 0
   have s1 := HR.out.frozen 1
   have s2 := HR.out.frozen 2
   have s3 := HR.out.frozen 3
   go_wp2
   refine bodyPost_ret (only_results rfl (put4 HR.out)) rfl ?_
   have hf : t.edges.filter K = F := by rw [HF.out, HKE.out, HEN.out, List.take_length]
   refine ⟨_, rfl, ?_, ?_⟩
   ·have := below_put4 (v0 := .int .i64 t.states) (v1 := .int .i64 t.initial) (v2 := .slice l1 l2 l3) (v3 := .slice p FL c) HBL.out hBr
    rw [HB.out] at this
    exact this
   ·rw [hf, ← HFL.out, ← HB.out]
    exact own_put4 HR.out HOW.out (by decide)

end Go.Proofs.YtbjbjbnbapeajaaGreatDoor

namespace Go.Proofs.YtbjbjbnbapeajaaGreatDoor
open Go Go.RowKit

set_option maxRecDepth 100000 in
set_option maxHeartbeats 2000000 in
theorem clone_any (lo lo2 : Nat) (t : Lts) (lv ev : Value) (w : World) (hz : t.labels.length ≤ 1048576) (hz2 : t.edges.length ≤ 1048576) (hl : SliceK 1 encS lo w lv t.labels) (he : SliceK 3 encE lo2 w ev t.edges) :
  Calls Tryz.prog 54 #[.agg #[.int .i64 t.states, .int .i64 t.initial, lv, ev]] w fun e w' => ∃ lv' ev', e = .returned (.agg #[.int .i64 t.states, .int .i64 t.initial, lv', ev']) ∧ Below w.heap.size w w' ∧ OwnLts w.heap.size w' lv' ev' t := by
 obtain ⟨tb, htb⟩ : ∃ tb, tb = w.heap.size := ⟨_, rfl⟩
 obtain ⟨rc, hrc⟩ : ∃ rc, rc = w.heap.size + 1 := ⟨_, rfl⟩
 obtain ⟨W, hW⟩ : ∃ W, W = (w.alloc (.cells #[.int .i64 t.states, .int .i64 t.initial, lv, ev] 29)).alloc (.cells #[.int .i64 0, .int .i64 0, .slice none 0 0, .slice none 0 0] 29) := ⟨_, rfl⟩
 have hb : Below w.heap.size w W := by rw [hW]; exact ((Below.refl _ _).alloc (Nat.le_refl _) _).alloc (by simp) _
 have hT : Blk W tb [.int .i64 t.states, .int .i64 t.initial, lv, ev] 29 := by rw [hW, htb]; exact (Blk.new w _ _).alloc _
 have hR : Blk W rc [.int .i64 0, .int .i64 0, .slice none 0 0, .slice none 0 0] 29 := by
  have h := Blk.new (w.alloc (.cells #[.int .i64 t.states, .int .i64 t.initial, lv, ev] 29)) [.int .i64 0, .int .i64 0, .slice none 0 0, .slice none 0 0] 29
  rw [World.size_alloc, ← hrc] at h
  rw [hW]
  exact h
 have hne : tb ≠ rc := by omega
 have hle : w.heap.size ≤ rc := by omega
 have hD : Below W.heap.size W W.drew := (Below.refl _ _).drew
 have HCS := Lib.hid (CloneS_own lo lv t.labels W.drew ((hl.below hb).below hD) hz)
 have HCE : Hid (∀ w', Below W.heap.size W w' → Calls Tryz.prog 76 #[ev] w' fun e w'' => ∃ v', e = .returned v' ∧ w''.ownsRow w'.heap.size 73 3 v' t.edges.length (t.edges.flatMap encE) ∧ Below w'.heap.size w' w'') := fun w' hb' => CloneE_own lo2 ev t.edges w' ((he.below hb).below hb') hz2
 have HSW : Hid (∀ w', Below W.heap.size W w' → w'.cell? ⟨tb, 0, none⟩ = some (.int .i64 t.states) ∧ w'.cell? ⟨tb, 1, none⟩ = some (.int .i64 t.initial) ∧ w'.cell? ⟨tb, 2, none⟩ = some lv ∧ w'.cell? ⟨tb, 3, none⟩ = some ev) := fun w' hb' =>
  ⟨(hT.below hb').cell 0 rfl, (hT.below hb').cell 1 rfl, (hT.below hb').cell 2 rfl, (hT.below hb').cell 3 rfl⟩
 have HKP : Hid (∀ (w' : World) (v0 v1 v2 v3 : Value), (w'.cell? ⟨tb, 0, none⟩ = some (.int .i64 t.states) ∧ w'.cell? ⟨tb, 1, none⟩ = some (.int .i64 t.initial) ∧ w'.cell? ⟨tb, 2, none⟩ = some lv ∧ w'.cell? ⟨tb, 3, none⟩ = some ev) →
   (((((w'.setCell ⟨rc, 0, none⟩ v0).setCell ⟨rc, 1, none⟩ v1).setCell ⟨rc, 2, none⟩ v2).setCell ⟨rc, 3, none⟩ v3).cell? ⟨tb, 0, none⟩ = some (.int .i64 t.states) ∧ ((((w'.setCell ⟨rc, 0, none⟩ v0).setCell ⟨rc, 1, none⟩ v1).setCell ⟨rc, 2, none⟩ v2).setCell ⟨rc, 3, none⟩ v3).cell? ⟨tb, 1, none⟩ = some (.int .i64 t.initial)
    ∧ ((((w'.setCell ⟨rc, 0, none⟩ v0).setCell ⟨rc, 1, none⟩ v1).setCell ⟨rc, 2, none⟩ v2).setCell ⟨rc, 3, none⟩ v3).cell? ⟨tb, 2, none⟩ = some lv ∧ ((((w'.setCell ⟨rc, 0, none⟩ v0).setCell ⟨rc, 1, none⟩ v1).setCell ⟨rc, 2, none⟩ v2).setCell ⟨rc, 3, none⟩ v3).cell? ⟨tb, 3, none⟩ = some ev)) := by
  rintro w' v0 v1 v2 v3 ⟨h0, h1, h2, h3⟩
  have hf : ∀ (x : World) (j o : Nat) (u : Value), (x.setCell ⟨rc, j, none⟩ u).cell? ⟨tb, o, none⟩ = x.cell? ⟨tb, o, none⟩ := fun x j o u => World.cell?_setCell_far _ _ _ _ fun k => hne k.symm
  refine ⟨?_, ?_, ?_, ?_⟩ <;> rw [hf, hf, hf, hf] <;> assumption
 have HD := Lib.hid hD
 have HB := Lib.hid hb
 have HR := Lib.hid hR
 have HW := Lib.hid hW
 have HTB := Lib.hid htb
 have HRC := Lib.hid hrc
 have hsW : w.heap.size ≤ W.heap.size := hb.size
 clear hl he hb hT hR hD hW htb hrc hne
 go_enter Tryz.func54, Tryz.ntmps54
 go_wp2
 rw [← HW.out]
 rw [← HRC.out, ← HTB.out]
 go_region_held3 (fun w' => w'.cell? ⟨tb, 0, none⟩ = some (.int .i64 t.states) ∧ w'.cell? ⟨tb, 1, none⟩ = some (.int .i64 t.initial) ∧ w'.cell? ⟨tb, 2, none⟩ = some lv ∧ w'.cell? ⟨tb, 3, none⟩ = some ev)
  (first
   | exact HSW.out _ HD.out
   | exact HSW.out _ hq1
   | exact HSW.out _ hq2
   | exact HKP.out _ _ _ _ _ (HSW.out _ hq2)
   | go_keep)
  (first
   | (go_at_call 75; refine Calls.mono HCS.out ?_; rintro e w1 ⟨v1, rfl, ho1, hb1⟩; obtain ⟨a1, c1, rfl, -, -⟩ := owns_slice ho1; have hq1 : Below W.heap.size W w1 := HD.out.trans (hb1.mono (by simp)))
   | (go_at_call 76; refine Calls.mono (HCE.out _ hq1) ?_; rintro e w2 ⟨v2, rfl, ho2, hb2⟩; obtain ⟨a2, c2, rfl, -, -⟩ := owns_slice ho2; have hq2 : Below W.heap.size W w2 := hq1.trans (hb2.mono hq1.size); have hr2 := HR.out.below hq2; have r0 := hr2.cell 0 rfl; have r1 := hr2.cell 1 rfl; have r2 := hr2.cell 2 rfl; have r3 := hr2.cell 3 rfl; have s0 := hr2.frozen 0; have s1 := hr2.frozen 1; have s2 := hr2.frozen 2; have s3 := hr2.frozen 3)
   | fail)
 all_goals (
  have HQ := Lib.hid (HB.out.trans (hq2.mono hsW))
  have HO1 := Lib.hid (own_lower (owns_below ho1 hb2) (Nat.le_trans hsW (by simp)))
  have HO2 := Lib.hid (own_lower ho2 (Nat.le_trans hsW hq1.size))
  have HR2 := Lib.hid hr2
  clear hb1 ho1 hq1 hb2 ho2 hq2 hr2 r0 r1 r2 r3 s0 s1 s2 s3
  go_wp2
  refine bodyPost_ret (clone_results rfl (put4 HR2.out)) rfl ?_
  refine ⟨_, _, rfl, below_put4 HQ.out hle, ?_, ?_⟩
  ·exact own_put4 HR2.out HO1.out (by decide)
  ·exact own_put4 HR2.out HO2.out (by decide))

end Go.Proofs.YtbjbjbnbapeajaaGreatDoor

namespace Go.Proofs.YtbjbjbnbapeajaaGreatDoor
open Go Go.RowKit

theorem PbIs.few {t d : Lts} {code : Int} (h : PbIs t d code) : d.labels.length ≤ 12 ∧ d.edges.length ≤ 440 := by
 rcases h with ⟨-, rfl, -⟩ | ⟨hv, N, -, rfl, -⟩
 ·simp
 ·exact ⟨hv.labels.most, Nat.le_trans (keptG_le t N) (Nat.le_trans hv.most (by omega))⟩
def RetPb (t : Lts) (w : World) (e : Ending) (w' : World) : Prop :=
 Below w.heap.size w w' ∧ ∃ (d : Lts) (code : Int) (lv ev : Value), e = .returned (.tuple #[.agg #[.int .i64 d.states, .int .i64 d.initial, lv, ev], .int .i64 code]) ∧ PbIs t d code ∧ OwnLts w.heap.size w' lv ev d
theorem pb_none {t : Lts} {w w' : World} (hb : Below w.heap.size w w') (h : ¬ Valid t) : RetPb t w (.returned (.tuple #[.agg #[.int .i64 0, .int .i64 0, .slice none 0 0, .slice none 0 0], .int .i64 1])) w' :=
 ⟨hb, ⟨0, 0, [], []⟩, 1, _, _, rfl, .inl ⟨h, rfl, rfl⟩, World.ownsRow_nil _ _ _ _, World.ownsRow_nil _ _ _ _⟩
/-- A system without its little brothers, of the call's own. -/
def MadePb (t : Lts) (w : World) (e : Ending) (w' : World) : Prop :=
 Below w.heap.size w w' ∧ ∃ (N : PairSet) (lv ev : Value), e = .returned (.agg #[.int .i64 t.states, .int .i64 t.initial, lv, ev]) ∧ Great t t (allG t t) N ∧ OwnLts w.heap.size w' lv ev ⟨t.states, t.initial, t.labels, keptG t N⟩

end Go.Proofs.YtbjbjbnbapeajaaGreatDoor

namespace Go.Proofs.YtbjbjbnbapeajaaGreatDoor
open Go Go.RowKit

theorem prb_results {w : World} {b : Nat} {v0 v1 v2 v3 : Value} {tmps : Array Value} (hc : tmps.getD 2 undef = .pointer (some ⟨b, 0, none⟩)) (hb : Blk w b [v0, v1, v2, v3] 29) :
  (results Tryz.f24 tmps).run Tryz.prog w = .ok (.agg #[v0, v1, v2, v3]) w := by
 have h0 := hb.cell 0 rfl
 have h1 := hb.cell 1 rfl
 have h2 := hb.cell 2 rfl
 have h3 := hb.cell 3 rfl
 simp only [Array.getD_eq_getD_getElem?] at hc
 simp [results, Tryz.results24, go_sem, hc, h0, h1, h2, h3, Result.andThen]

set_option maxRecDepth 100000 in
theorem pb1_any (ib fid : Nat) (caps : Array Value) (b : Bool) (e : Edge) (w : World) (hI : Blk w ib [.func (.func fid) #[] caps] 84) (eg : ∀ args w, (callFunc fid args).run Tryz.prog w = .ok (.enter fid args) w)
  (hC : ∀ w', Below w.heap.size w w' → Calls Tryz.prog fid (#[.agg #[.int .i64 e.src, .int .i64 e.lab, .int .i64 e.dst]] ++ caps) w' fun r w'' => r = .returned (.bool b) ∧ Below w'.heap.size w' w'') :
  Calls Tryz.prog 53 #[.agg #[.int .i64 e.src, .int .i64 e.lab, .int .i64 e.dst], .pointer (some ⟨ib, 0, none⟩)] w fun r w' => r = .returned (.bool (!b)) ∧ Below w.heap.size w w' := by
 have hb := box_belowL w #[.int .i64 e.src, .int .i64 e.lab, .int .i64 e.dst] 73
 have HB := Lib.hid hb
 have HC := Lib.hid (hC _ hb)
 have i0 := hI.cell 0 rfl
 have hil := hI.lt
 clear hI hC hb
 go_enter Tryz.func53, Tryz.ntmps53
 go_wp2_with fail
 refine Calls.mono HC.out ?_
 rintro r w1 ⟨rfl, hb1⟩
 have HB1 := Lib.hid (HB.out.trans (hb1.mono HB.out.size))
 clear hb1 HC i0
 go_wp2
 go_ret
 exact ⟨rfl, HB1.out⟩

set_option maxRecDepth 100000 in
set_option maxHeartbeats 1000000 in
theorem pruneBrothers_any (lo : Nat) (t : Lts) (lv ev : Value) (w : World) (hv : Valid t) (hl : SliceK 1 encS lo w lv t.labels) (he : SliceK 3 encE lo w ev t.edges) :
  Calls Tryz.prog 24 #[.agg #[.int .i64 t.states, .int .i64 t.initial, lv, ev]] w (MadePb t w) := by
 have hlv : ∃ p n c, lv = .slice p n c := by obtain ⟨p, c, e, -⟩ := hl; exact ⟨_, _, _, e⟩
 obtain ⟨tb, htb⟩ : ∃ tb, tb = w.heap.size := ⟨_, rfl⟩
 obtain ⟨rc, hrc⟩ : ∃ rc, rc = w.heap.size + 1 := ⟨_, rfl⟩
 obtain ⟨W, hW⟩ : ∃ W, W = (w.alloc (.cells #[.int .i64 t.states, .int .i64 t.initial, lv, ev] 29)).alloc (.cells #[.int .i64 0, .int .i64 0, .slice none 0 0, .slice none 0 0] 29) := ⟨_, rfl⟩
 have hb : Below w.heap.size w W := by rw [hW]; exact ((Below.refl _ _).alloc (Nat.le_refl _) _).alloc (by simp) _
 have hT : Blk W tb [.int .i64 t.states, .int .i64 t.initial, lv, ev] 29 := by rw [hW, htb]; exact (Blk.new w _ _).alloc _
 have hR : Blk W rc [.int .i64 0, .int .i64 0, .slice none 0 0, .slice none 0 0] 29 := by
  have h := Blk.new (w.alloc (.cells #[.int .i64 t.states, .int .i64 t.initial, lv, ev] 29)) [.int .i64 0, .int .i64 0, .slice none 0 0, .slice none 0 0] 29
  rw [World.size_alloc, ← hrc] at h
  rw [hW]
  exact h
 have hle : w.heap.size ≤ rc := by omega
 have HLB := Lib.hid (littleBrothers_any lo t lv ev W hv (hl.below hb) (he.below hb))
 have HV := Lib.hid hv
 have HLV := Lib.hid hlv
 have HB := Lib.hid hb
 have HT := Lib.hid hT
 have HR := Lib.hid hR
 have HL := Lib.hid (hl.below hb)
 have HE := Lib.hid (he.below hb)
 have HW := Lib.hid hW
 have HTB := Lib.hid htb
 have HRC := Lib.hid hrc
 have hsW : w.heap.size ≤ W.heap.size := hb.size
 have t0 := hT.cell 0 rfl
 have t1 := hT.cell 1 rfl
 have t2 := hT.cell 2 rfl
 have t3 := hT.cell 3 rfl
 rw [hW, htb] at t0 t1 t2 t3
 clear hv hl he hlv hb hT hR hW htb hrc
 go_enter Tryz.func24, Tryz.ntmps24
 go_wp2_with fail
 rw [← HW.out]
 rw [← HRC.out, ← HTB.out]
 refine Calls.mono HLB.out ?_
 rintro e w1 ⟨tb2, nb, mb, ps, rfl, hb1, hT2, hN2, hM2, hG⟩
 obtain ⟨W2, hW2⟩ : ∃ W2, W2 = w1.alloc (.cells #[.func (.func 72) #[] #[.pointer (some ⟨tb2, 0, none⟩), .pointer (some ⟨nb, 0, none⟩)]] 84) := ⟨_, rfl⟩
 obtain ⟨ib, hib⟩ : ∃ ib, ib = w1.heap.size := ⟨_, rfl⟩
 have hb2 : Below w1.heap.size w1 W2 := by rw [hW2]; exact box_belowL _ _ _
 have hI : Blk W2 ib [.func (.func 72) #[] #[.pointer (some ⟨tb2, 0, none⟩), .pointer (some ⟨nb, 0, none⟩)]] 84 := by rw [hW2, hib]; exact Blk.new w1 _ _
 have h12 : Below W.heap.size W W2 := hb1.trans (hb2.mono hb1.size)
 have HT2 := Lib.hid (hT2.below hb2)
 have HN2 := Lib.hid (hN2.below hb2)
 have HM2 := Lib.hid (hM2.below hb2)
 have HI := Lib.hid hI
 have HGG := Lib.hid hG
 have HOA := Lib.hid (only_any lo 53 #[.pointer (some ⟨ib, 0, none⟩)] (fun e => !(brother t (setOf ps) e)) t lv ev W2 (Nat.le_trans HV.out.most (by decide)) HLV.out (HE.out.below h12) (fun args w => by kernel_rfl)
  (fun w' hb' x hx => pb1_any ib 72 #[.pointer (some ⟨tb2, 0, none⟩), .pointer (some ⟨nb, 0, none⟩)] (brother t (setOf ps) x) x w' (HI.out.below hb') (fun args w => by kernel_rfl) (fun w2 h2 => by
   have h3 := hb'.trans (h2.mono hb'.size)
   exact lb1_any lo tb2 nb mb t lv ev ps x w2 HV.out ((HE.out.below h12).below h3) (HT2.out.below h3) (HN2.out.below h3) (HM2.out.below h3) hx)))
 have HB2 := Lib.hid (HB.out.trans (h12.mono hsW))
 have HR2 := Lib.hid (HR.out.below h12)
 have HL2 := Lib.hid (HL.out.below h12)
 have hs2 : w.heap.size ≤ W2.heap.size := HB2.out.size
 have HW2 := Lib.hid hW2
 have HIB := Lib.hid hib
 clear t0 t1 t2 t3
 have t0 := (HT.out.below h12).cell 0 rfl
 have t1 := (HT.out.below h12).cell 1 rfl
 have t2 := (HT.out.below h12).cell 2 rfl
 have t3 := (HT.out.below h12).cell 3 rfl
 rw [hW2] at t0 t1 t2 t3
 have htl := (HT.out.below hb1).lt
 clear hb1 hT2 hN2 hM2 hG hW2 hib hb2 hI h12 HLB
 go_wp2_with fail
 rw [← HW2.out]
 try rw [← HIB.out]
 refine Calls.mono HOA.out ?_
 rintro e w3 ⟨ev', rfl, hb3, ho3⟩
 have HKG : Hid (t.edges.filter (fun e => !(brother t (setOf ps) e)) = keptG t (setOf ps)) := rfl
 rw [HKG.out] at ho3
 have hkl : (keptG t (setOf ps)).length ≤ 1048576 := Nat.le_trans (keptG_le _ _) (Nat.le_trans HV.out.most (by decide))
 have HCL := Lib.hid (clone_any lo W2.heap.size ⟨t.states, t.initial, t.labels, keptG t (setOf ps)⟩ lv ev' w3 (Nat.le_trans HV.out.labels.most (by decide)) hkl (HL2.out.below hb3) (SliceK.of_owns (enc := encE) encE_len rfl ho3))
 have HB3 := Lib.hid (HB2.out.trans (hb3.mono hs2))
 have HR3 := Lib.hid (HR2.out.below hb3)
 have hs3 : w.heap.size ≤ w3.heap.size := HB3.out.size
 clear hb3 ho3 hkl t0 t1 t2 t3 HOA
 go_wp2_with fail
 refine Calls.mono HCL.out ?_
 rintro e w4 ⟨lv4, ev4, rfl, hb4, ho4⟩
 obtain ⟨a1, c1, rfl, -, -⟩ := owns_slice ho4.1
 obtain ⟨a2, c2, rfl, -, -⟩ := owns_slice ho4.2
 have HB4 := Lib.hid (HB3.out.trans (hb4.mono hs3))
 have hr4 := HR3.out.below hb4
 have r0 := hr4.cell 0 rfl
 have r1 := hr4.cell 1 rfl
 have r2 := hr4.cell 2 rfl
 have r3 := hr4.cell 3 rfl
 have s0 := hr4.frozen 0
 have s1 := hr4.frozen 1
 have s2 := hr4.frozen 2
 have s3 := hr4.frozen 3
 have HR4 := Lib.hid hr4
 have HO4 := Lib.hid (ho4.lower hs3)
 clear hb4 hr4 ho4 HCL
 go_wp2
 refine bodyPost_ret (prb_results rfl (put4 HR4.out)) rfl ?_
 refine ⟨below_put4 HB4.out hle, setOf ps, _, _, rfl, HGG.out, ?_, ?_⟩
 ·exact own_put4 HR4.out HO4.out.1 (by decide)
 ·exact own_put4 HR4.out HO4.out.2 (by decide)

end Go.Proofs.YtbjbjbnbapeajaaGreatDoor

namespace Go.Proofs.YtbjbjbnbapeajaaGreatDoor
open Go Go.RowKit

def isVal (n : Int) : Bool := decide (0 ≤ n) && decide (n ≤ 63)

theorem areValues1_any (n : Int) (w : World) : Calls Tryz.prog 162 #[.int .i64 n] w fun e w' => e = .returned (.bool (!isVal n)) ∧ w = w' := by
 go_enter Tryz.func162, Tryz.ntmps162
 go_wp2_with fail
 refine (isValue_any _ _).mono ?_
 rintro e w' ⟨rfl, rfl⟩
 have HF : Hid ((!decide (0 ≤ n) || !decide (n ≤ 63)) = !isVal n) := by unfold Hid isVal; rw [Bool.not_and]
 go_wp2_with fail
 go_ret
 exact ⟨ret_bool HF.out, rfl⟩

set_option maxHeartbeats 1000000 in
theorem IndexFunc_vals (lo : Nat) (v : Value) (xs : List Int) (w : World) (hv : SliceK 1 encI lo w v xs) :
  Calls Tryz.prog 140 #[v, .func (.func 162) #[] #[]] w fun e w' => ∃ r : Int, e = .returned (.int .i64 r) ∧ decide (0 ≤ r) = !xs.all isVal ∧ w = w' := by
 obtain ⟨a, c, rfl, hcn, hcc, hrow⟩ := hv
 go_enter Tryz.func140, Tryz.ntmps140
 go_wp2_with fail
 go_loop [8] (fun i => ∃ k : Nat, k ≤ xs.length ∧ i = .int .i64 k ∧ ∀ j (h : j < xs.length), j < k → isVal xs[j] = true) (fun i => xs.length - (intOf i).toNat)
 case atStart => exact ⟨0, Nat.zero_le _, rfl, fun _ _ h => by omega⟩
 case round =>
  obtain ⟨k, hk, rfl, ha⟩ := hrel
  have HA := Lib.hid ha
  clear ha
  by_cases hlt : k < xs.length
  ·obtain ⟨b1, o1, rfl, -, hbs, c1⟩ := hrow.one hlt
   simp only [encI, List.getElem?_cons_zero] at c1
   clear hrow
   obtain ⟨b, hb⟩ : ∃ b, isVal xs[k] = b := ⟨_, rfl⟩
   have HB := Lib.hid hb
   clear hb
   go_wp2_with fail
   refine (areValues1_any _ _).mono ?_
   rintro e w' ⟨rfl, rfl⟩
   rw [HB.out]
   cases b
   ·go_wp2_with fail
    go_ret
    refine ⟨_, rfl, ?_, rfl⟩
    have h1 : xs.all isVal = false := by
     rw [List.all_eq_false]
     exact ⟨xs[k], List.getElem_mem _, by rw [HB.out]; simp⟩
    rw [h1]; simp
   ·go_wp2_with fail
    go_round
    case rel => exact ⟨k + 1, by omega, by go_num, fun j h hj => by
     by_cases e : j = k
     ·subst e; exact HB.out
     ·exact HA.out j h (by omega)⟩
    case measure => simp [intOf]; omega
  ·clear hrow
   go_wp2_with fail
   go_ret
   refine ⟨_, rfl, ?_, rfl⟩
   have h1 : xs.all isVal = true := by
    rw [List.all_eq_true]
    intro x hxm
    obtain ⟨j, hj, rfl⟩ := List.mem_iff_getElem.1 hxm
    exact HA.out j hj (by omega)
   rw [h1]; simp

theorem ContainsFunc_vals (lo : Nat) (v : Value) (xs : List Int) (w : World) (hv : SliceK 1 encI lo w v xs) :
  Calls Tryz.prog 102 #[v, .func (.func 162) #[] #[]] w fun e w' => e = .returned (.bool (!xs.all isVal)) ∧ w = w' := by
 have HV := Lib.hid hv
 clear hv
 go_enter Tryz.func102, Tryz.ntmps102
 go_wp2_with fail
 refine (IndexFunc_vals lo v xs _ HV.out).mono ?_
 rintro e w' ⟨r, rfl, hr, rfl⟩
 have HR := Lib.hid hr
 clear hr
 go_wp2_with fail
 go_ret
 exact ⟨ret_bool HR.out, rfl⟩

theorem areValues_any (lo : Nat) (v : Value) (xs : List Int) (w : World) (hv : SliceK 1 encI lo w v xs) :
  Calls Tryz.prog 127 #[v] w fun e w' => e = .returned (.bool (xs.all isVal)) ∧ w = w' := by
 have HV := Lib.hid hv
 clear hv
 go_enter Tryz.func127, Tryz.ntmps127
 go_wp2_with fail
 refine (ContainsFunc_vals lo v xs _ HV.out).mono ?_
 rintro e w' ⟨rfl, rfl⟩
 go_wp2_with fail
 go_ret
 exact ⟨ret_bool (by simp), rfl⟩

end Go.Proofs.YtbjbjbnbapeajaaGreatDoor

namespace Go.Proofs.YtbjbjbnbapeajaaGreatDoor
open Go Go.RowKit

/-- Words read as numbers. -/
def decs (ss : List ByteArray) : List Int := ss.map fun s => (readDec s.data.toList).getD 0
def decsOk (ss : List ByteArray) : Bool := ss.all fun s => (readDec s.data.toList).isSome
def RetNums (ss : List ByteArray) (w : World) (e : Ending) (w' : World) : Prop :=
 ∃ v, e = .returned (.tuple #[v, .bool (decsOk ss)]) ∧ Below w.heap.size w w' ∧ (decsOk ss = true → w'.ownsRow w.heap.size 2 1 v (decs ss).length ((decs ss).map (Value.int .i64)))

theorem decsOk_none {ss : List ByteArray} {j : Nat} (h : j < ss.length) (hn : readDec ss[j].data.toList = none) : decsOk ss = false := by
 unfold decsOk
 rw [List.all_eq_false]
 exact ⟨ss[j], List.getElem_mem _, by rw [hn]; simp⟩

set_option maxRecDepth 100000 in
set_option maxHeartbeats 2000000 in
theorem readNumbers_any (lo : Nat) (v : Value) (ss : List ByteArray) (w : World) (hs : ∀ i (h : i < ss.length), ss[i].size ≤ 1073741824) (hl : ss.length ≤ 1073741824) (hv : SliceK 1 encS lo w v ss) (g : Glob w) :
  Calls Tryz.prog 91 #[v] w (RetNums ss w) := by
 obtain ⟨a, c, rfl, hcn, hcc, hrow⟩ := hv
 obtain ⟨i0, hi, hz0, hz1, hz2⟩ := info_parts info_int64
 have G := Lib.hid g
 have HSZ := Lib.hid hs
 clear g hs
 go_enter Tryz.func91, Tryz.ntmps91
 go_wp2_with fail
 go_loopw [4, 11] (fun v i wr => ∃ k : Nat, k ≤ ss.length ∧ i = .int .i64 k ∧ Below w.heap.size w wr ∧ wr.ownsRow w.heap.size 2 1 v k ((decs (ss.take k)).map (Value.int .i64)) ∧ ∀ q (h : q < ss.length), q < k → (readDec ss[q].data.toList).isSome = true) (fun _ i _ => ss.length - (intOf i).toNat)
 case atStart => exact ⟨0, Nat.zero_le _, rfl, Below.refl _ _, World.ownsRow_nil _ _ _ _, fun _ _ h => by omega⟩
 case round =>
  obtain ⟨k, hk, rfl, hb, ho, ha⟩ := hrel
  have HA := Lib.hid ha
  have HB := Lib.hid hb
  have HO := Lib.hid ho
  have hsz := hb.size
  clear ha hb ho
  by_cases hlt : k < ss.length
  ·obtain ⟨b1, o1, rfl, -, hbs, c1⟩ := (hrow.below HB.out).one hlt
   simp only [encS, List.getElem?_cons_zero] at c1
   clear hrow
   obtain ⟨p, hp⟩ : ∃ p, p = ss[k] := ⟨_, rfl⟩
   rw [← hp] at c1
   have HP := Lib.hid hp
   have hpz : p.size ≤ 1073741824 := by rw [hp]; exact HSZ.out k hlt
   clear hp
   obtain ⟨o, hd⟩ : ∃ o, readDec p.data.toList = o := ⟨_, rfl⟩
   have HD := Lib.hid hd
   clear hd
   go_wp2_with fail
   refine (ReadDecimal_any _ _ hpz (G.out.below HB.out)).mono ?_
   rintro e w1 ⟨rfl, hb1⟩
   have HB1 := Lib.hid hb1
   have hs1 := hb1.size
   clear hb1
   rw [HD.out]
   cases o with
   | none =>
    simp only [Option.isSome_none, Option.getD_none]
    go_wp2_with fail
    go_ret2
    have hf : decsOk ss = false := decsOk_none hlt (by rw [← HP.out]; exact HD.out)
    exact ⟨.slice none 0 0, by rw [hf]; rfl, HB.out.trans (HB1.out.mono hsz), fun h => by rw [hf] at h; cases h⟩
   | some n =>
    simp only [Option.isSome_some, Option.getD_some]
    have HO1 := Lib.hid (owns_below HO.out HB1.out)
    have HBB := Lib.hid (HB.out.trans (HB1.out.mono hsz))
    clear c1
    go_wp2_with (at_builtin; refine wpList_append_own _ rfl _ _ 68 rfl w.heap.size 2 i0 (.int .i64 0) 1 8 Tryz.underlying68 hi hz0 hz1 hz2 rfl (by decide) _ _ _ rfl (HO1.out.alloc _) ⟨w1.heap.size, 0, none⟩ 1 1 [.int .i64 n] rfl rfl ?c1 ?c2 ?c3 ?c4 ?c5 ?_)
    case c1 => exact (cell_one_new _ _ _)
    case c2 => intro u hu; simp at hu; subst hu; rfl
    case c3 => simp [maxLen]; omega
    case c4 => omega
    case c5 => simp; omega
    intro v' w3 ho1 hg1 _
    have HO2 : Hid (w3.ownsRow w.heap.size 2 1 v' (k + 1) ((decs (ss.take (k + 1))).map (Value.int .i64))) := by
     have e : (decs (ss.take (k + 1))).map (Value.int .i64) = (decs (ss.take k)).map (Value.int .i64) ++ [.int .i64 n] := by
      unfold decs
      rw [List.take_succ_eq_append_getElem hlt, List.map_append, List.map_append, ← HP.out]
      simp [HD.out]
     unfold Hid
     rw [e]
     exact ho1
    have HBX : Hid (Below w.heap.size w w3) := (HBB.out.alloc (by omega) _).grown hg1 (by simp; omega) (fun b e => (HO1.out.lt b e).1)
    clear ho1 hg1
    go_wp2
    go_roundw
    case rel => exact ⟨k + 1, by omega, by go_num, HBX.out, HO2.out, fun q h h' => by
     by_cases e : q = k
     ·subst e; rw [← HP.out, HD.out]; rfl
     ·exact HA.out q h (by omega)⟩
    case measure => simp [intOf]; omega
  ·obtain rfl : k = ss.length := by omega
   have HF : Hid (decsOk ss = true) := by
    unfold Hid decsOk
    rw [List.all_eq_true]
    intro x hx
    obtain ⟨q, hq, rfl⟩ := List.mem_iff_getElem.1 hx
    exact HA.out q hq hq
   have HO2 : Hid (wr.ownsRow w.heap.size 2 1 u4 (decs ss).length ((decs ss).map (Value.int .i64))) := by
    have := HO.out
    rw [List.take_length] at this
    unfold Hid
    rw [show (decs ss).length = ss.length from by simp [decs]]
    exact this
   clear hrow HO
   go_wp2_with fail
   go_ret2
   exact ⟨_, by rw [HF.out]; rfl, HB.out, fun _ => HO2.out⟩

end Go.Proofs.YtbjbjbnbapeajaaGreatDoor

namespace Go.Proofs.YtbjbjbnbapeajaaGreatDoor
open Go Go.RowKit

def wordsOf (xs : List Int) : List ByteArray := xs.map fun n => ⟨(Lib.itoa n).toArray⟩

set_option maxHeartbeats 1000000 in
theorem joined_any (v : Value) (sep : ByteArray) (lo : Nat) (xs : List Int) (w : World) (hn : xs.length ≤ 1048576) (hb : ∀ i (h : i < xs.length), -9223372036854775808 ≤ xs[i] ∧ xs[i] ≤ 9223372036854775807) (hv : SliceK 1 encI lo w v xs) (g : Glob w)
  (hlen : (Lib.join ((wordsOf xs).map (·.data.toList)) sep.data.toList).length ≤ 1073741824) :
  Calls Tryz.prog 128 #[v, .string sep] w fun e w' => e = .returned (.string ⟨(Lib.join ((wordsOf xs).map (·.data.toList)) sep.data.toList).toArray⟩) ∧ Below w.heap.size w w' := by
 obtain ⟨a, ca, rfl, hna, hca, ha⟩ := hv
 obtain ⟨i0, hi, hz0, hz1, hz2⟩ := info_parts info_str
 have HBD := Lib.hid hb
 have G := Lib.hid g
 have HLEN := Lib.hid hlen
 clear hb g hlen
 go_enter Tryz.func128, Tryz.ntmps128
 go_wp2_with (at_make; refine wpList_make_full _ rfl _ _ 22 rfl w.heap.size 9 i0 _ 1 Tryz.underlying22 hi hz0 hz1 .i64 .i64 _ _ xs.length rfl rfl rfl rfl ?_ ?_ ?_ ?_)
 ·rw [hz2]; omega
 ·simp [maxLen]; omega
 ·exact Nat.le_refl _
 ·intro w1 ho hg
  rw [toList_madeCells_one] at ho
  have hb1 : Below w.heap.size w w1 := (Below.refl _ w).grown hg (Nat.le_refl _) (fun _ h => by cases h)
  clear hi hz0 hz1 hz2 i0
  have HO := Lib.hid ho
  clear ho hg
  go_wp2_with fail
  have hwl : (wordsOf xs).length = xs.length := by simp [wordsOf]
  go_loopw [13] (fun i wr => ∃ k : Nat, k ≤ xs.length ∧ i = .int .i64 k ∧ Below w.heap.size w wr ∧ w.heap.size < wr.heap.size ∧ wr.ownsRow w.heap.size 9 1 (.slice (some ⟨w.heap.size, 0, none⟩) xs.length xs.length) xs.length (((wordsOf xs).take k).map .string ++ List.replicate ((wordsOf xs).length - k) (.string ⟨#[]⟩))) (fun i _ => xs.length - (intOf i).toNat)
  case atStart => exact ⟨0, Nat.zero_le _, rfl, hb1, (HO.out.lt _ rfl).2, by simpa [hwl] using HO.out⟩
  case round =>
   obtain ⟨k, hk, rfl, hbl, hsl, ho⟩ := hrel
   clear HO hb1
   have HBL := Lib.hid hbl
   have HO1 := Lib.hid ho
   have hsz := hbl.size
   clear ho hbl
   by_cases hlt : k < xs.length
   ·obtain ⟨b1, o1, rfl, -, h1, c1⟩ := (ha.below HBL.out).one hlt
    simp only [encI, List.getElem?_cons_zero] at c1
    clear ha
    go_wp2_with fail
    refine (Decimal_any _ _ (HBD.out k hlt).1 (HBD.out k hlt).2 (G.out.below HBL.out)).mono ?_
    rintro e w2 ⟨rfl, hb2⟩
    have hlt' : k < (wordsOf xs).length := by omega
    have ho3 := owns_below HO1.out hb2
    have c2 := ho3.cellAt k (by omega)
    rw [filled_get _ _ _ _ hlt'] at c2
    have c3 := ho3.frozenAt k
    have ho2 := ho3.stored k (.string (wordsOf xs)[k])
    rw [filled_set _ _ _ _ hlt'] at ho2
    have hwk : (wordsOf xs)[k] = ⟨(Lib.itoa xs[k]).toArray⟩ := by simp [wordsOf]
    rw [hwk] at ho2
    have HO := Lib.hid ho2
    have HB2 := Lib.hid (HBL.out.trans (hb2.mono hsz))
    have hs2 := hb2.size
    clear ho2 ho3 hb2 HO1 HBL c1
    go_wp2
    go_roundw
    case rel => exact ⟨k + 1, by omega, by go_num, HB2.out.setCell (by exact Nat.le_refl _) _, by simp; omega, HO.out.1⟩
    case measure => simp [intOf]; omega
   ·clear ha
    obtain rfl : k = xs.length := by omega
    have ho4 : wr.ownsRow w.heap.size 9 1 (.slice (some ⟨w.heap.size, 0, none⟩) (wordsOf xs).length (wordsOf xs).length) (wordsOf xs).length ((wordsOf xs).flatMap encS) := by
     have := HO1.out
     rw [flat_encS, hwl]
     rw [hwl, ← hwl, List.take_length, Nat.sub_self, List.replicate_zero, List.append_nil, hwl] at this
     exact this
    have HC : Hid (∀ (j : Nat) x, (wordsOf xs)[j]? = some x → wr.cell? ⟨w.heap.size, 0 + j, none⟩ = some (.string x)) := by
     intro j x hx
     obtain ⟨hj, rfl⟩ := List.getElem?_eq_some_iff.1 hx
     have := ho4.cellAt j (by omega)
     rw [Nat.zero_add, this, flat_encS]
     simp [hj]
    clear ho4
    have HJ := Tryz.strings_Join w.heap.size 0 xs.length (wordsOf xs) sep wr HC.out hsl (by omega) (by omega) (Nat.le_trans HLEN.out (by decide))
    rw [hwl] at HJ
    have HJJ := Lib.hid HJ
    clear HJ
    go_wp2_with fail
    refine Calls.mono HJJ.out ?_
    rintro e w2 ⟨rfl, hb2⟩
    have HB2 := Lib.hid (HBL.out.trans (hb2.mono hsz))
    clear hb2
    go_wp2_with fail
    go_ret
    exact ⟨rfl, HB2.out⟩

end Go.Proofs.YtbjbjbnbapeajaaGreatDoor

namespace Go.Proofs.YtbjbjbnbapeajaaGreatDoor
open Go Go.RowKit

def labB (name : List UInt8) (xs : List Int) : Bool := if name = tauL then xs.isEmpty else isAction name && decide (xs.length ≤ 2) && xs.all isVal
def labTxt (name : List UInt8) (xs : List Int) : List UInt8 := if xs.isEmpty then name else name ++ 40 :: (Lib.join ((wordsOf xs).map (·.data.toList)) [44] ++ [41])
def RetLab (name : List UInt8) (xs : List Int) (w : World) (e : Ending) (w' : World) : Prop :=
 ∃ t : ByteArray, e = .returned (.tuple #[.string t, .bool (labB name xs)]) ∧ Below w.heap.size w w' ∧ (labB name xs = true → t.data.toList = labTxt name xs)

theorem two_digits : ∀ n : Nat, n < 64 → (Lib.decDigits n).length ≤ 2 := by
 intro n hn
 rw [Lib.decDigits_length]
 by_cases h : n < 10
 ·rw [Lib.nDigits_small h]; decide
 ·rw [Lib.nDigits_big h, Lib.nDigits_small (by omega)]; decide
theorem itoa_short {n : Int} (h : isVal n = true) : (Lib.itoa n).length ≤ 2 := by
 unfold isVal at h
 simp at h
 unfold Lib.itoa
 rw [if_neg (by omega)]
 exact two_digits _ (by omega)
theorem join_short {xs : List Int} (h2 : xs.length ≤ 2) (h : xs.all isVal = true) : (Lib.join ((wordsOf xs).map (·.data.toList)) [44]).length ≤ 5 := by
 match xs, h2, h with
 | [], _, _ => simp [wordsOf, Lib.join]
 | [x], _, h =>
  have hx := itoa_short (List.all_eq_true.1 h x (by simp))
  simp [wordsOf, Lib.join_length, Lib.lens]; omega
 | [x, y], _, h =>
  have hx := itoa_short (List.all_eq_true.1 h x (by simp))
  have hy := itoa_short (List.all_eq_true.1 h y (by simp))
  simp [wordsOf, Lib.join_length, Lib.lens]; omega

set_option maxRecDepth 100000 in
set_option maxHeartbeats 1000000 in
theorem labelOf_any (v : Value) (s : ByteArray) (lo : Nat) (xs : List Int) (w : World) (hs : s.size ≤ 1073741824) (hn : xs.length ≤ 1073741824) (hv : SliceK 1 encI lo w v xs) (g : Glob w) :
  Calls Tryz.prog 94 #[.string s, v] w (RetLab s.data.toList xs w) := by
 have HV := Lib.hid hv
 obtain ⟨a, ca, rfl, -, -, -⟩ := hv
 by_cases ht : s.toList = tauL
 ·have hb : Hid (labB s.data.toList xs = ((xs.length : Int) == 0)) := by
   unfold Hid labB
   rw [if_pos (by rw [← Lib.toList_data]; exact ht)]
   cases xs with
   | nil => rfl
   | cons x r =>
    have : (((x :: r).length : Int) == 0) = false := by rw [beq_eq_false_iff_ne]; simp; omega
    rw [this]; rfl
  have ht' : (s.toList == tauL) = true := by simpa using ht
  unfold tauL at ht ht'
  go_enter Tryz.func94, Tryz.ntmps94
  go_wp2_with fail
  go_ret2
  refine ⟨⟨#[116, 97, 117]⟩, by rw [hb.out]; rfl, Below.refl _ _, fun h => ?_⟩
  rw [hb.out] at h
  have h0 : xs = [] := List.eq_nil_of_length_eq_zero (by simpa using h)
  subst h0
  unfold labTxt
  have e : s.data.toList = [116, 97, 117] := by rw [← Lib.toList_data]; exact ht
  rw [e]
  rfl
 ·have hnt : ¬ s.data.toList = tauL := by rw [← Lib.toList_data]; exact ht
  have ht' : (s.toList == tauL) = false := by simpa using ht
  have HL : Hid (labB s.data.toList xs = (isAction s.data.toList && decide (xs.length ≤ 2) && xs.all isVal)) := by unfold Hid labB; rw [if_neg hnt]
  unfold tauL at ht ht' hnt
  obtain ⟨b, hb⟩ : ∃ b, isAction s.data.toList = b := ⟨_, rfl⟩
  have HB := Lib.hid hb
  clear hb
  cases b
  ·have HF : Hid (labB s.data.toList xs = false) := by unfold Hid; rw [HL.out, HB.out]; rfl
   go_enter Tryz.func94, Tryz.ntmps94
   go_wp2_with fail
   refine (IsAction_any _ _ hs).mono ?_
   rintro e w' ⟨rfl, rfl⟩
   rw [HB.out]
   go_wp2_with fail
   go_ret2
   exact ⟨⟨#[]⟩, by rw [HF.out]; rfl, Below.refl _ _, fun h => by rw [HF.out] at h; cases h⟩
  ·by_cases h2 : 2 < (xs.length : Int)
   ·have HF : Hid (labB s.data.toList xs = false) := by unfold Hid; rw [HL.out, decide_eq_false (by omega)]; simp
    go_enter Tryz.func94, Tryz.ntmps94
    go_wp2_with fail
    refine (IsAction_any _ _ hs).mono ?_
    rintro e w' ⟨rfl, rfl⟩
    rw [HB.out]
    go_wp2_with fail
    go_ret2
    exact ⟨⟨#[]⟩, by rw [HF.out]; rfl, Below.refl _ _, fun h => by rw [HF.out] at h; cases h⟩
   ·cases hall : xs.all isVal
    ·have HF : Hid (labB s.data.toList xs = false) := by unfold Hid; rw [HL.out, hall]; simp
     have HALL := Lib.hid hall
     clear hall
     go_enter Tryz.func94, Tryz.ntmps94
     go_wp2_with fail
     refine (IsAction_any _ _ hs).mono ?_
     rintro e w' ⟨rfl, rfl⟩
     rw [HB.out]
     go_wp2_with fail
     refine (areValues_any lo _ xs _ HV.out).mono ?_
     rintro e w' ⟨rfl, rfl⟩
     rw [HALL.out]
     go_wp2_with fail
     go_ret2
     exact ⟨⟨#[]⟩, by rw [HF.out]; rfl, Below.refl _ _, fun h => by rw [HF.out] at h; cases h⟩
    ·have HF : Hid (labB s.data.toList xs = true) := by unfold Hid; rw [HL.out, hall, HB.out, decide_eq_true (by omega)]; rfl
     have HALL := Lib.hid hall
     clear hall
     by_cases h0 : xs.length = 0
     ·have h0' : ((xs.length : Int) == 0) = true := by rw [beq_iff_eq]; omega
      have HT : Hid (labTxt s.data.toList xs = s.data.toList) := by unfold Hid labTxt; rw [if_pos (by rw [List.eq_nil_of_length_eq_zero h0]; rfl)]
      have HV0 : Hid (SliceK 1 encI lo w (.slice a 0 ca) xs) := by have := HV.out; rw [h0] at this; exact this
      go_enter Tryz.func94, Tryz.ntmps94
      go_wp2_with fail
      refine (IsAction_any _ _ hs).mono ?_
      rintro e w' ⟨rfl, rfl⟩
      rw [HB.out]
      go_wp2_with fail
      refine (areValues_any lo _ xs _ HV0.out).mono ?_
      rintro e w' ⟨rfl, rfl⟩
      rw [HALL.out]
      go_wp2_with fail
      go_ret2
      exact ⟨s, by rw [HF.out]; rfl, Below.refl _ _, fun _ => HT.out.symm⟩
     ·have h0' : ((xs.length : Int) == 0) = false := by rw [beq_eq_false_iff_ne]; omega
      have HT : Hid (labTxt s.data.toList xs = s.data.toList ++ 40 :: (Lib.join ((wordsOf xs).map (·.data.toList)) [44] ++ [41])) := by
       unfold Hid labTxt; rw [if_neg (by rw [List.isEmpty_iff_length_eq_zero]; exact h0)]
      have HLEN : Hid ((Lib.join ((wordsOf xs).map (·.data.toList)) (⟨#[44]⟩ : ByteArray).data.toList).length ≤ 1073741824) := Nat.le_trans (join_short (by omega) HALL.out) (by decide)
      have HBD : Hid (∀ i (h : i < xs.length), -9223372036854775808 ≤ xs[i] ∧ xs[i] ≤ 9223372036854775807) := by
       intro i hi
       have := List.all_eq_true.1 HALL.out xs[i] (List.getElem_mem _)
       unfold isVal at this
       simp at this
       omega
      have hlen : (Lib.join (List.map (fun x => x.data.toList) (wordsOf xs)) [44]).length ≤ 1073741824 := HLEN.out
      have hq1 : ¬ 9223372036854775807 < s.size + 1 + (Lib.join (List.map (fun x => x.data.toList) (wordsOf xs)) [44]).length := by omega
      have hq2 : ¬ 9223372036854775807 < s.size + 1 + (Lib.join (List.map (fun x => x.data.toList) (wordsOf xs)) [44]).length + 1 := by omega
      clear hlen
      go_enter Tryz.func94, Tryz.ntmps94
      go_wp2_with fail
      refine (IsAction_any _ _ hs).mono ?_
      rintro e w' ⟨rfl, rfl⟩
      rw [HB.out]
      go_wp2_with fail
      refine (areValues_any lo _ xs _ HV.out).mono ?_
      rintro e w' ⟨rfl, rfl⟩
      rw [HALL.out]
      go_wp2_with fail
      refine (joined_any _ ⟨#[44]⟩ lo xs _ (by omega) HBD.out HV.out g HLEN.out).mono ?_
      rintro e w2 ⟨rfl, hb2⟩
      have HB2 := Lib.hid hb2
      clear hb2
      go_wp2_with fail
      go_ret2
      refine ⟨_, by rw [HF.out]; rfl, HB2.out, fun _ => ?_⟩
      rw [HT.out]
      simp

end Go.Proofs.YtbjbjbnbapeajaaGreatDoor
