/-
  The reference's drawer of a monitor.
  The reference's drawer of a trace of a system.
  The library's slices.IndexFunc and slices.ContainsFunc at a slice of texts, with a function that may lay blocks of its own.
  The library's Index and Contains at a slice of texts.
  Enforcing a trace on a monitor, and running the monitor on what is left. Plain; no program in sight.
-/
import Derived.Test.YtmeibnhhlknbfaaGreatDoorF16
import Derived.Test.YtmeibnhhlknbfaaGreatDoorF19
import Derived.Test.YtmeibnhhlknbfaaGreatDoorF17
import Derived.Test.YtmeibnhhlknbfaaGreatDoorF1
import Derived.Deep.CutBlock
import Derived.Deep.RegionHeld3
import Derived.Test.YtmeibnhhlknbfaaGreatDoorProg
import Derived.Test.YtmeibnhhlknbfaaGreatDoorF3
namespace Go.Proofs.YtmeibnhhlknbfaaGreatDoor
open Go Go.RowKit


def RetMon (sb m : Nat) (w : World) (e : Ending) (w' : World) : Prop :=
 ∃ (r : Mon) (lv ev vv : Value), e = .returned (.agg #[.int .i64 r.sys.states, .int .i64 r.sys.initial, lv, ev, vv]) ∧ Drew sb m w w' ∧ OwnMon w.heap.size w' lv ev vv r ∧ ∀ l ∈ r.sys.labels, l.size ≤ 6
theorem drew_put5 {sb n : Nat} {w w1 : World} {b : Nat} {v0 v1 v2 v3 v4 : Value} (h : Drew sb n w w1) (hb : w.heap.size ≤ b) (hsb : sb < w.heap.size) : Drew sb n w (((((w1.setCell ⟨b, 0, none⟩ v0).setCell ⟨b, 1, none⟩ v1).setCell ⟨b, 2, none⟩ v2).setCell ⟨b, 3, none⟩ v3).setCell ⟨b, 4, none⟩ v4) :=
 h.grown (grown_trans (grown_trans (grown_trans (grown_trans (grown_setCell w1 ⟨b, 0, none⟩ v0) (grown_setCell _ ⟨b, 1, none⟩ v1)) (grown_setCell _ ⟨b, 2, none⟩ v2)) (grown_setCell _ ⟨b, 3, none⟩ v3)) (grown_setCell _ ⟨b, 4, none⟩ v4)) (fun k e => by cases e; exact hb) hsb
theorem put5X {w : World} {b : Nat} {x0 x1 x2 x3 x4 v0 v1 v2 v3 v4 : Value} {T : TypeId} (hb : Blk w b [x0, x1, x2, x3, x4] T) : Blk (((((w.setCell ⟨b, 0, none⟩ v0).setCell ⟨b, 1, none⟩ v1).setCell ⟨b, 2, none⟩ v2).setCell ⟨b, 3, none⟩ v3).setCell ⟨b, 4, none⟩ v4) b [v0, v1, v2, v3, v4] T := ((((hb.set 0 v0).set 1 v1).set 2 v2).set 3 v3).set 4 v4
theorem mon_results {w : World} {b : Nat} {v0 v1 v2 v3 v4 : Value} {tmps : Array Value} (hc : tmps.getD 2 undef = .pointer (some ⟨b, 0, none⟩)) (hb : Blk w b [v0, v1, v2, v3, v4] 30) :
  (results Tryz.f12 tmps).run Tryz.prog w = .ok (.agg #[v0, v1, v2, v3, v4]) w := by
 have h0 := hb.cell 0 rfl
 have h1 := hb.cell 1 rfl
 have h2 := hb.cell 2 rfl
 have h3 := hb.cell 3 rfl
 have h4 := hb.cell 4 rfl
 simp only [Array.getD_eq_getD_getElem?] at hc
 simp [results, Tryz.results12, go_sem, hc, h0, h1, h2, h3, h4, Result.andThen]
theorem mon10_results {w : World} {b : Nat} {v0 v1 v2 v3 v4 : Value} {tmps : Array Value} (hc : tmps.getD 2 undef = .pointer (some ⟨b, 0, none⟩)) (hb : Blk w b [v0, v1, v2, v3, v4] 30) :
  (results Tryz.f5 tmps).run Tryz.prog w = .ok (.agg #[v0, v1, v2, v3, v4]) w := by
 have h0 := hb.cell 0 rfl
 have h1 := hb.cell 1 rfl
 have h2 := hb.cell 2 rfl
 have h3 := hb.cell 3 rfl
 have h4 := hb.cell 4 rfl
 simp only [Array.getD_eq_getD_getElem?] at hc
 simp [results, Tryz.results5, go_sem, hc, h0, h1, h2, h3, h4, Result.andThen]
/-- The monitor that stands in where none can be made. -/
def dfM : Mon := ⟨⟨1, 0, [nmT, nmA], [⟨0, 1, 0⟩]⟩, [0]⟩
theorem mon_put {sb m rb : Nat} {w w5 : World} {lv ev vv : Value} {r : Mon} (hd : Drew sb m w w5) (hR : Blk w5 rb [.int .i64 0, .int .i64 0, .slice none 0 0, .slice none 0 0, .slice none 0 0] 30) (hrb : w.heap.size ≤ rb) (hsb : sb < w.heap.size) (ho : OwnMon w.heap.size w5 lv ev vv r) (h6 : ∀ l ∈ r.sys.labels, l.size ≤ 6) :
  RetMon sb m w (.returned (.agg #[.int .i64 r.sys.states, .int .i64 r.sys.initial, lv, ev, vv])) (((((w5.setCell ⟨rb, 0, none⟩ (.int .i64 r.sys.states)).setCell ⟨rb, 1, none⟩ (.int .i64 r.sys.initial)).setCell ⟨rb, 2, none⟩ lv).setCell ⟨rb, 3, none⟩ ev).setCell ⟨rb, 4, none⟩ vv) :=
 ⟨r, lv, ev, vv, rfl, drew_put5 hd hrb hsb, ⟨⟨own5M hR ho.1.1 (by decide), own5M hR ho.1.2 (by decide)⟩, own5M hR ho.2 (by decide)⟩, h6⟩
theorem RetMon.alloc {sb m : Nat} {w w1 : World} {e : Ending} (h : RetMon sb m w e w1) (o : Obj) : RetMon sb m w e (w1.alloc o) := by
 obtain ⟨r, lv, ev, vv, he, hd, ho, h6⟩ := h
 exact ⟨r, lv, ev, vv, he, hd.alloc o, ho.below ((Below.refl _ _).alloc (Nat.le_refl _) _), h6⟩
/-- The literal monitor in memory. -/
theorem dfM_own (w : World) : OwnMon w.heap.size (((w.alloc (.cells #[.string nmT, .string nmA] 9)).alloc (.cells #[.int .i64 0, .int .i64 1, .int .i64 0] 59)).alloc (.cells #[.int .i64 0] 2)) (.slice (some ⟨w.heap.size, 0, none⟩) 2 2) (.slice (some ⟨w.heap.size + 1, 0, none⟩) 1 1) (.slice (some ⟨w.heap.size + 1 + 1, 0, none⟩) 1 1) dfM := by
 have h1 := strs_lit (w := w) (xs := [nmT, nmA]) (cs := #[.string nmT, .string nmA]) rfl (by decide)
 have h2 := World.ownsRow_lit (base := w.heap.size) (size := 3) (w.alloc (.cells #[.string nmT, .string nmA] 9)) #[.int .i64 0, .int .i64 1, .int .i64 0] (e := 59) 1 (by simp) (by simp [maxLen]) rfl
 have h3 := World.ownsRow_lit (base := w.heap.size) (size := 1) ((w.alloc (.cells #[.string nmT, .string nmA] 9)).alloc (.cells #[.int .i64 0, .int .i64 1, .int .i64 0] 59)) #[.int .i64 0] (e := 2) 1 (by simp; omega) (by simp [maxLen]) rfl
 rw [World.size_alloc] at h2 h3
 rw [World.size_alloc] at h3
 exact ⟨⟨(h1.alloc _).alloc _, h2.alloc _⟩, h3⟩

set_option maxRecDepth 100000 in
set_option maxHeartbeats 4000000 in
theorem drawMon_any (sb n : Nat) (w : World) (hs : Src sb n w) (hn : n ≤ 600000000) :
  Calls Tryz.prog 12 #[.pointer (some ⟨sb, 0, none⟩)] w (RetMon sb (n + 4000) w) := by
 have hsb := hs.lt
 obtain ⟨rb, hrb⟩ : ∃ rb, rb = w.heap.size := ⟨_, rfl⟩
 obtain ⟨W, hW⟩ : ∃ W, W = w.alloc (.cells #[.int .i64 0, .int .i64 0, .slice none 0 0, .slice none 0 0, .slice none 0 0] 30) := ⟨_, rfl⟩
 have hb : Below w.heap.size w W := by rw [hW]; exact (Below.refl _ _).alloc (Nat.le_refl _) _
 have hR : Blk W rb [.int .i64 0, .int .i64 0, .slice none 0 0, .slice none 0 0, .slice none 0 0] 30 := by rw [hW, hrb]; exact Blk.new _ _ _
 have HD0 := Lib.hid ((Drew.refl hs).below hb)
 have HDB := Lib.hid (drawBoth_any sb n W HD0.out.2 (by omega))
 have HR := Lib.hid hR
 have HW := Lib.hid hW
 have HRB := Lib.hid hrb
 have hsW : w.heap.size ≤ W.heap.size := hb.size
 have hrl : w.heap.size ≤ rb := by omega
 have hrW : rb < W.heap.size := hR.lt
 have hrs : rb ≠ sb := by omega
 clear hs hW hb hR hrb
 go_enter Tryz.func12, Tryz.ntmps12
 go_wp2_with fail
 rw [← HW.out]
 try rw [← HRB.out]
 refine Calls.mono HDB.out ?_
 rintro e w1 ⟨a, b, la, ea, lb, eb, rfl, hd1, hoa, hob, ha6, hb6⟩
 obtain ⟨lp, lc, rfl, -, -⟩ := owns_slice hoa.1
 obtain ⟨ep, ec, rfl, -, -⟩ := owns_slice hoa.2
 obtain ⟨lq, ld, rfl, -, -⟩ := owns_slice hob.1
 obtain ⟨eq, ed, rfl, -, -⟩ := owns_slice hob.2
 obtain ⟨W3, hW3⟩ : ∃ W3, W3 = (w1.alloc (.cells #[.int .i64 a.states, .int .i64 a.initial, .slice lp a.labels.length lc, .slice ep a.edges.length ec] 27)).alloc (.cells #[.int .i64 b.states, .int .i64 b.initial, .slice lq b.labels.length ld, .slice eq b.edges.length ed] 27) := ⟨_, rfl⟩
 obtain ⟨ab, hab⟩ : ∃ ab, ab = w1.heap.size := ⟨_, rfl⟩
 obtain ⟨bb, hbb⟩ : ∃ bb, bb = w1.heap.size + 1 := ⟨_, rfl⟩
 have hb3 : Below w1.heap.size w1 W3 := by rw [hW3]; exact ((Below.refl _ _).alloc (Nat.le_refl _) _).alloc (by simp) _
 have hA : Blk W3 ab [.int .i64 a.states, .int .i64 a.initial, .slice lp a.labels.length lc, .slice ep a.edges.length ec] 27 := by rw [hW3, hab]; exact (Blk.new w1 _ _).alloc _
 have hBB : Blk W3 bb [.int .i64 b.states, .int .i64 b.initial, .slice lq b.labels.length ld, .slice eq b.edges.length ed] 27 := by
  have := Blk.new (w1.alloc (.cells #[.int .i64 a.states, .int .i64 a.initial, .slice lp a.labels.length lc, .slice ep a.edges.length ec] 27)) [.int .i64 b.states, .int .i64 b.initial, .slice lq b.labels.length ld, .slice eq b.edges.length ed] 27
  rw [World.size_alloc, ← hbb] at this
  rw [hW3]
  exact this
 have hoa3 := hoa.below hb3
 have hob3 := hob.below hb3
 have HPA : Hid (LtsPtr W.heap.size W3 ab a) := ⟨_, _, hA.lt, hA.cell 0 rfl, hA.cell 1 rfl, hA.cell 2 rfl, hA.cell 3 rfl, SliceK.of_owns (enc := encS) (e := 9) encS_len rfl (by rw [flat_encS]; exact hoa3.1), SliceK.of_owns (e := 59) encE_len rfl hoa3.2⟩
 have HPB : Hid (LtsPtr W.heap.size W3 bb b) := ⟨_, _, hBB.lt, hBB.cell 0 rfl, hBB.cell 1 rfl, hBB.cell 2 rfl, hBB.cell 3 rfl, SliceK.of_owns (enc := encS) (e := 9) encS_len rfl (by rw [flat_encS]; exact hob3.1), SliceK.of_owns (e := 59) encE_len rfl hob3.2⟩
 have HD3 := Lib.hid ((HD0.out.trans hd1).below hb3)
 have HR3 := Lib.hid ((hd1.blk HR.out hrs).below hb3)
 have HA6 := Lib.hid ha6
 have hsa : Short a.labels := fun i hi => by have := ha6 _ (List.getElem_mem hi); omega
 have hsB : Short b.labels := fun i hi => by have := hb6 _ (List.getElem_mem hi); omega
 have HSA := Lib.hid hsa
 have HSB := Lib.hid hsB
 have HW3 := Lib.hid hW3
 have HAB := Lib.hid hab
 have HBBE := Lib.hid hbb
 clear hd1 hoa hob hb3 hA hBB hoa3 hob3 ha6 hb6 hsa hsB hW3 hab hbb HDB HD0 HR
 by_cases hg : (Valid a ∧ Valid b) ∧ Single b
 ·have HVA := Lib.hid hg.1.1
  have HVB := Lib.hid hg.1.2
  have HAS := Lib.hid (l30Ask_good ab bb W.heap.size a b W3 HSA.out HSB.out HPA.out HPB.out hg.1.1 hg.1.2 hg.2)
  clear hg
  go_wp2_with fail
  rw [← HW3.out]
  try rw [← HBBE.out]
  try rw [← HAB.out]
  refine Calls.mono HAS.out ?_
  rintro e w4 ⟨rfl, hb4⟩
  have HPA4 := Lib.hid (HPA.out.below hb4)
  have HPB4 := Lib.hid (HPB.out.below hb4)
  have HD4 := Lib.hid (HD3.out.below hb4)
  have HR4 := Lib.hid (HR3.out.below hb4)
  have HMK := Lib.hid (l30Make_any ab bb W.heap.size a b w4 HVA.out HVB.out HPA4.out HPB4.out)
  clear hb4 HAS HPA HPB HD3 HR3
  go_wp2_with fail
  refine Calls.mono HMK.out ?_
  rintro e w5 ⟨hb5, c, d, -, -, ⟨-, rfl⟩ | ⟨st, lv, ev, vv, -, rfl, hom⟩⟩
  ·have HD5 := Lib.hid (HD4.out.below hb5)
   have HR5 := Lib.hid (HR4.out.below hb5)
   clear hb5 HMK HD4 HR4
   obtain ⟨W6, hW6⟩ : ∃ W6, W6 = w5.alloc (.cells #[.int .i64 0, .int .i64 0, .slice none 0 0, .slice none 0 0, .slice none 0 0] 30) := ⟨_, rfl⟩
   have hb6 : Below w5.heap.size w5 W6 := by rw [hW6]; exact (Below.refl _ _).alloc (Nat.le_refl _) _
   have HD6 := Lib.hid (HD5.out.below hb6)
   have HR6 := Lib.hid (HR5.out.below hb6)
   have HW6 := Lib.hid hW6
   clear hb6 hW6 HD5 HR5
   go_upto_region 6 with fail
   rw [← HW6.out]
   obtain ⟨W9, hW9⟩ : ∃ W9, W9 = ((W6.alloc (.cells #[.string nmT, .string nmA] 9)).alloc (.cells #[.int .i64 0, .int .i64 1, .int .i64 0] 59)).alloc (.cells #[.int .i64 0] 2) := ⟨_, rfl⟩
   have hb9 : Below W6.heap.size W6 W9 := by rw [hW9]; exact (((Below.refl _ _).alloc (Nat.le_refl _) _).alloc (by simp) _).alloc (by simp; omega) _
   have HD9 := Lib.hid (HD6.out.below hb9)
   have HR9 := Lib.hid (HR6.out.below hb9)
   have HO9 : Hid (OwnMon w.heap.size W9 (.slice (some ⟨W6.heap.size, 0, none⟩) 2 2) (.slice (some ⟨W6.heap.size + 1, 0, none⟩) 1 1) (.slice (some ⟨W6.heap.size + 1 + 1, 0, none⟩) 1 1) dfM) := by unfold Hid; rw [hW9]; exact (dfM_own W6).lower HD6.out.size
   have HW9 : Hid (W9 = ((W6.alloc (.cells #[.string ⟨#[116, 97, 117]⟩, .string ⟨#[97]⟩] 9)).alloc (.cells #[.int .i64 0, .int .i64 1, .int .i64 0] 59)).alloc (.cells #[.int .i64 0] 2)) := hW9
   have r0 := HR9.out.cell 0 rfl
   have r1 := HR9.out.cell 1 rfl
   have r2 := HR9.out.cell 2 rfl
   have r3 := HR9.out.cell 3 rfl
   have r4 := HR9.out.cell 4 rfl
   have s0 := HR9.out.frozen 0
   have s1 := HR9.out.frozen 1
   have s2 := HR9.out.frozen 2
   have s3 := HR9.out.frozen 3
   have s4 := HR9.out.frozen 4
   rw [HW9.out] at r0 r1 r2 r3 r4 s0 s1 s2 s3 s4
   clear hb9 hW9
   go_wp2
   rw [← HW9.out]
   refine bodyPost_ret (mon_results rfl (put5X HR9.out)) rfl ?_
   exact mon_put (r := dfM) (HD9.out.mono (by omega)) HR9.out hrl hsb HO9.out (by decide)
  ·have HD5 := Lib.hid (HD4.out.below hb5)
   have HR5 := Lib.hid (HR4.out.below hb5)
   have hs4 : w.heap.size ≤ w4.heap.size := HD4.out.size
   have HOM := Lib.hid (hom.lower hs4)
   obtain ⟨mv, mc, rfl, -, -⟩ := owns_slice hom.1.1
   obtain ⟨me, mf, rfl, -, -⟩ := owns_slice hom.1.2
   obtain ⟨mm, mn, rfl, -, -⟩ := owns_slice hom.2
   obtain ⟨R, hR⟩ : ∃ R, R = monW a b c d st := ⟨_, rfl⟩
   have hst : R.sys.states = st.rows.length := by rw [hR]; rfl
   have hin : R.sys.initial = 0 := by rw [hR]; rfl
   have hlb : R.sys.labels = a.labels := by rw [hR]; rfl
   rw [← hR] at HOM ⊢
   rw [← hst, ← hin]
   have HL6 : Hid (∀ l ∈ R.sys.labels, l.size ≤ 6) := by unfold Hid; rw [hlb]; exact HA6.out
   clear hb5 HMK HD4 HR4 hom hR hst hin hlb
   have hrW5 : rb < w5.heap.size := HR5.out.lt
   have r0 := HR5.out.cell 0 rfl
   have r1 := HR5.out.cell 1 rfl
   have r2 := HR5.out.cell 2 rfl
   have r3 := HR5.out.cell 3 rfl
   have r4 := HR5.out.cell 4 rfl
   have s0 := HR5.out.frozen 0
   have s1 := HR5.out.frozen 1
   have s2 := HR5.out.frozen 2
   have s3 := HR5.out.frozen 3
   have s4 := HR5.out.frozen 4
   go_wp2
   refine bodyPost_ret (mon_results rfl ((put5X HR5.out).alloc _)) rfl ?_
   exact (mon_put (r := R) (HD5.out.mono (by omega)) HR5.out hrl hsb HOM.out HL6.out).alloc _
 by_cases hv : Valid a ∧ Valid b
 ·have hns : ¬ Single b := fun h => hg ⟨hv, h⟩
  have HAS := Lib.hid (l30Ask_state ab bb W.heap.size a b W3 HSA.out HSB.out HPA.out HPB.out hv.1 hv.2 hns)
  clear HPA HPB
  go_wp2_with fail
  rw [← HW3.out]
  try rw [← HBBE.out]
  try rw [← HAB.out]
  refine Calls.mono HAS.out ?_
  rintro e w4 ⟨rfl, hb4⟩
  have HD4 := Lib.hid (HD3.out.below hb4)
  have HR4 := Lib.hid (HR3.out.below hb4)
  clear hb4 HAS HD3 HR3
  go_upto_region 6 with fail
  obtain ⟨W9, hW9⟩ : ∃ W9, W9 = ((w4.alloc (.cells #[.string nmT, .string nmA] 9)).alloc (.cells #[.int .i64 0, .int .i64 1, .int .i64 0] 59)).alloc (.cells #[.int .i64 0] 2) := ⟨_, rfl⟩
  have hb9 : Below w4.heap.size w4 W9 := by rw [hW9]; exact (((Below.refl _ _).alloc (Nat.le_refl _) _).alloc (by simp) _).alloc (by simp; omega) _
  have HD9 := Lib.hid (HD4.out.below hb9)
  have HR9 := Lib.hid (HR4.out.below hb9)
  have HO9 : Hid (OwnMon w.heap.size W9 (.slice (some ⟨w4.heap.size, 0, none⟩) 2 2) (.slice (some ⟨w4.heap.size + 1, 0, none⟩) 1 1) (.slice (some ⟨w4.heap.size + 1 + 1, 0, none⟩) 1 1) dfM) := by unfold Hid; rw [hW9]; exact (dfM_own w4).lower HD4.out.size
  have HW9 : Hid (W9 = ((w4.alloc (.cells #[.string ⟨#[116, 97, 117]⟩, .string ⟨#[97]⟩] 9)).alloc (.cells #[.int .i64 0, .int .i64 1, .int .i64 0] 59)).alloc (.cells #[.int .i64 0] 2)) := hW9
  have r0 := HR9.out.cell 0 rfl
  have r1 := HR9.out.cell 1 rfl
  have r2 := HR9.out.cell 2 rfl
  have r3 := HR9.out.cell 3 rfl
  have r4 := HR9.out.cell 4 rfl
  have s0 := HR9.out.frozen 0
  have s1 := HR9.out.frozen 1
  have s2 := HR9.out.frozen 2
  have s3 := HR9.out.frozen 3
  have s4 := HR9.out.frozen 4
  rw [HW9.out] at r0 r1 r2 r3 r4 s0 s1 s2 s3 s4
  clear hb9 hW9
  go_wp2
  rw [← HW9.out]
  refine bodyPost_ret (mon_results rfl (put5X HR9.out)) rfl ?_
  exact mon_put (r := dfM) (HD9.out.mono (by omega)) HR9.out hrl hsb HO9.out (by decide)
 ·have HAS := Lib.hid (l30Ask_bad ab bb W.heap.size a b W3 HSA.out HSB.out HPA.out HPB.out hv)
  clear HPA HPB
  go_wp2_with fail
  rw [← HW3.out]
  try rw [← HBBE.out]
  try rw [← HAB.out]
  refine Calls.mono HAS.out ?_
  rintro e w4 ⟨rfl, hb4⟩
  have HD4 := Lib.hid (HD3.out.below hb4)
  have HR4 := Lib.hid (HR3.out.below hb4)
  clear hb4 HAS HD3 HR3
  go_upto_region 6 with fail
  obtain ⟨W9, hW9⟩ : ∃ W9, W9 = ((w4.alloc (.cells #[.string nmT, .string nmA] 9)).alloc (.cells #[.int .i64 0, .int .i64 1, .int .i64 0] 59)).alloc (.cells #[.int .i64 0] 2) := ⟨_, rfl⟩
  have hb9 : Below w4.heap.size w4 W9 := by rw [hW9]; exact (((Below.refl _ _).alloc (Nat.le_refl _) _).alloc (by simp) _).alloc (by simp; omega) _
  have HD9 := Lib.hid (HD4.out.below hb9)
  have HR9 := Lib.hid (HR4.out.below hb9)
  have HO9 : Hid (OwnMon w.heap.size W9 (.slice (some ⟨w4.heap.size, 0, none⟩) 2 2) (.slice (some ⟨w4.heap.size + 1, 0, none⟩) 1 1) (.slice (some ⟨w4.heap.size + 1 + 1, 0, none⟩) 1 1) dfM) := by unfold Hid; rw [hW9]; exact (dfM_own w4).lower HD4.out.size
  have HW9 : Hid (W9 = ((w4.alloc (.cells #[.string ⟨#[116, 97, 117]⟩, .string ⟨#[97]⟩] 9)).alloc (.cells #[.int .i64 0, .int .i64 1, .int .i64 0] 59)).alloc (.cells #[.int .i64 0] 2)) := hW9
  have r0 := HR9.out.cell 0 rfl
  have r1 := HR9.out.cell 1 rfl
  have r2 := HR9.out.cell 2 rfl
  have r3 := HR9.out.cell 3 rfl
  have r4 := HR9.out.cell 4 rfl
  have s0 := HR9.out.frozen 0
  have s1 := HR9.out.frozen 1
  have s2 := HR9.out.frozen 2
  have s3 := HR9.out.frozen 3
  have s4 := HR9.out.frozen 4
  rw [HW9.out] at r0 r1 r2 r3 r4 s0 s1 s2 s3 s4
  clear hb9 hW9
  go_wp2
  rw [← HW9.out]
  refine bodyPost_ret (mon_results rfl (put5X HR9.out)) rfl ?_
  exact mon_put (r := dfM) (HD9.out.mono (by omega)) HR9.out hrl hsb HO9.out (by decide)

def RetMon10 (w : World) (e : Ending) (w' : World) : Prop :=
 Below w.heap.size w w' ∧ ∃ (r : Mon) (lv ev vv : Value), e = .returned (.agg #[.int .i64 r.sys.states, .int .i64 r.sys.initial, lv, ev, vv]) ∧ OwnMon w.heap.size w' lv ev vv r ∧ ∀ l ∈ r.sys.labels, l.size ≤ 6
theorem drew_belowX {B sb m : Nat} {w w1 w' : World} (h : Below B w w1) (hd : Drew sb m w1 w') (hB : B ≤ w1.heap.size) (hsb : B ≤ sb) : Below B w w' := h.grown hd.1 hB (fun b e => by cases e; exact hsb)

set_option maxRecDepth 100000 in
set_option maxHeartbeats 2000000 in
theorem b10Monitor_any (cv : Value) (bs : List UInt8) (w : World) (hc : BytesIn w.heap.size w cv bs) : Calls Tryz.prog 5 #[cv] w (RetMon10 w) := by
 obtain ⟨rb, hrb⟩ : ∃ rb, rb = w.heap.size := ⟨_, rfl⟩
 obtain ⟨W, hW⟩ : ∃ W, W = w.alloc (.cells #[.int .i64 0, .int .i64 0, .slice none 0 0, .slice none 0 0, .slice none 0 0] 30) := ⟨_, rfl⟩
 have hb : Below w.heap.size w W := by rw [hW]; exact (Below.refl _ _).alloc (Nat.le_refl _) _
 have hR : Blk W rb [.int .i64 0, .int .i64 0, .slice none 0 0, .slice none 0 0, .slice none 0 0] 30 := by rw [hW, hrb]; exact Blk.new _ _ _
 obtain ⟨sb, hsb⟩ : ∃ sb, sb = W.heap.size := ⟨_, rfl⟩
 have HFR := Lib.hid (from_any cv bs W (bytes_up hc hb))
 rw [← hsb] at HFR
 have HB := Lib.hid hb
 have HR := Lib.hid hR
 have hsW : w.heap.size ≤ W.heap.size := hb.size
 have hrl : w.heap.size ≤ rb := by omega
 have hrW : rb < W.heap.size := hR.lt
 have hrs : rb ≠ sb := by omega
 have HW := Lib.hid hW
 have HRB := Lib.hid hrb
 have HSB := Lib.hid hsb
 obtain ⟨ca, cc, rfl, -⟩ := id hc
 clear hc hR hb hW hrb hsb
 go_enter Tryz.func5, Tryz.ntmps5
 go_wp2_with fail
 rw [← HW.out]
 try rw [← HRB.out]
 refine Calls.mono HFR.out ?_
 rintro e w1 ⟨rfl, hb1, hs1⟩
 have hb1' : Below W.heap.size W w1 := by rw [← HSB.out]; exact hb1
 have HDM := Lib.hid (drawMon_any sb 0 w1 hs1 (by decide))
 have HB1 := Lib.hid (HB.out.trans (hb1'.mono hsW))
 have HR1 := Lib.hid (HR.out.below hb1')
 have hsz1 : w.heap.size ≤ w1.heap.size := HB1.out.size
 have hwsb : w.heap.size ≤ sb := by rw [HSB.out]; exact hsW
 clear hb1 hb1' hs1 HFR HB HR
 go_wp2_with fail
 refine Calls.mono HDM.out ?_
 rintro e w2 ⟨r, lv, ev, vv, rfl, hd2, hom, h6⟩
 have HB2 := Lib.hid (drew_belowX HB1.out hd2 hsz1 hwsb)
 have HR2 := Lib.hid (hd2.blk HR1.out hrs)
 have HOM := Lib.hid (hom.lower hsz1)
 obtain ⟨mv, mc, rfl, -, -⟩ := owns_slice hom.1.1
 obtain ⟨me, mf, rfl, -, -⟩ := owns_slice hom.1.2
 obtain ⟨mm, mn, rfl, -, -⟩ := owns_slice hom.2
 have H6 := Lib.hid h6
 clear hd2 hom h6 HDM HB1 HR1
 have r0 := HR2.out.cell 0 rfl
 have r1 := HR2.out.cell 1 rfl
 have r2 := HR2.out.cell 2 rfl
 have r3 := HR2.out.cell 3 rfl
 have r4 := HR2.out.cell 4 rfl
 have s0 := HR2.out.frozen 0
 have s1 := HR2.out.frozen 1
 have s2 := HR2.out.frozen 2
 have s3 := HR2.out.frozen 3
 have s4 := HR2.out.frozen 4
 go_wp2
 refine bodyPost_ret (mon10_results rfl (put5X HR2.out)) rfl ?_
 exact ⟨((((HB2.out.setCell hrl _).setCell hrl _).setCell hrl _).setCell hrl _).setCell hrl _, r, _, _, _, rfl, ⟨⟨own5M HR2.out HOM.out.1.1 (by decide), own5M HR2.out HOM.out.1.2 (by decide)⟩, own5M HR2.out HOM.out.2 (by decide)⟩, H6.out⟩

end Go.Proofs.YtmeibnhhlknbfaaGreatDoor

namespace Go.Proofs.YtmeibnhhlknbfaaGreatDoor
open Go Go.RowKit

theorem drew_belowY {B sb m : Nat} {w w1 w' : World} (h : Below B w w1) (hd : Drew sb m w1 w') (hB : B ≤ w1.heap.size) (hsb : B ≤ sb) : Below B w w' := h.grown hd.1 hB (fun b e => by cases e; exact hsb)
def yOne : List ByteArray := [nmA, nmB, ⟨#[99]⟩, ⟨#[122, 122]⟩, ⟨#[103, 101, 116, 40, 49, 41]⟩]
def yTwo : List ByteArray := [nmT, ⟨#[]⟩, ⟨#[65]⟩, ⟨#[97, 40, 54, 52, 41]⟩]
theorem yOne_short : ∀ l ∈ yOne, l.size ≤ 6 := by decide
theorem yTwo_short : ∀ l ∈ yTwo, l.size ≤ 6 := by decide
theorem out_okY {t : Lts} (hv : Valid t) {k : Int} {e : Edge} (he : e ∈ outOf t k) : EdgeOk t e := by
 obtain ⟨i, hi, rfl⟩ := List.mem_iff_getElem.1 (List.mem_filter.1 he).1
 exact hv.edge i hi
theorem out_lenY (t : Lts) (k : Int) : (outOf t k).length ≤ t.edges.length := List.length_filter_le _ _

section
variable {sb n lo tb : Nat} {t : Lts} {w0 w : World}
/-- What is kept as the walk goes on. -/
structure YEnv (sb m lo tb : Nat) (t : Lts) (w0 w wx : World) : Prop where
 drew : Drew sb m w wx
 kept : Below w0.heap.size w0 wx
 sz0 : w0.heap.size ≤ sb
 lt : sb < w.heap.size
 ptr : LtsPtr lo wx tb t
theorem YEnv.then {m m' : Nat} {wx wy : World} (h : YEnv sb m lo tb t w0 w wx) (hd : Drew sb m' wx wy) (ht : LtsPtr lo w0 tb t) : YEnv sb m' lo tb t w0 w wy :=
 have hk := drew_belowY h.kept hd h.kept.size h.sz0
 ⟨h.drew.trans hd, hk, h.sz0, h.lt, ht.below hk⟩
theorem YEnv.below {m : Nat} {wx wy : World} (h : YEnv sb m lo tb t w0 w wx) (hb : Below wx.heap.size wx wy) : YEnv sb m lo tb t w0 w wy := ⟨h.drew.below hb, h.kept.trans (hb.mono h.kept.size), h.sz0, h.lt, h.ptr.below hb⟩
theorem YEnv.alloc {m : Nat} {wx : World} (h : YEnv sb m lo tb t w0 w wx) (o : Obj) : YEnv sb m lo tb t w0 w (wx.alloc o) := h.below ((Below.refl _ _).alloc (Nat.le_refl _) _)
theorem YEnv.mono {m m' : Nat} {wx : World} (h : YEnv sb m lo tb t w0 w wx) (hm : m ≤ m') : YEnv sb m' lo tb t w0 w wx := ⟨h.drew.mono hm, h.kept, h.sz0, h.lt, h.ptr⟩
theorem YEnv.grown {m : Nat} {wx wy : World} {row : Option Nat} (h : YEnv sb m lo tb t w0 w wx) (hg : wx.grownBy wy row) (hr : ∀ k, row = some k → w.heap.size ≤ k) (ht : LtsPtr lo w0 tb t) : YEnv sb m lo tb t w0 w wy :=
 have hk : Below w0.heap.size w0 wy := h.kept.grown hg h.kept.size (fun b e => by have := hr b e; have := h.sz0; have := h.lt; omega)
 ⟨h.drew.grown hg hr h.lt, hk, h.sz0, h.lt, ht.below hk⟩
end
def RetTrace (sb m : Nat) (w : World) (e : Ending) (w' : World) : Prop :=
 ∃ (v : Value) (ls : List ByteArray), e = .returned v ∧ Drew sb m w w' ∧ OwnStrs w.heap.size w' v ls ∧ ls.length ≤ 10 ∧ ∀ l ∈ ls, l.size ≤ 6
theorem push6 {ls : List ByteArray} {x : ByteArray} (h : ∀ l ∈ ls, l.size ≤ 6) (hx : x.size ≤ 6) : ∀ l ∈ ls ++ [x], l.size ≤ 6 := fun l hl => by
 rcases List.mem_append.1 hl with h1 | h1
 ·exact h l h1
 ·rw [List.mem_singleton] at h1; rw [h1]; exact hx
theorem push_own {W : World} {B : Nat} {v : Value} {ls : List ByteArray} {x : ByteArray} (h : W.ownsRow B 9 1 v (ls.length + 1) (txts ls ++ [.string x])) : OwnStrs B W v (ls ++ [x]) := by
 unfold OwnStrs txts
 rw [List.map_append, List.length_append]
 exact h

set_option maxRecDepth 100000 in
set_option maxHeartbeats 4000000 in
theorem drawTrace_any (sb n lo tb : Nat) (t : Lts) (w0 w : World) (hw0 : Below w0.heap.size w0 w) (hsb0 : w0.heap.size ≤ sb) (ht : LtsPtr lo w0 tb t) (h6 : ∀ l ∈ t.labels, l.size ≤ 6) (hs : Src sb n w) (hn : n ≤ 900000000) :
  Calls Tryz.prog 13 #[.pointer (some ⟨sb, 0, none⟩), .pointer (some ⟨tb, 0, none⟩)] w (RetTrace sb (n + 200) w) := by
 obtain ⟨i0, hi0, hz0, hz1, hz2⟩ := info_parts info_strD
 have hsb := hs.lt
 have HT0 := Lib.hid ht
 obtain ⟨W, hW⟩ : ∃ W, W = w.alloc (.cells #[] 9) := ⟨_, rfl⟩
 have HY0 : Hid (YEnv sb n lo tb t w0 w W) := by
  unfold Hid
  rw [hW]
  exact YEnv.alloc ⟨Drew.refl hs, hw0, hsb0, hsb, ht.below hw0⟩ _
 have HO0 : Hid (OwnStrs w.heap.size W (.slice (some ⟨w.heap.size, 0, none⟩) 0 0) []) := by unfold Hid; rw [hW]; exact strs_lit (w := w) (xs := []) rfl (by decide)
 have HIS := Lib.hid (l11Is_any tb lo t W (fun i hi => by have := h6 _ (List.getElem_mem hi); omega) HY0.out.ptr)
 have H6 := Lib.hid h6
 have HW := Lib.hid hW
 clear hs hw0 ht h6 hW
 by_cases hv : Valid t
 ·have HV := Lib.hid hv
  have HIY := Lib.hid (Decides.yes HIS.out hv)
  have hst0 := hv.st0
  have hst1 := hv.st1
  have hmost := hv.most
  have hin0 := hv.in0
  have hin1 := hv.in1
  clear hv HIS
  go_enter Tryz.func13, Tryz.ntmps13
  go_wp2_with fail
  rw [← HW.out]
  refine Calls.mono HIY.out ?_
  rintro e w1 ⟨rfl, hb1⟩
  have HY1 := Lib.hid (HY0.out.below hb1)
  have HO1 : Hid (OwnStrs w.heap.size w1 (.slice (some ⟨w.heap.size, 0, none⟩) 0 0) []) := HO0.out.below hb1
  have HPK := Lib.hid (pick_any sb n 9 w1 HY1.out.drew.2 (by omega) (by decide))
  obtain ⟨lv, ev, hlt, q0, q1, q2, q3, hl, he⟩ := HY1.out.ptr
  clear hb1 HIY HY0 HO0 q0 q2 q3 hl he
  go_wp2_with fail
  refine Calls.mono HPK.out ?_
  rintro e w2 ⟨k0, rfl, hk0, -, hk1, hd2⟩
  have hk9 : k0 < 9 := hk1 (by decide)
  have HY2 := Lib.hid (HY1.out.then hd2 HT0.out)
  have HO2 : Hid (OwnStrs w.heap.size w2 (.slice (some ⟨w.heap.size, 0, none⟩) 0 0) []) := hd2.own HO1.out hsb
  clear hd2 HPK HY1 HO1 q1 hlt hk1
  go_upto_block 0 with fail
  go_cut [5] from 6 (fun v5 wx => ∃ (ls : List ByteArray) (g c : Nat), v5 = .slice (some ⟨g, 0, none⟩) ls.length c ∧ YEnv sb (n + 100) lo tb t w0 w wx ∧ OwnStrs w.heap.size wx (.slice (some ⟨g, 0, none⟩) ls.length c) ls ∧ ls.length ≤ 8 ∧ ∀ l ∈ ls, l.size ≤ 6)
  case first =>
   go_wp2_with fail
   go_loopw [5, 6, 7] (fun v5 v6 v7 wr => ∃ (ls : List ByteArray) (g c k s m : Nat), v5 = .slice (some ⟨g, 0, none⟩) ls.length c ∧ v6 = .int .i64 s ∧ v7 = .int .i64 k ∧ (s : Int) < t.states ∧ ls.length + k ≤ 8 ∧ m + 4 * k ≤ n + 50 ∧ YEnv sb m lo tb t w0 w wr ∧ OwnStrs w.heap.size wr (.slice (some ⟨g, 0, none⟩) ls.length c) ls ∧ ∀ l ∈ ls, l.size ≤ 6) (fun _ _ v7 _ => (intOf v7).toNat)
   case atStart => exact ⟨[], w.heap.size, 0, k0.toNat, t.initial.toNat, n + 2, rfl, by congr 1; omega, by congr 1; omega, by omega, by simp; omega, by omega, HY2.out, HO2.out, fun l hl => by cases hl⟩
   case round =>
    clear HY2 HO2
    obtain ⟨ls, g, c, k, s, m, rfl, rfl, rfl, hst, hlk, hmk, hy, ho, hls⟩ := hrel
    obtain ⟨wC, rfl⟩ : ∃ wC : World, wC = wr := ⟨_, rfl⟩
    have HY := Lib.hid hy
    have HO := Lib.hid ho
    have HLS := Lib.hid hls
    clear hy ho hls
    by_cases hk : k = 0
    ·subst hk
     go_wp2
     go_meet
     case rel => exact ⟨ls, g, c, rfl, HY.out.mono (by omega), HO.out, by omega, HLS.out⟩
    have hkp : 0 < (k : Int) := by omega
    have HOU := Lib.hid (l11Out_any tb lo t s wC (by omega) HY.out.ptr)
    have hszC : w.heap.size ≤ wC.heap.size := HY.out.drew.size
    go_wp2_with fail
    refine Calls.mono HOU.out ?_
    rintro e w3 ⟨ov, rfl, hb3, hoo⟩
    have HY3 := Lib.hid (HY.out.below hb3)
    have HO3 : Hid (OwnStrs w.heap.size w3 (.slice (some ⟨g, 0, none⟩) ls.length c) ls) := HO.out.below hb3
    have HOO := Lib.hid hoo
    obtain ⟨oa, oc, rfl, -, -⟩ := owns_slice hoo
    obtain ⟨ON, hON⟩ : ∃ ON, ON = (outOf t s).length := ⟨_, rfl⟩
    have hONm : ON ≤ t.edges.length := by rw [hON]; exact out_lenY _ _
    have HON := Lib.hid hON
    rw [← hON] at HOO ⊢
    clear hb3 hoo hON HOU HY HO
    by_cases h0 : ON = 0
    ·subst h0
     go_wp2
     go_meet
     case rel => exact ⟨ls, g, c, rfl, HY3.out.mono (by omega), HO3.out, by omega, HLS.out⟩
    have h0p : ¬ (ON : Int) = 0 := by omega
    have h0b : ((ON : Int) == 0) = false := beq_eq_false_iff_ne.2 h0p
    have HPK := Lib.hid (pick_any sb m ON w3 HY3.out.drew.2 (by omega) (by omega))
    have hsz3 : w.heap.size ≤ w3.heap.size := HY3.out.drew.size
    go_wp2_with fail
    refine Calls.mono HPK.out ?_
    rintro e w4 ⟨x0, rfl, hx0, -, hx1, hd4⟩
    have hx2 := hx1 (by omega)
    obtain ⟨x, rfl⟩ : ∃ x : Nat, x0 = (x : Int) := ⟨x0.toNat, by omega⟩
    have hxl : x < ON := by omega
    have HY4 := Lib.hid (HY3.out.then hd4 HT0.out)
    have HO4 : Hid (OwnStrs w.heap.size w4 (.slice (some ⟨g, 0, none⟩) ls.length c) ls) := hd4.own HO3.out hsb
    have HOO4 : Hid (w4.ownsRow wC.heap.size 59 3 (.slice oa ON oc) ON ((outOf t s).flatMap encE)) := hd4.own HOO.out (by omega)
    obtain ⟨E, hE⟩ : ∃ E, E = (outOf t s)[x]'(by rw [← HON.out]; exact hxl) := ⟨_, rfl⟩
    have hek : EdgeOk t E := by rw [hE]; exact out_okY HV.out (List.getElem_mem _)
    have hrk := SliceK.of_owns (e := 59) encE_len HON.out HOO4.out
    obtain ⟨ea', ec', heq, -, -, hrow⟩ := hrk
    simp only [Value.slice.injEq] at heq
    obtain ⟨rfl, -, rfl⟩ := heq
    obtain ⟨bo, oo, rfl, -, hbo, c0, c1, c2⟩ := hrow.edge (i := x) (by rw [← HON.out]; exact hxl)
    rw [← hE] at c0 c1 c2
    obtain ⟨eb, heb⟩ : ∃ eb, eb = w4.heap.size := ⟨_, rfl⟩
    obtain ⟨W5, hW5⟩ : ∃ W5, W5 = w4.alloc (.cells #[.int .i64 E.src, .int .i64 E.lab, .int .i64 E.dst] 59) := ⟨_, rfl⟩
    have hb5 : Below w4.heap.size w4 W5 := by rw [hW5]; exact (Below.refl _ _).alloc (Nat.le_refl _) _
    have hE5 : Blk W5 eb [.int .i64 E.src, .int .i64 E.lab, .int .i64 E.dst] 59 := by rw [hW5, heb]; exact Blk.new _ _ _
    have HY5 := Lib.hid (HY4.out.below hb5)
    have HO5 : Hid (OwnStrs w.heap.size W5 (.slice (some ⟨g, 0, none⟩) ls.length c) ls) := HO4.out.below hb5
    have HE5 := Lib.hid hE5
    have HW5 := Lib.hid hW5
    have HEB := Lib.hid heb
    have hwe : w.heap.size ≤ eb := by have := HY4.out.drew.size; omega
    have e1 := hE5.cell 1 rfl
    have e2 := hE5.cell 2 rfl
    obtain ⟨lv, ev, hlt, -, -, q2, -, hl, -⟩ := HT0.out
    obtain ⟨la, lc, rfl, hln, hlc, hlrow⟩ := hl
    obtain ⟨j, hj⟩ : ∃ j : Nat, E.lab = (j : Int) := ⟨E.lab.toNat, by have := hek.l0; omega⟩
    obtain ⟨d, hd⟩ : ∃ d : Nat, E.dst = (d : Int) := ⟨E.dst.toNat, by have := hek.d0; omega⟩
    have hjl : j < t.labels.length := by have := hek.l1; omega
    have hds : (d : Int) < t.states := by have := hek.d1; omega
    obtain ⟨bl, ol, rfl, -, hbl, cl⟩ := hlrow.one hjl
    simp only [encS, List.getElem?_cons_zero] at cl
    obtain ⟨l, hl⟩ : ∃ l, l = t.labels[j] := ⟨_, rfl⟩
    have HL6 : Hid (l.size ≤ 6) := by unfold Hid; rw [hl]; exact H6.out _ (List.getElem_mem hjl)
    rw [← hl] at cl
    simp only [hj, hd] at HE5 e1 e2 HW5 c1 c2
    clear hd4 HPK HY3 HO3 HOO hx1 hx2 hx0 hrow hb5 hE5 hW5 heb HY4 HOO4 hlrow hl hE hek
    go_upto_if 40 with fail
    rw [← HW5.out]
    try rw [← HEB.out]
    by_cases hj0 : j = 0
    ·subst hj0
     go_wp2
     go_roundw
     case rel => exact ⟨ls, g, c, k - 1, d, m + 2, rfl, rfl, by go_num, hds, by omega, by omega, HY5.out, HO5.out, HLS.out⟩
     case measure => simp [intOf]; omega
    have hjp : 0 < (j : Int) := by omega
    go_upto_region 12 with fail
    have hD2 : Below W5.heap.size W5 ((W5.alloc (.cells #[.string l] 9)).drew) := ((Below.refl _ _).alloc (Nat.le_refl _) _).drew
    have hDD : Below W5.heap.size W5 W5.drew := (Below.refl _ _).drew
    have HYD := Lib.hid (HY5.out.below hD2)
    have g2 := keeps HY5.out.kept hlt q2
    have g3 := keeps HY5.out.kept hbl cl
    have G2 := keeps (HY5.out.below hDD).kept hlt q2
    have G1 := keeps hDD HE5.out.lt e1
    have G3 := keeps (HY5.out.below hDD).kept hbl cl
    have K2 := keeps HYD.out.kept hlt q2
    have K3 := keeps HYD.out.kept hbl cl
    have K1 := Lib.hid (keeps hD2 HE5.out.lt e1)
    have HQ2 := Lib.hid q2
    have HCL := Lib.hid cl
    have HOD : Hid (((W5.alloc (.cells #[.string l] 9)).drew).ownsRow w.heap.size 9 1 (.slice (some ⟨g, 0, none⟩) ls.length c) ls.length (txts ls)) := HO5.out.below hD2
    have hgl : g < eb := by have := (HO4.out.lt g rfl).2; rw [HEB.out]; exact this
    have hneT : some eb ≠ (Value.slice (some ⟨g, 0, none⟩) ls.length c).ownBlock := fun e => by have h9 : eb = g := Option.some.inj e; omega
    have heW : eb < W5.heap.size := HE5.out.lt
    clear HO4 HO5 hD2 hDD
    go_region_held3 (fun w' => w'.cell? ⟨tb, 2, none⟩ = some (.slice (some ⟨bl, ol, none⟩) t.labels.length lc) ∧ w'.cell? ⟨eb, 1, none⟩ = some (.int .i64 j) ∧ w'.cell? ⟨bl, ol + j, none⟩ = some (.string l))
     (first
      | (refine ⟨?_, ?_, ?_⟩ <;> assumption)
      | (refine ⟨K2, K1.out, K3⟩)
      | go_keep)
     ((refine step_append_lies _ (by rfl) _ _ _ (by rfl) w.heap.size 9 i0 _ 1 16 Tryz.underlying24 hi0 hz0 hz1 hz2 rfl (by omega) (.slice (some ⟨g, 0, none⟩) ls.length c) ls.length (txts ls) (by rfl) HOD.out ⟨W5.heap.size, 0, none⟩ 1 1 [.string l] (by rfl) (by rfl) (World.news_of_block (cs := #[.string l]) (t := 9) (fr := (0, 0)) (heap_alloc_new W5 (.cells #[.string l] 9))) (by simp [Value.oneCell']) (by omega) (by simp [maxLen]; omega) (by omega) (by simp; omega) (W5.heap.size + 1) (by simp) ?_; intro gg cap w6 hown6 hgrow6 hat6 hlt6; have hy6 := HYD.out.grown hgrow6 (fun b e => (HOD.out.lt b e).1) HT0.out; have Z2 := keeps hy6.kept hlt HQ2.out; have Z3 := keeps hy6.kept hbl HCL.out; have Z1 := (hgrow6.cell_far ⟨eb, 1, none⟩ (by simp; omega) hneT).trans K1.out))
    all_goals (
     have HE6 : Hid (Blk w6 eb [.int .i64 E.src, .int .i64 j, .int .i64 d] 59) := Blk.far (HE5.out.below (((Below.refl _ _).alloc (Nat.le_refl _) _).drew)) hgrow6 (fun e => hneT e.symm)
     have e2' := HE6.out.cell 2 rfl
     have HY6 := Lib.hid hy6
     have HO6 : Hid (OwnStrs w.heap.size w6 (.slice (some ⟨gg, 0, none⟩) (ls ++ [l]).length cap) (ls ++ [l])) := by
      have := push_own hown6
      rw [List.length_append]
      exact this
     have HL6' := Lib.hid (push6 HLS.out HL6.out)
     clear hown6 hgrow6 hat6 hlt6 hy6 Z1 Z2 Z3 G1 G2 G3 g2 g3 K1 K2 K3 e1 e2 HOD HYD
     go_wp2
     go_roundw
     case rel => exact ⟨ls ++ [l], gg, cap, k - 1, d, m + 2, by simp, rfl, by go_num, hds, by simp; omega, by omega, HY6.out, HO6.out, HL6'.out⟩
     case measure => simp [intOf]; omega)
  obtain ⟨ls, g, c, rfl, hy, ho, hlk, hls⟩ := hcut
  obtain ⟨w7, rfl⟩ : ∃ w7 : World, w7 = wc := ⟨_, rfl⟩
  have HY := Lib.hid hy
  have HO := Lib.hid ho
  have HLS := Lib.hid hls
  clear hy ho hls HY2 HO2
  have HON := Lib.hid (one_any sb (n + 100) 4 w7 HY.out.drew.2 (by omega) (by decide))
  go_wp2_with fail
  refine Calls.mono HON.out ?_
  rintro e w8 ⟨b, rfl, hd8⟩
  have HY8 := Lib.hid (HY.out.then hd8 HT0.out)
  have HO8 : Hid (OwnStrs w.heap.size w8 (.slice (some ⟨g, 0, none⟩) ls.length c) ls) := hd8.own HO.out hsb
  clear hd8 HON HY HO
  go_upto_if 55 with fail
  go_cut [5] from 6 (fun v5 wx => ∃ (ls : List ByteArray) (a : Option Addr) (c : Nat), v5 = .slice a ls.length c ∧ YEnv sb (n + 110) lo tb t w0 w wx ∧ OwnStrs w.heap.size wx (.slice a ls.length c) ls ∧ ls.length ≤ 9 ∧ ∀ l ∈ ls, l.size ≤ 6)
  case first =>
   cases b
   ·go_wp2
    go_meet
    case rel => exact ⟨ls, _, c, rfl, HY8.out.mono (by omega), HO8.out, by omega, HLS.out⟩
   ·obtain ⟨W9, hW9⟩ : ∃ W9, W9 = w8.alloc (.cells #[.string nmA, .string nmB, .string ⟨#[99]⟩, .string ⟨#[122, 122]⟩, .string ⟨#[103, 101, 116, 40, 49, 41]⟩] 9) := ⟨_, rfl⟩
    have HX9 : Hid (SliceK 1 encS w8.heap.size W9 (.slice (some ⟨w8.heap.size, 0, none⟩) 5 5) yOne) := by
     have h := strs_lit (w := w8) (xs := yOne) (cs := #[.string nmA, .string nmB, .string ⟨#[99]⟩, .string ⟨#[122, 122]⟩, .string ⟨#[103, 101, 116, 40, 49, 41]⟩]) rfl (by decide)
     unfold Hid
     rw [hW9]
     exact SliceK.of_owns (enc := encS) (e := 9) encS_len rfl (by rw [flat_encS]; exact h)
    have HY9 : Hid (YEnv sb (n + 102) lo tb t w0 w W9) := by unfold Hid; rw [hW9]; exact HY8.out.alloc _
    have HO9 : Hid (OwnStrs w.heap.size W9 (.slice (some ⟨g, 0, none⟩) ls.length c) ls) := by unfold Hid; rw [hW9]; exact HO8.out.alloc _
    have HTX := Lib.hid (textOf_any sb (n + 102) w8.heap.size _ yOne W9 HY9.out.drew.2 (by omega) HX9.out (by have := HY8.out.drew.size; omega) (by decide) (by decide))
    have HW9 : Hid (W9 = w8.alloc (.cells #[.string ⟨#[97]⟩, .string ⟨#[98]⟩, .string ⟨#[99]⟩, .string ⟨#[122, 122]⟩, .string ⟨#[103, 101, 116, 40, 49, 41]⟩] 9)) := hW9
    clear hW9 HY8 HO8
    go_wp2_with fail
    rw [← HW9.out]
    refine Calls.mono HTX.out ?_
    rintro e wA ⟨x, hx, rfl, hdA⟩
    have HYA := Lib.hid (HY9.out.then hdA HT0.out)
    have HOA : Hid (OwnStrs w.heap.size wA (.slice (some ⟨g, 0, none⟩) ls.length c) ls) := hdA.own HO9.out hsb
    have HX6 : Hid (x.size ≤ 6) := yOne_short _ hx
    have hszA : w.heap.size ≤ wA.heap.size := HYA.out.drew.size
    clear hdA hx HTX HY9 HO9 HX9
    go_wp2_with (at_builtin; refine wpList_append_own _ rfl _ _ 24 rfl w.heap.size 9 i0 (.string ⟨#[]⟩) 1 16 Tryz.underlying24 hi0 hz0 hz1 hz2 rfl (by decide) _ _ _ rfl (HOA.out.alloc _) ⟨wA.heap.size, 0, none⟩ 1 1 [.string x] rfl rfl ?c1 ?c2 ?c3 ?c4 ?c5 ?_)
    case c1 => exact World.news_of_block (cs := #[.string x]) (t := 9) (fr := (0, 0)) (heap_alloc_new _ _)
    case c2 => intro u hu; simp at hu; subst hu; rfl
    case c3 => simp [maxLen]; omega
    case c4 => omega
    case c5 => simp; omega
    intro vB wB hoB hgB _
    have HYB := Lib.hid ((HYA.out.alloc _).grown hgB (fun j e => (HOA.out.lt j e).1) HT0.out)
    have HOB : Hid (OwnStrs w.heap.size wB vB (ls ++ [x])) := push_own hoB
    have HL6' := Lib.hid (push6 HLS.out HX6.out)
    clear hoB hgB
    obtain ⟨pB, cB, rfl, -, -⟩ := owns_slice HOB.out
    go_wp2
    go_meet
    case rel => exact ⟨ls ++ [x], pB, cB, by simp, HYB.out.mono (by omega), by have := HOB.out; simpa [List.length_append] using this, by simp; omega, HL6'.out⟩
  obtain ⟨ls, a, c, rfl, hy, ho, hlk, hls⟩ := hcut
  obtain ⟨w7, rfl⟩ : ∃ w7 : World, w7 = wc := ⟨_, rfl⟩
  have HY := Lib.hid hy
  have HO := Lib.hid ho
  have HLS := Lib.hid hls
  clear hy ho hls HY8 HO8
  have HON := Lib.hid (one_any sb (n + 110) 15 w7 HY.out.drew.2 (by omega) (by decide))
  go_wp2_with fail
  refine Calls.mono HON.out ?_
  rintro e w8 ⟨b, rfl, hd8⟩
  have HY8 := Lib.hid (HY.out.then hd8 HT0.out)
  have HO8 : Hid (OwnStrs w.heap.size w8 (.slice a ls.length c) ls) := hd8.own HO.out hsb
  clear hd8 HON HY HO
  cases b
  ·go_wp2
   go_ret
   exact ⟨_, ls, rfl, HY8.out.drew.mono (by omega), HO8.out, by omega, HLS.out⟩
  ·obtain ⟨W9, hW9⟩ : ∃ W9, W9 = w8.alloc (.cells #[.string nmT, .string ⟨#[]⟩, .string ⟨#[65]⟩, .string ⟨#[97, 40, 54, 52, 41]⟩] 9) := ⟨_, rfl⟩
   have HX9 : Hid (SliceK 1 encS w8.heap.size W9 (.slice (some ⟨w8.heap.size, 0, none⟩) 4 4) yTwo) := by
    have h := strs_lit (w := w8) (xs := yTwo) (cs := #[.string nmT, .string ⟨#[]⟩, .string ⟨#[65]⟩, .string ⟨#[97, 40, 54, 52, 41]⟩]) rfl (by decide)
    unfold Hid
    rw [hW9]
    exact SliceK.of_owns (enc := encS) (e := 9) encS_len rfl (by rw [flat_encS]; exact h)
   have HY9 : Hid (YEnv sb (n + 112) lo tb t w0 w W9) := by unfold Hid; rw [hW9]; exact HY8.out.alloc _
   have HO9 : Hid (OwnStrs w.heap.size W9 (.slice a ls.length c) ls) := by unfold Hid; rw [hW9]; exact HO8.out.alloc _
   have HTX := Lib.hid (textOf_any sb (n + 112) w8.heap.size _ yTwo W9 HY9.out.drew.2 (by omega) HX9.out (by have := HY8.out.drew.size; omega) (by decide) (by decide))
   have HW9 : Hid (W9 = w8.alloc (.cells #[.string ⟨#[116, 97, 117]⟩, .string ⟨#[]⟩, .string ⟨#[65]⟩, .string ⟨#[97, 40, 54, 52, 41]⟩] 9)) := hW9
   clear hW9 HY8 HO8
   go_wp2_with fail
   rw [← HW9.out]
   refine Calls.mono HTX.out ?_
   rintro e wA ⟨x, hx, rfl, hdA⟩
   have HYA := Lib.hid (HY9.out.then hdA HT0.out)
   have HOA : Hid (OwnStrs w.heap.size wA (.slice a ls.length c) ls) := hdA.own HO9.out hsb
   have HX6 : Hid (x.size ≤ 6) := yTwo_short _ hx
   have hszA : w.heap.size ≤ wA.heap.size := HYA.out.drew.size
   clear hdA hx HTX HY9 HO9 HX9
   go_wp2_with (at_builtin; refine wpList_append_own _ rfl _ _ 24 rfl w.heap.size 9 i0 (.string ⟨#[]⟩) 1 16 Tryz.underlying24 hi0 hz0 hz1 hz2 rfl (by decide) _ _ _ rfl (HOA.out.alloc _) ⟨wA.heap.size, 0, none⟩ 1 1 [.string x] rfl rfl ?c1 ?c2 ?c3 ?c4 ?c5 ?_)
   case c1 => exact World.news_of_block (cs := #[.string x]) (t := 9) (fr := (0, 0)) (heap_alloc_new _ _)
   case c2 => intro u hu; simp at hu; subst hu; rfl
   case c3 => simp [maxLen]; omega
   case c4 => omega
   case c5 => simp; omega
   intro vB wB hoB hgB _
   have HYB := Lib.hid ((HYA.out.alloc _).grown hgB (fun j e => (HOA.out.lt j e).1) HT0.out)
   have HOB : Hid (OwnStrs w.heap.size wB vB (ls ++ [x])) := push_own hoB
   have HL6' := Lib.hid (push6 HLS.out HX6.out)
   clear hoB hgB
   go_wp2
   go_ret
   exact ⟨vB, ls ++ [x], rfl, HYB.out.drew.mono (by omega), HOB.out, by simp; omega, HL6'.out⟩
 ·have HIN := Lib.hid (Decides.no HIS.out hv)
  clear hv HIS
  go_enter Tryz.func13, Tryz.ntmps13
  go_wp2_with fail
  rw [← HW.out]
  refine Calls.mono HIN.out ?_
  rintro e w1 ⟨rfl, hb1⟩
  have HY1 := Lib.hid (HY0.out.below hb1)
  have hs1 : w.heap.size ≤ w1.heap.size := HY1.out.drew.size
  clear hb1 HIN HY0 HO0
  go_wp2
  go_ret
  exact ⟨_, [nmA], rfl, (HY1.out.alloc _).drew.mono (by omega), OwnStrs.lower (strs_lit (w := w1) (xs := [nmA]) (cs := #[.string nmA]) rfl (by decide)) hs1, by decide, by decide⟩

end Go.Proofs.YtmeibnhhlknbfaaGreatDoor

namespace Go.Proofs.YtmeibnhhlknbfaaGreatDoor
open Go Go.RowKit

def idxS (P : ByteArray → Bool) (xs : List ByteArray) : Int := if xs.findIdx P < xs.length then (xs.findIdx P : Nat) else -1
theorem idxS_neg {P : ByteArray → Bool} {xs : List ByteArray} : idxS P xs = -1 ↔ ∀ x ∈ xs, P x = false := by
 unfold idxS
 by_cases h : xs.findIdx P < xs.length
 ·rw [if_pos h]
  refine ⟨fun e => by omega, fun h2 => ?_⟩
  obtain ⟨x, hx, hp⟩ := List.findIdx_lt_length.1 h
  rw [h2 x hx] at hp
  cases hp
 ·rw [if_neg h]
  refine ⟨fun _ x hx => ?_, fun _ => rfl⟩
  cases hp : P x
  ·rfl
  ·exact absurd (List.findIdx_lt_length.2 ⟨x, hx, hp⟩) h
theorem idxS_any {P : ByteArray → Bool} {xs : List ByteArray} : decide (0 ≤ idxS P xs) = xs.any P := by
 unfold idxS
 by_cases h : xs.findIdx P < xs.length
 ·rw [if_pos h]
  obtain ⟨x, hx, hp⟩ := List.findIdx_lt_length.1 h
  rw [List.any_eq_true.2 ⟨x, hx, hp⟩]
  simp
 ·rw [if_neg h]
  have : xs.any P = false := by
   rw [List.any_eq_false]
   intro x hx hp
   exact h (List.findIdx_lt_length.2 ⟨x, hx, hp⟩)
  rw [this]
  rfl
/-- A function of one element that answers P, and turns nothing that was there. -/
def AskS (fid : Nat) (caps : Array Value) (P : ByteArray → Bool) (xs : List ByteArray) (B : Nat) (w : World) : Prop :=
 ∀ w', Below B w w' → ∀ x ∈ xs, Calls Tryz.prog fid (#[.string x] ++ caps) w' fun e w'' => e = .returned (.bool (P x)) ∧ Below w'.heap.size w' w''

set_option maxRecDepth 100000 in
set_option maxHeartbeats 1000000 in
theorem IndexFuncS (lo : Nat) (v : Value) (xs : List ByteArray) (fid : Nat) (caps : Array Value) (P : ByteArray → Bool) (w : World) (hv : SliceK 1 encS lo w v xs) (eg : ∀ args w, (callFunc fid args).run Tryz.prog w = .ok (.enter fid args) w) (hP : AskS fid caps P xs w.heap.size w) :
  Calls Tryz.prog 91 #[v, .func (.func fid) #[] caps] w fun e w' => e = .returned (.int .i64 (idxS P xs)) ∧ Below w.heap.size w w' := by
 obtain ⟨a, c, rfl, hcn, hcc, hrow⟩ := hv
 have HR := Lib.hid hrow
 have HP := Lib.hid hP
 clear hP hrow
 go_enter Tryz.func91, Tryz.ntmps91
 go_wp2_with fail
 go_loopw [8] (fun i wr => ∃ k : Nat, k ≤ xs.length ∧ i = .int .i64 k ∧ Below w.heap.size w wr ∧ ∀ j (h : j < xs.length), j < k → P xs[j] = false) (fun i _ => xs.length - (intOf i).toNat)
 case atStart => exact ⟨0, Nat.zero_le _, rfl, Below.refl _ _, fun _ _ h => by omega⟩
 case round =>
  obtain ⟨k, hk, rfl, hbl, ha⟩ := hrel
  have HA := Lib.hid ha
  have HBL := Lib.hid hbl
  clear ha
  by_cases hlt : k < xs.length
  ·obtain ⟨b1, o1, rfl, -, hbs, c1⟩ := (HR.out.below hbl).one hlt
   simp only [encS, List.getElem?_cons_zero] at c1
   clear hbl
   obtain ⟨x, hx⟩ : ∃ x, x = xs[k] := ⟨_, rfl⟩
   rw [← hx] at c1
   have HX := Lib.hid hx
   have HC := Lib.hid (HP.out wr HBL.out x (by rw [hx]; exact List.getElem_mem _))
   obtain ⟨b, hb⟩ : ∃ b, b = P x := ⟨_, rfl⟩
   rw [← hb] at HC
   have HB := Lib.hid hb
   clear hb hx
   go_wp2_with fail
   refine Calls.mono HC.out ?_
   rintro e w1 ⟨rfl, hb1⟩
   have HB1 := Lib.hid (HBL.out.trans (hb1.mono HBL.out.size))
   clear hb1 c1
   cases b
   ·go_wp2_with fail
    go_roundw
    case rel => exact ⟨k + 1, by omega, by go_num, HB1.out, fun j h hj => by
     by_cases e : j = k
     ·subst e; rw [← HX.out]; exact HB.out.symm
     ·exact HA.out j h (by omega)⟩
    case measure => simp [intOf]; omega
   ·have HI : Hid (idxS P xs = (k : Int)) := by
     unfold Hid idxS
     have h1 : xs.findIdx P = k := by
      rw [List.findIdx_eq hlt]
      exact ⟨by rw [← HX.out]; exact HB.out.symm, fun j hj => HA.out j (by omega) hj⟩
     rw [h1, if_pos hlt]
    go_wp2_with fail
    go_ret
    exact ⟨ret_int HI.out.symm, HB1.out⟩
  ·clear hbl
   have HI : Hid (idxS P xs = -1) := by
    unfold Hid
    rw [idxS_neg]
    intro x hx
    obtain ⟨j, hj, rfl⟩ := List.mem_iff_getElem.1 hx
    exact HA.out j hj (by omega)
   go_wp2_with fail
   go_ret
   exact ⟨ret_int HI.out.symm, HBL.out⟩

end Go.Proofs.YtmeibnhhlknbfaaGreatDoor

namespace Go.Proofs.YtmeibnhhlknbfaaGreatDoor
open Go Go.RowKit

theorem Index_strs (lo : Nat) (v : Value) (x : ByteArray) (xs : List ByteArray) (w : World) (hv : SliceK 1 encS lo w v xs) :
  Calls Tryz.prog 79 #[v, .string x] w fun e w' => ∃ r : Int, e = .returned (.int .i64 r) ∧ decide (0 ≤ r) = (xs.any fun y => y.toList == x.toList) ∧ w = w' := by
 obtain ⟨a, c, rfl, hcn, hcc, hrow⟩ := hv
 go_enter Tryz.func79, Tryz.ntmps79
 go_wp2_with fail
 go_loop [8] (fun i => ∃ k : Nat, k ≤ xs.length ∧ i = .int .i64 k ∧ ∀ j (h : j < xs.length), j < k → (x.toList == xs[j].toList) = false) (fun i => xs.length - (intOf i).toNat)
 case atStart => exact ⟨0, Nat.zero_le _, rfl, fun _ _ h => by omega⟩
 case round =>
  obtain ⟨k, hk, rfl, ha⟩ := hrel
  have HA := Lib.hid ha
  clear ha
  by_cases hlt : k < xs.length
  ·obtain ⟨b1, o1, rfl, -, hbs, c1⟩ := hrow.one hlt
   simp only [encS, List.getElem?_cons_zero] at c1
   clear hrow
   cases h0 : (x.toList == xs[k].toList)
   ·have H0 := Lib.hid h0
    go_wp2_with fail
    go_round
    case rel => exact ⟨k + 1, by omega, by go_num, fun j h hj => by
     by_cases e : j = k
     ·subst e; exact H0.out
     ·exact HA.out j h (by omega)⟩
    case measure => simp [intOf]; omega
   ·have HF : Hid ((xs.any fun y => y.toList == x.toList) = true) := by
     unfold Hid
     rw [List.any_eq_true]
     exact ⟨xs[k], List.getElem_mem _, by rw [beq_iff_eq] at h0 ⊢; exact h0.symm⟩
    go_wp2_with fail
    go_ret
    exact ⟨_, rfl, by rw [HF.out]; simp, rfl⟩
  ·clear hrow
   go_wp2_with fail
   go_ret
   refine ⟨_, rfl, ?_, rfl⟩
   have : (xs.any fun y => y.toList == x.toList) = false := by
    rw [List.any_eq_false]
    intro y hy
    obtain ⟨j, hj, rfl⟩ := List.mem_iff_getElem.1 hy
    have := HA.out j hj (by omega)
    simp at this ⊢
    exact fun e => this e.symm
   rw [this]; simp

theorem Contains_strs (lo : Nat) (v : Value) (x : ByteArray) (xs : List ByteArray) (w : World) (hv : SliceK 1 encS lo w v xs) :
  Calls Tryz.prog 57 #[v, .string x] w fun e w' => e = .returned (.bool (xs.any fun y => y.toList == x.toList)) ∧ w = w' := by
 have HV := Lib.hid hv
 clear hv
 go_enter Tryz.func57, Tryz.ntmps57
 go_wp2_with fail
 refine (Index_strs lo v x xs _ HV.out).mono ?_
 rintro e w' ⟨r, rfl, hr, rfl⟩
 have HR := Lib.hid hr
 clear hr
 go_wp2_with fail
 go_ret
 exact ⟨ret_bool HR.out, rfl⟩

end Go.Proofs.YtmeibnhhlknbfaaGreatDoor

namespace Go.Proofs.YtmeibnhhlknbfaaGreatDoor
open Go Go.RowKit

/-- The verdict of a state. -/
def vdI (m : Mon) (k : Int) : Int := m.vs.getD k.toNat 0
/-- The state behind a label; -1 if there is none. A state with a verdict stays. -/
def obsI (m : Mon) (k : Int) (l : ByteArray) : Int := if vdI m k = 0 then goTo m.sys k l else k
def keepB (m : Mon) (k : Int) (l : ByteArray) : Bool := decide (0 ≤ obsI m k l) && !(decide (vdI m (obsI m k l) = 2))
/-- What is left of a trace. -/
def enfL (m : Mon) : Int → List ByteArray → List ByteArray
 | _, [] => []
 | k, l :: ls => if keepB m k l = true then l :: enfL m (obsI m k l) ls else enfL m k ls
/-- The run: the verdict, how many labels were read, the code. -/
def runM (m : Mon) : Int → Int → List ByteArray → Int × Int × Int
 | k, n, [] => (vdI m k, n, 0)
 | k, n, l :: ls => if vdI m k = 0 then (if goTo m.sys k l < 0 then (0, 0, 3) else runM m (goTo m.sys k l) (n + 1) ls) else (vdI m k, n, 0)
theorem enfL_keep {m : Mon} {k : Int} {l : ByteArray} {ls : List ByteArray} (h : keepB m k l = true) : enfL m k (l :: ls) = l :: enfL m (obsI m k l) ls := by
 show (if keepB m k l = true then _ else _) = _
 rw [if_pos h]
theorem enfL_drop {m : Mon} {k : Int} {l : ByteArray} {ls : List ByteArray} (h : keepB m k l = false) : enfL m k (l :: ls) = enfL m k ls := by
 show (if keepB m k l = true then _ else _) = _
 rw [if_neg (by rw [h]; decide)]
theorem runM_end {m : Mon} {k n : Int} (ls : List ByteArray) (h : vdI m k ≠ 0) : runM m k n ls = (vdI m k, n, 0) := by
 cases ls with
 | nil => rfl
 | cons l ls =>
  show (if vdI m k = 0 then _ else _) = _
  rw [if_neg h]
theorem runM_none {m : Mon} {k n : Int} {l : ByteArray} {ls : List ByteArray} (h : vdI m k = 0) (hg : goTo m.sys k l < 0) : runM m k n (l :: ls) = (0, 0, 3) := by
 show (if vdI m k = 0 then _ else _) = _
 rw [if_pos h, if_pos hg]
theorem runM_step {m : Mon} {k n : Int} {l : ByteArray} {ls : List ByteArray} (h : vdI m k = 0) (hg : ¬ goTo m.sys k l < 0) : runM m k n (l :: ls) = runM m (goTo m.sys k l) (n + 1) ls := by
 show (if vdI m k = 0 then _ else _) = _
 rw [if_pos h, if_neg hg]
theorem keepB_iff {m : Mon} {k : Int} {l : ByteArray} : keepB m k l = true ↔ 0 ≤ obsI m k l ∧ vdI m (obsI m k l) ≠ 2 := by
 unfold keepB
 rw [Bool.and_eq_true, decide_eq_true_eq, Bool.not_eq_true', decide_eq_false_iff_not]
theorem enfL_sub (m : Mon) : ∀ (ls : List ByteArray) (k : Int), List.Sublist (enfL m k ls) ls
 | [], _ => List.Sublist.slnil
 | l :: ls, k => by
  cases h : keepB m k l
  ·rw [enfL_drop h]; exact (enfL_sub m ls k).cons l
  ·rw [enfL_keep h]; exact (enfL_sub m ls _).cons_cons l
theorem enfL_len (m : Mon) (ls : List ByteArray) (k : Int) : (enfL m k ls).length ≤ ls.length := (enfL_sub m ls k).length_le
/-- What is left is never judged as false, and is read to its end where the judgement stays open. -/
theorem run_enf (m : Mon) : ∀ (ls : List ByteArray) (k n : Int), 0 ≤ k → vdI m k ≠ 2 →
  (runM m k n (enfL m k ls)).2.2 = 0 ∧ (runM m k n (enfL m k ls)).1 ≠ 2 ∧ ((runM m k n (enfL m k ls)).1 = 0 → (runM m k n (enfL m k ls)).2.1 = n + (enfL m k ls).length)
 | [], k, n, _, hv => ⟨rfl, hv, fun _ => by simp [enfL, runM]⟩
 | l :: ls, k, n, hk, hv => by
  cases h : keepB m k l
  ·rw [enfL_drop h]; exact run_enf m ls k n hk hv
  ·obtain ⟨h1, h2⟩ := keepB_iff.1 h
   rw [enfL_keep h]
   by_cases h0 : vdI m k = 0
   ·have ho : obsI m k l = goTo m.sys k l := by unfold obsI; rw [if_pos h0]
    rw [ho] at h1 h2 ⊢
    rw [runM_step h0 (by omega)]
    obtain ⟨g1, g2, g3⟩ := run_enf m ls (goTo m.sys k l) (n + 1) h1 h2
    refine ⟨g1, g2, fun e => ?_⟩
    rw [g3 e, List.length_cons]
    omega
   ·rw [runM_end _ h0]
    exact ⟨rfl, hv, fun e => absurd e h0⟩
/-- A run that is not judged as false keeps the whole trace. -/
theorem enf_all (m : Mon) : ∀ (ls : List ByteArray) (k n : Int), 0 ≤ k → vdI m k ≠ 2 → (runM m k n ls).2.2 = 0 → (runM m k n ls).1 ≠ 2 → enfL m k ls = ls
 | [], _, _, _, _, _, _ => rfl
 | l :: ls, k, n, hk, hv, hc, h2 => by
  by_cases h0 : vdI m k = 0
  ·by_cases hg : goTo m.sys k l < 0
   ·rw [runM_none h0 hg] at hc
    exact absurd hc (by decide)
   ·rw [runM_step h0 hg] at hc h2
    have ho : obsI m k l = goTo m.sys k l := by unfold obsI; rw [if_pos h0]
    have hn : vdI m (goTo m.sys k l) ≠ 2 := fun e => by
     rw [runM_end ls (by rw [e]; decide)] at h2
     exact h2 e
    rw [enfL_keep (keepB_iff.2 (by rw [ho]; exact ⟨by omega, hn⟩)), ho, enf_all m ls _ (n + 1) (by omega) hn hc h2]
  ·have ho : obsI m k l = k := by unfold obsI; rw [if_neg h0]
   rw [enfL_keep (keepB_iff.2 (by rw [ho]; exact ⟨hk, hv⟩)), ho]
   rw [runM_end _ h0] at hc h2
   rw [enf_all m ls k n hk hv (by rw [runM_end _ h0]) (by rw [runM_end _ h0]; exact hv)]
/-- Either the whole run is not false, and all is left; or less is left. -/
theorem enf_less {m : Mon} {ls : List ByteArray} {k : Int} (hk : 0 ≤ k) (hv : vdI m k ≠ 2) (h : ¬ ((runM m k 0 ls).2.2 = 0 ∧ (runM m k 0 ls).1 ≠ 2)) : (enfL m k ls).length < ls.length := by
 rcases Nat.lt_or_ge (enfL m k ls).length ls.length with h1 | h1
 ·exact h1
 ·have he := (enfL_sub m ls k).eq_of_length (Nat.le_antisymm (enfL_len m ls k) h1)
  have := run_enf m ls k 0 hk hv
  rw [he] at this
  exact absurd ⟨this.1, this.2.1⟩ h
theorem obsI_range {m : Mon} (h : MonOk m) {k : Int} (hk : 0 ≤ k ∧ k < m.sys.states) (l : ByteArray) : -1 ≤ obsI m k l ∧ obsI m k l < m.sys.states := by
 unfold obsI
 split
 ·exact goTo_range h.valid k l
 ·exact ⟨by omega, hk.2⟩
end Go.Proofs.YtmeibnhhlknbfaaGreatDoor
