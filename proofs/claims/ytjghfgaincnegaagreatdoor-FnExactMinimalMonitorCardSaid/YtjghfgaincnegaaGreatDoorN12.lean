/-
  The reference's l11Make: a system out of texts and edges whose labels are places of the texts.
  What the reference's step by a label computes.
  A map that numbers its keys in the order in which they came.
  Keys of lists of numbers, an edge as an arc.
  Rows as keys of a map.
  A system out of the search: plain facts, and a struct of four cells.
  The reference's l11Used: the system with the labels in use.
  Two facts on sets of labels and of edges. Plain.
-/
import Derived.Test.YtjghfgaincnegaaGreatDoorN11
import Derived.Test.YtjghfgaincnegaaGreatDoorN10
import Derived.Test.YtjghfgaincnegaaGreatDoorN8
import Derived.Test.YtjghfgaincnegaaGreatDoorN9
import Derived.Test.YtjghfgaincnegaaGreatDoorN3
import Derived.Test.YtjghfgaincnegaaGreatDoorN6
import Derived.Test.YtjghfgaincnegaaGreatDoorN7
import Derived.Test.YtjghfgaincnegaaGreatDoorN1
import Derived.Maps.OwnOps
import Derived.Lib.ItoaNum
import Derived.Lib.ItoaLen
import Derived.Deep.RegionLaw
import Derived.Deep.AppendLies
import Derived.Handy
import Derived.Deep.RegionHeld3
import Derived.Sort.OwnSorted
namespace Go.Proofs.YtjghfgaincnegaaGreatDoor
open Go Go.RowKit

/-- An edge whose label is a place of the texts, as an edge of the system with the labels L. -/
def makeE (L texts : List ByteArray) (e : Edge) : Edge := ⟨e.src, textAt L (texts.getD e.lab.toNat ByteArray.empty), e.dst⟩
/-- The edges laid so far. -/
def MkEdges (L texts : List ByteArray) (es R : List Edge) : Prop := RiseE R ∧ R.length ≤ es.length ∧ ∀ x, x ∈ R ↔ x ∈ es.map (makeE L texts)
theorem MkEdges.nil (L texts : List ByteArray) : MkEdges L texts [] [] := ⟨List.Pairwise.nil, Nat.le_refl _, fun _ => Iff.rfl⟩
theorem MkEdges.put {L texts : List ByteArray} {es R R2 : List Edge} {k : Nat} (h : MkEdges L texts (es.take k) R) (hk : k < es.length) (hp : PutIs R (makeE L texts es[k]) R2) : MkEdges L texts (es.take (k + 1)) R2 := by
 obtain ⟨h1, h2, h3⟩ := h
 obtain ⟨p1, p2, p3⟩ := hp
 refine ⟨p1, ?_, fun x => ?_⟩
 ·rw [List.length_take] at h2 ⊢; omega
 ·rw [p3, h3, List.take_succ_eq_append_getElem hk, List.map_append, List.mem_append, List.map_singleton, List.mem_singleton]
theorem lmake_results {w : World} {b : Nat} {v0 v1 v2 v3 : Value} {tmps : Array Value} (hc : tmps.getD 8 undef = .pointer (some ⟨b, 0, none⟩)) (hb : Blk w b [v0, v1, v2, v3] 32) :
  (results Tryz.f88 tmps).run Tryz.prog w = .ok (.agg #[v0, v1, v2, v3]) w := by
 have h0 := hb.cell 0 rfl
 have h1 := hb.cell 1 rfl
 have h2 := hb.cell 2 rfl
 have h3 := hb.cell 3 rfl
 simp only [Array.getD_eq_getD_getElem?] at hc
 simp [results, Tryz.results88, go_sem, hc, h0, h1, h2, h3, Result.andThen]
theorem blk_kept {w w' : World} {b : Nat} {cs : List Value} {t : TypeId} (h : Blk w b cs t) {base e size n : Nat} {v : Value} {xs : List Value} (ho : w.ownsRow base e size v n xs) (hg : w.grownBy w' v.ownBlock) (he : e ≠ t) : Blk w' b cs t :=
 (hg.block b h.lt (blk_own_neL h ho he)).trans h
/-- What l11Make returns. -/
def RetMk (n i : Int) (texts : List ByteArray) (es : List Edge) (w : World) (e : Ending) (w' : World) : Prop :=
 Below w.heap.size w w' ∧ ∃ (lv ev : Value) (R : List Edge), e = .returned (.agg #[.int .i64 n, .int .i64 i, lv, ev]) ∧ OwnStrs w.heap.size w' lv (labSet (tauT :: texts)) ∧ w'.ownsRow w.heap.size 78 3 ev R.length (R.flatMap encE) ∧ MkEdges (labSet (tauT :: texts)) texts es R

set_option maxRecDepth 100000 in
set_option maxHeartbeats 4000000 in
theorem l11Make_any (lo lo2 : Nat) (n i : Int) (texts : List ByteArray) (es : List Edge) (tv ev : Value) (w : World) (ht : SliceK 1 encS lo w tv texts) (he : SliceK 3 encE lo2 w ev es) (htn : texts.length ≤ 900) (hen : es.length ≤ 900) (hlab : ∀ e ∈ es, 0 ≤ e.lab ∧ e.lab < texts.length) :
  Calls Tryz.prog 88 #[.int .i64 n, .int .i64 i, tv, ev] w (RetMk n i texts es w) := by
 obtain ⟨rb, hrb⟩ : ∃ rb, rb = w.heap.size := ⟨_, rfl⟩
 obtain ⟨wA, hwA⟩ : ∃ wA, wA = w.alloc (.cells #[.int .i64 0, .int .i64 0, .slice none 0 0, .slice none 0 0] 32) := ⟨_, rfl⟩
 have hbA : Below w.heap.size w wA := by rw [hwA]; exact (Below.refl _ _).alloc (Nat.le_refl _) _
 have hRB : Blk wA rb [.int .i64 0, .int .i64 0, .slice none 0 0, .slice none 0 0] 32 := by rw [hwA, hrb]; exact Blk.new w _ _
 have HJ := Lib.hid (l11Join_any lo tv texts wA (ht.below hbA) (by omega))
 have HT := Lib.hid (ht.below hbA)
 have HE := Lib.hid (he.below hbA)
 have HLAB := Lib.hid hlab
 obtain ⟨ta, tc, rfl, -, -, htrow⟩ := ht.below hbA
 obtain ⟨ea, ec, rfl, -, -, herow⟩ := he.below hbA
 have HTR := Lib.hid htrow
 have HER := Lib.hid herow
 obtain ⟨TN, hTN⟩ : ∃ TN, TN = texts.length := ⟨_, rfl⟩
 obtain ⟨EN, hEN⟩ : ∃ EN, EN = es.length := ⟨_, rfl⟩
 rw [← hTN] at htn HJ HT ⊢
 rw [← hEN] at hen HE ⊢
 have HTN := Lib.hid hTN
 have HEN := Lib.hid hEN
 have HRB := Lib.hid hRB
 have HBA := Lib.hid hbA
 have HWA := Lib.hid hwA
 have HRBB := Lib.hid hrb
 clear ht he hbA hRB hwA hrb htrow herow hTN hEN hlab
 go_enter Tryz.func88, Tryz.ntmps88
 go_wp2_with fail
 rw [← HWA.out]
 try rw [← HRBB.out]
 refine Calls.mono HJ.out ?_
 rintro e w1 ⟨lv, rfl, hb1, ho1⟩
 obtain ⟨L, hL⟩ : ∃ L, L = labSet (tauT :: texts) := ⟨_, rfl⟩
 rw [← hL] at ho1
 obtain ⟨la, lc, rfl, -, -⟩ := owns_slice ho1
 obtain ⟨LN, hLN⟩ : ∃ LN, LN = L.length := ⟨_, rfl⟩
 rw [← hLN] at ho1 ⊢
 obtain ⟨ob, hob⟩ : ∃ ob, ob = w1.heap.size + 1 := ⟨_, rfl⟩
 obtain ⟨W2, hW2⟩ : ∃ W2, W2 = (w1.alloc (.cells #[] 78)).alloc (.cells #[.int .i64 n, .int .i64 i, .slice la LN lc, .slice (some ⟨w1.heap.size, 0, none⟩) 0 0] 32) := ⟨_, rfl⟩
 have hb2 : Below w1.heap.size w1 W2 := by rw [hW2]; exact ((Below.refl _ _).alloc (Nat.le_refl _) _).alloc (by simp) _
 have hOB : Blk W2 ob [.int .i64 n, .int .i64 i, .slice la LN lc, .slice (some ⟨w1.heap.size, 0, none⟩) 0 0] 32 := by
  have h := Blk.new (w1.alloc (.cells #[] 78)) [.int .i64 n, .int .i64 i, .slice la LN lc, .slice (some ⟨w1.heap.size, 0, none⟩) 0 0] 32
  rw [World.size_alloc, ← hob] at h
  rw [hW2]
  exact h
 have hE0 : W2.ownsRow w1.heap.size 78 3 (.slice (some ⟨w1.heap.size, 0, none⟩) 0 0) 0 [] := by
  rw [hW2]
  exact (World.ownsRow_lit (base := w1.heap.size) (e := 78) (size := 3) w1 #[] 0 (Nat.le_refl _) (by decide) rfl).alloc _
 have HOB := Lib.hid hOB
 have HE0 := Lib.hid hE0
 have HB2 : Hid (Below wA.heap.size wA W2) := hb1.trans (hb2.mono hb1.size)
 have HOL : Hid (OwnStrs wA.heap.size W2 (.slice la LN lc) L) := by
  unfold Hid OwnStrs
  rw [← hLN]
  exact owns_below ho1 hb2
 have HW2 := Lib.hid hW2
 have HOBB := Lib.hid hob
 have hs1 : wA.heap.size ≤ w1.heap.size := hb1.size
 have HL := Lib.hid hL
 have HLN := Lib.hid hLN
 obtain ⟨B, hB⟩ : ∃ B, B = w1.heap.size := ⟨_, rfl⟩
 rw [← hB] at HOB HE0 HOBB hs1 hob
 have HOBN : Hid (ob = B + 1) := hob
 have HB := Lib.hid hB
 have HRB2 : Hid (Blk W2 rb [.int .i64 0, .int .i64 0, .slice none 0 0, .slice none 0 0] 32) := HRB.out.below HB2.out
 have hrbA : rb < wA.heap.size := HRB.out.lt
 clear hb1 ho1 hb2 hOB hE0 hW2 hL hLN hob HJ hB
 go_wp2
 rw [← HB.out]
 try rw [← HOBB.out]
 try rw [← HB.out] at HW2
 try rw [← HW2.out]
 go_loopw [10] (fun v10 wr => ∃ (k : Nat) (R : List Edge) (ra : Option Addr) (rc : Nat), k ≤ EN ∧ v10 = .int .i64 k ∧ Below wA.heap.size wA wr ∧ Blk wr ob [.int .i64 n, .int .i64 i, .slice la LN lc, .slice ra R.length rc] 32 ∧ Blk wr rb [.int .i64 0, .int .i64 0, .slice none 0 0, .slice none 0 0] 32 ∧ OwnStrs wA.heap.size wr (.slice la LN lc) L ∧ wr.ownsRow B 78 3 (.slice ra R.length rc) R.length (R.flatMap encE) ∧ MkEdges L texts (es.take k) R ∧ W2.heap.size ≤ wr.heap.size) (fun v10 _ => EN - (intOf v10).toNat)
 case atStart => exact ⟨0, [], _, _, Nat.zero_le _, rfl, HB2.out, HOB.out, HRB2.out, HOL.out, HE0.out, MkEdges.nil _ _, Nat.le_refl _⟩
 case round =>
  obtain ⟨k, R, ra, rc, hk, rfl, hbl, hob9, hrb9, hol9, hre, hmk, hsW⟩ := hrel
  obtain ⟨wC, rfl⟩ : ∃ wC : World, wC = wr := ⟨_, rfl⟩
  have HBL := Lib.hid hbl
  have HO9 := Lib.hid hob9
  have HR9 := Lib.hid hrb9
  have HL9 := Lib.hid hol9
  have HE9 := Lib.hid hre
  have HMK := Lib.hid hmk
  have hszC := hbl.size
  have hRl : R.length ≤ 900 := by have := hmk.2.1; rw [List.length_take] at this; have := HEN.out; omega
  obtain ⟨RN, hRN⟩ : ∃ RN, RN = R.length := ⟨_, rfl⟩
  rw [← hRN] at HO9 HE9 hRl
  have HRN := Lib.hid hRN
  by_cases hlt : k < EN
  ·have hlt2 : k < es.length := by rw [← HEN.out]; exact hlt
   obtain ⟨be, oe, rfl, -, hbe, e1, e2, e3⟩ := (HER.out.below hbl).edge hlt2
   obtain ⟨x, hx⟩ : ∃ x, x = es[k] := ⟨_, rfl⟩
   have hxl := HLAB.out x (by rw [hx]; exact List.getElem_mem _)
   rw [← hx] at e1 e2 e3
   obtain ⟨m, hm⟩ : ∃ m : Nat, (m : Int) = x.lab := ⟨x.lab.toNat, by omega⟩
   have hmT : m < texts.length := by omega
   have hmT2 : m < TN := by have := HTN.out; omega
   obtain ⟨bt, ot, rfl, -, hbt, ct⟩ := (HTR.out.below hbl).one hmT
   simp only [encS, List.getElem?_cons_zero] at ct
   have hmk2 : makeE L texts x = ⟨x.src, textAt L texts[m], x.dst⟩ := by
    unfold makeE
    rw [← hm, Int.toNat_natCast, List.getD_eq_getElem?_getD, List.getElem?_eq_getElem hmT]
    rfl
   obtain ⟨l, hl⟩ : ∃ l, l = texts[m] := ⟨_, rfl⟩
   rw [← hl] at ct hmk2
   obtain ⟨tx, htx⟩ : ∃ tx, tx = textAt L l := ⟨_, rfl⟩
   rw [← htx] at hmk2
   obtain ⟨xs, hxs⟩ : ∃ xs, xs = x.src := ⟨_, rfl⟩
   obtain ⟨xd, hxd⟩ : ∃ xd, xd = x.dst := ⟨_, rfl⟩
   rw [← hxs] at e1 hmk2
   rw [← hxd] at e3 hmk2
   rw [← hm] at e2
   -- the edge's box
   obtain ⟨wD, hwD⟩ : ∃ wD, wD = wC.alloc (.cells #[.int .i64 xs, .int .i64 m, .int .i64 xd] 78) := ⟨_, rfl⟩
   obtain ⟨xb, hxb⟩ : ∃ xb, xb = wC.heap.size := ⟨_, rfl⟩
   have hbD : Below wC.heap.size wC wD := by rw [hwD]; exact (Below.refl _ _).alloc (Nat.le_refl _) _
   have hXD : Blk wD xb [.int .i64 xs, .int .i64 m, .int .i64 xd] 78 := by rw [hwD, hxb]; exact Blk.new wC _ _
   have hODD := hob9.below hbD
   rw [← hRN] at hODD
   have HXD := Lib.hid hXD
   have HOD := Lib.hid hODD
   have HFI : Hid (∀ g : Later wD, Calls Tryz.prog 125 #[.slice la LN lc, .string l] g.w fun e w' => e = .returned (.int .i64 tx) ∧ Below g.w.heap.size g.w w') := fun g => by
    rw [htx]
    have h := HL9.out.below (hbD.trans (g.h.mono hbD.size))
    unfold OwnStrs at h
    rw [← HLN.out] at h
    exact l11Find_any wA.heap.size _ L l g.w (SliceK.of_owns (e := 9) encS_len HLN.out (by rw [flat_encS]; exact h))
   have lo2' := later_cell hODD.lt (hODD.cell 2 rfl)
   have lx1 := later_cell hXD.lt (hXD.cell 1 rfl)
   have hbtD : bt < wD.heap.size := Nat.lt_of_lt_of_le hbt hbD.size
   have lct := later_cell hbtD (keeps hbD hbt ct)
   have HBD := Lib.hid hbD
   have HWD := Lib.hid hwD
   have HXB := Lib.hid hxb
   have HMK2 := Lib.hid hmk2
   have hmi : (m : Int) < (TN : Int) := by omega
   have HX := Lib.hid hx
   clear hbl hob9 hrb9 hol9 hre hmk hRN hx hxl hm hmT hl htx hxs hxd hbD hXD hODD hwD hxb hmk2 ct hbtD
   go_wp2
   rw [← HWD.out]
   try rw [← HXB.out]
   refine wp_region_later_tail 9 (by kernel_rfl) (by kernel_rfl) ?_
   simp only [List.take_succ_cons, List.take_zero, List.drop_succ_cons, List.drop_zero]
   repeat (go_big_quiet_step ((go_at_call 125; exact later_call (HFI.out _))))
   refine wpQuiet_nil ?_
   intro _ hw9
   obtain ⟨nl, hw8⟩ := hw9
   subst hw8
   obtain ⟨wE, hwE⟩ : ∃ wE, wE = nl.w := ⟨_, rfl⟩
   have hbE : Below wD.heap.size wD wE := by rw [hwE]; exact nl.h
   have hXE := HXD.out.below hbE
   have hxz := hXE.frozen 1
   have hxc := hXE.cell 1 rfl
   have hxlE := hXE.lt
   have HXE : Hid (Blk (wE.setCell ⟨xb, 1, none⟩ (.int .i64 tx)) xb [.int .i64 xs, .int .i64 tx, .int .i64 xd] 78) := hXE.set 1 _
   have hbCE : Below wC.heap.size wC wE := HBD.out.trans (hbE.mono HBD.out.size)
   have HBF : Hid (Below wC.heap.size wC (wE.setCell ⟨xb, 1, none⟩ (.int .i64 tx))) := hbCE.setCell (by rw [HXB.out]; exact Nat.le_refl _) _
   rw [← hwE]
   clear lo2' lx1 lct hwE hbE hXE hbCE
   clear nl
   obtain ⟨wF, hwF⟩ : ∃ wF, wF = wE.setCell ⟨xb, 1, none⟩ (.int .i64 tx) := ⟨_, rfl⟩
   rw [← hwF] at HXE HBF
   have HWF := Lib.hid hwF
   have hbF := HBF.out
   have o3 := (HO9.out.below hbF).cell 3 rfl
   have f1 := HXE.out.cell 0 rfl
   have f2 := HXE.out.cell 1 rfl
   have f3 := HXE.out.cell 2 rfl
   have hobl := (HO9.out.below hbF).lt
   have hxbl := HXE.out.lt
   have HEF := Lib.hid (owns_below HE9.out hbF)
   have HPU := Lib.hid (l11Put_any B (.slice ra RN rc) R ⟨xs, tx, xd⟩ wF (by rw [← HRN.out]; exact HEF.out) HMK.out.1 (by have := hbF.size; have := hsW; have := HOB.out.lt; have := HOBN.out; omega) (by rw [← HRN.out]; omega))
   rw [hwF] at o3 f1 f2 f3 hobl hxbl
   clear hwF hbF
   go_wp2_with fail
   rw [← HWF.out]
   refine Calls.mono HPU.out ?_
   rintro e9 w8 ⟨v8, R8, rfl, hg8, ho8, hp8⟩
   obtain ⟨ra8, rc8, rfl, -, -⟩ := owns_slice ho8
   have hX8 : Blk w8 ob _ 32 := blk_kept (HO9.out.below HBF.out) HEF.out hg8 (by decide)
   have hr8 : Blk w8 rb _ 32 := blk_kept (HR9.out.below HBF.out) HEF.out hg8 (by decide)
   have hl8 : OwnStrs wA.heap.size w8 (.slice la LN lc) L := World.ownsRow.kept (HL9.out.below HBF.out) hg8 (own_types (HL9.out.below HBF.out) HEF.out (by decide))
   have hbAF : Below wA.heap.size wA wF := HBL.out.trans (HBF.out.mono hszC)
   have hsAF := hbAF.size
   have hbA8 : Below wA.heap.size wA w8 := hbAF.grown hg8 hsAF (fun b e => by have := (HEF.out.lt b e).1; omega)
   have hs8 : W2.heap.size ≤ w8.heap.size := by have := HBF.out.size; have := hg8.size; omega
   have HX8 := Lib.hid hX8
   have HR8 := Lib.hid hr8
   have HL8 := Lib.hid hl8
   have HE8 := Lib.hid ho8
   have HB8 := Lib.hid hbA8
   have HMK8 : Hid (MkEdges L texts (es.take (k + 1)) R8) := HMK.out.put hlt2 (by rw [← HX.out, HMK2.out]; exact hp8)
   have c3 := hX8.cell 3 rfl
   have z3 := hX8.frozen 3
   have hol8 := hX8.lt
   have hAB : wA.heap.size ≤ ob := by have := HOBN.out; omega
   have hnr : rb ≠ ob := by have := HOBN.out; omega
   clear hg8 ho8 hp8 hX8 hr8 hl8 hbAF hbA8 o3 f1 f2 f3 hobl hxbl HPU hxz hxc hxlE
   go_wp2
   go_roundw
   case rel => exact ⟨k + 1, R8, ra8, rc8, by omega, by go_num, HB8.out.setCell hAB _, HX8.out.set 3 _, HR8.out.setOther _ _ hnr, own_sets HL8.out HX8.out (by decide) 3 _, own_sets HE8.out HX8.out (by decide) 3 _, HMK8.out, by simpa using hs8⟩
   case measure => simp [intOf]; omega
  ·have hkE : k = EN := by omega
   have HMF : Hid (MkEdges L texts es R) := by
    have h := HMK.out
    rw [hkE, HEN.out, List.take_length] at h
    exact h
   have o0 := HO9.out.cell 0 rfl
   have o1 := HO9.out.cell 1 rfl
   have o2 := HO9.out.cell 2 rfl
   have o3 := HO9.out.cell 3 rfl
   have r0 := HR9.out.cell 0 rfl
   have r1 := HR9.out.cell 1 rfl
   have r2 := HR9.out.cell 2 rfl
   have r3 := HR9.out.cell 3 rfl
   have s0 := HR9.out.frozen 0
   have s1 := HR9.out.frozen 1
   have s2 := HR9.out.frozen 2
   have s3 := HR9.out.frozen 3
   have hobl := HO9.out.lt
   have hrbl := HR9.out.lt
   clear hbl hob9 hrb9 hol9 hre hmk hkE hRN
   go_wp2
   have hR1 := HR9.out.set 0 (.int .i64 n)
   have hR2 := hR1.set 1 (.int .i64 i)
   have hR3 := hR2.set 2 (.slice la LN lc)
   have hle : w.heap.size ≤ rb := by rw [HRBB.out]; exact Nat.le_refl _
   refine bodyPost_ret (lmake_results rfl (hR3.set 3 (.slice ra RN rc))) rfl ?_
   refine ⟨((((HBA.out.trans (HBL.out.mono HBA.out.size)).setCell hle _).setCell hle _).setCell hle _).setCell hle _, _, _, R, rfl, ?_, ?_, by rw [← HL.out]; exact HMF.out⟩
   ·rw [← HL.out]
    have h1 := HL9.out
    exact OwnStrs.lower (own_sets (own_sets (own_sets (own_sets h1 HR9.out (by decide) 0 _) hR1 (by decide) 1 _) hR2 (by decide) 2 _) hR3 (by decide) 3 _) HBA.out.size
   ·rw [← HRN.out]
    have h1 := HE9.out
    exact own_lower (own_sets (own_sets (own_sets (own_sets h1 HR9.out (by decide) 0 _) hR1 (by decide) 1 _) hR2 (by decide) 2 _) hR3 (by decide) 3 _) (by have := HBA.out.size; omega)

end Go.Proofs.YtjghfgaincnegaaGreatDoor

namespace Go.Proofs.YtjghfgaincnegaaGreatDoor
open Go Go.RowKit

set_option maxRecDepth 100000 in
set_option maxHeartbeats 4000000 in
theorem l12Go_any (p lo : Nat) (t : Lts) (q : Int) (s : ByteArray) (w : World) (hE : ∀ i (h : i < t.edges.length), EdgeOk t t.edges[i]) (hp : LtsPtr lo w p t) :
  Calls Tryz.prog 45 #[.pointer (some ⟨p, 0, none⟩), .int .i64 q, .string s] w fun e w' => e = .returned (.int .i64 (goTo t q s)) ∧ Below w.heap.size w w' := by
 obtain ⟨lv, ev, hpl, -, -, q2, q3, hl, he⟩ := hp
 obtain ⟨ae, ce, rfl, hen, hec, hrow⟩ := he
 obtain ⟨al, cl, rfl, hln, hlc, hlrow⟩ := hl
 have HQ3 := Lib.hid q3
 have HQ2 := Lib.hid q2
 have HE := Lib.hid hE
 clear hE q2
 by_cases hq : q < 0
 ·have hq' : decide (0 ≤ q) = false := by rw [decide_eq_false_iff_not]; omega
  have hg : Hid (goTo t q s = -1) := by unfold Hid goTo; rw [if_pos hq]
  by_cases h0 : 0 < t.edges.length
  ·go_enter Tryz.func45, Tryz.ntmps45
   go_wp2
   go_loopw [7] (fun i wr => i = .int .i64 0 ∧ wr = w) (fun _ _ => 0)
   case atStart => exact ⟨rfl, rfl⟩
   case round =>
    obtain ⟨rfl, rfl⟩ := hrel
    go_wp2
    go_ret
    exact ⟨ret_int hg.out.symm, Below.refl _ _⟩
  ·go_enter Tryz.func45, Tryz.ntmps45
   go_wp2
   go_loopw [7] (fun i wr => i = .int .i64 0 ∧ wr = w) (fun _ _ => 0)
   case atStart => exact ⟨rfl, rfl⟩
   case round =>
    obtain ⟨rfl, rfl⟩ := hrel
    go_wp2
    go_ret
    exact ⟨ret_int hg.out.symm, Below.refl _ _⟩
 ·have hq0 : 0 ≤ q := by omega
  have hg : Hid (goTo t q s = ((t.edges.find? (hitB t q s)).map Edge.dst).getD (-1)) := by unfold Hid goTo; rw [if_neg hq]
  clear hq
  go_enter Tryz.func45, Tryz.ntmps45
  go_wp2
  clear q3
  go_loopw [7] (fun i wr => ∃ k : Nat, k ≤ t.edges.length ∧ i = .int .i64 k ∧ Below w.heap.size w wr ∧ ∀ j (h : j < t.edges.length), j < k → hitB t q s t.edges[j] = false) (fun i _ => t.edges.length - (intOf i).toNat)
  case atStart => exact ⟨0, Nat.zero_le _, rfl, Below.refl _ _, fun _ _ h => by omega⟩
  case round =>
   obtain ⟨k, hk, rfl, hbl, hx⟩ := hrel
   have HX := Lib.hid hx
   have HBL := Lib.hid hbl
   have hsz := hbl.size
   have q3 := keeps hbl hpl HQ3.out
   have q2 := keeps hbl hpl HQ2.out
   clear hx hbl
   by_cases hlt : k < t.edges.length
   ·have hek := HE.out k hlt
    have hk0 := hek.l0
    have hk1 := hek.l1
    have hkn : t.edges[k].lab.toNat < t.labels.length := by omega
    obtain ⟨be, oe, rfl, -, hbe, e1, e2, e3⟩ := (hrow.below HBL.out).edge hlt
    obtain ⟨bl, ol, rfl, -, hbl, c1⟩ := (hlrow.below HBL.out).one hkn
    simp only [encS, List.getElem?_cons_zero] at c1
    rw [labAt_get] at c1
    have HH : Hid (hitB t q s t.edges[k] = ((t.edges[k].src == q) && ((labAt t t.edges[k]).toList == s.toList))) := rfl
    have hee : ∃ e, e = t.edges[k] := ⟨_, rfl⟩
    obtain ⟨e, hee⟩ := hee
    rw [← hee] at e1 e2 e3 c1 HH hk0 hk1 hkn
    have HEE := Lib.hid hee
    clear hee hek
    generalize labAt t e = ls at *
    have hlab : ∃ n : Nat, (n : Int) = e.lab := ⟨e.lab.toNat, by omega⟩
    obtain ⟨n, hn⟩ := hlab
    rw [← hn] at e2 c1 hk0 hk1 hkn
    simp only [Int.toNat_natCast] at c1 hkn
    clear hn hrow hlrow hk0 hk1
    have s2 := later_cell (show p < wr.heap.size by omega) q2
    have s3 := later_cell (show p < wr.heap.size by omega) q3
    have f3 := later_cell hbe e3
    replace e1 := later_cell hbe e1
    replace e2 := later_cell hbe e2
    replace c1 := later_cell hbl c1
    cases g1 : (e.src == q)
    ·have HF : Hid (hitB t q s t.edges[k] = false) := by unfold Hid; rw [← HEE.out, HH.out, g1]; rfl
     go_wp2
     refine wp_region_later (by kernel_rfl) (by kernel_rfl) ?_
     repeat (go_big_quiet_step ((fail)))
     refine wpQuiet_nil ?_
     intro _ hw9
     obtain ⟨nl, hw8⟩ := hw9
     subst hw8
     clear e1 e2 e3 f3 c1 s2 g1
     have s3 := s3 nl
     go_wp2
     go_roundw
     case rel => exact ⟨k + 1, by omega, by go_num, HBL.out.trans (nl.h.mono hsz), fun j h h' => by
       by_cases e : j = k
       ·subst e; exact HF.out
       ·exact HX.out j h (by omega)⟩
     case measure => simp [intOf]; omega
    ·cases g2 : (ls.toList == s.toList)
     ·have HF : Hid (hitB t q s t.edges[k] = false) := by unfold Hid; rw [← HEE.out, HH.out, g1, g2]; rfl
      go_wp2
      refine wp_region_later (by kernel_rfl) (by kernel_rfl) ?_
      repeat (go_big_quiet_step ((fail)))
      refine wpQuiet_nil ?_
      intro _ hw9
      obtain ⟨nl, hw8⟩ := hw9
      subst hw8
      clear e1 e2 e3 f3 c1 s2 g1 g2
      have s3 := s3 nl
      go_wp2
      go_roundw
      case rel => exact ⟨k + 1, by omega, by go_num, HBL.out.trans (nl.h.mono hsz), fun j h h' => by
        by_cases e : j = k
        ·subst e; exact HF.out
        ·exact HX.out j h (by omega)⟩
      case measure => simp [intOf]; omega
     ·have HF : Hid (goTo t q s = e.dst) := by
       unfold Hid
       have : hitB t q s t.edges[k] = true := by rw [← HEE.out, HH.out, g1, g2]; rfl
       rw [hg.out, find_at hlt HX.out this, ← HEE.out]; rfl
      go_wp2
      refine wp_region_later (by kernel_rfl) (by kernel_rfl) ?_
      repeat (go_big_quiet_step ((fail)))
      refine wpQuiet_nil ?_
      intro _ hw9
      obtain ⟨nl, hw8⟩ := hw9
      subst hw8
      clear e1 e2 e3 c1 s2 g1 g2
      have s3 := s3 nl
      have f3 := f3 nl
      go_wp2
      go_ret
      exact ⟨ret_int HF.out.symm, HBL.out.trans (nl.h.mono hsz)⟩
   ·clear hrow hlrow
    go_wp2
    go_ret
    refine ⟨ret_int ?_, HBL.out⟩
    rw [hg.out, find_none (fun j h => HX.out j h (by omega))]; rfl

end Go.Proofs.YtjghfgaincnegaaGreatDoor

namespace Go.Proofs.YtjghfgaincnegaaGreatDoor
open Go Go.RowKit Go.ChangeMaps Go.MapKept
open Go.Maps (Keyed)

/-- The block of a map whose i-th key leads to i. -/
def NumMap (q : IntKind) (w : World) (b : Nat) (ks : List Value) : Prop := w.heap[b]? = some (.map (ks.mapIdx fun i k => (⟨k, .int q i, i⟩ : MapEntry)).toArray ks.length)

theorem NumMap.made (q : IntKind) (w : World) : NumMap q (w.alloc (.map #[] 0)) w.heap.size [] := (MapKept.heap_alloc w _).1

theorem NumMap.kept {q : IntKind} {w w' : World} {b : Nat} {ks : List Value} {row : Option Nat} (h : NumMap q w b ks) (hg : w.grownBy w' row) (hne : some b ≠ row) : NumMap q w' b ks :=
 (hg.block b (Array.getElem?_eq_some_iff.1 h).1 hne).trans h

theorem NumMap.below {q : IntKind} {w w' : World} {b : Nat} {ks : List Value} (h : NumMap q w b ks) (hb : Below w.heap.size w w') : NumMap q w' b ks :=
 (hb.block b (Array.getElem?_eq_some_iff.1 h).1).trans h

theorem entry_key {q : IntKind} {ks : List Value} {e : MapEntry} (h : e ∈ (ks.mapIdx fun i k => (⟨k, .int q i, i⟩ : MapEntry)).toArray.toList) : e.key ∈ ks := by
 simp only [List.mem_mapIdx] at h
 obtain ⟨i, hi, rfl⟩ := h
 exact List.getElem_mem hi

theorem nodup_get {α : Type} {l : List α} (hd : l.Nodup) {i j : Nat} (hi : i < l.length) (hj : j < l.length) (h : l[i] = l[j]) : i = j := by
 have hp := List.pairwise_iff_getElem.1 hd
 rcases Nat.lt_trichotomy i j with h1 | h1 | h1
 ·exact absurd h (hp i j hi hj h1)
 ·exact h1
 ·exact absurd h.symm (hp j i hj hi h1)

section
variable {P : Program} {k t e : TypeId} {q : IntKind} {w : World} {b : Nat} {ks : List Value}

theorem NumMap.found (h : NumMap q w b ks) (K : Keyed P k) (ht : P.underlying t = some (.map k e)) (hks : ∀ v ∈ ks, ∃ l, keyOf P k v = some l) (hd : ks.Nodup) {i : Nat} (hi : i < ks.length) :
  (Instr.lookup t (.map (some b)) ks[i] true).run P w = .ok (.tuple #[.int q i, .bool true]) w := by
 obtain ⟨kl, hkey⟩ := hks _ (List.getElem_mem hi)
 rcases K.find w hkey (ks.mapIdx fun i k => (⟨k, .int q i, i⟩ : MapEntry)).toArray.toList (fun x hx => hks _ (entry_key hx)) with ⟨_, h2⟩ | ⟨j, e0, h1, h2, h3⟩
 ·exfalso
  refine h2 ⟨ks[i], .int q i, i⟩ ?_ rfl
  simp only [List.mem_mapIdx]
  exact ⟨i, hi, rfl⟩
 ·simp only [List.getElem?_mapIdx, Option.map_eq_some_iff] at h2
  obtain ⟨k', hk', rfl⟩ := h2
  obtain ⟨hj, hk'⟩ := List.getElem?_eq_some_iff.1 hk'
  simp only at h3
  have e1 : j = i := nodup_get hd hj hi (hk'.trans h3)
  subst e1
  have hb : w.heap[b]? = some (.map (ks.mapIdx fun i k => (⟨k, .int q i, i⟩ : MapEntry)).toArray ks.length) := h
  simp only at h1
  simp [Instr.lookup, run_underlying ht, MapKept.run_getObj_map hb, K.check w _ hkey, h1, Result.andThen]

theorem NumMap.missing (h : NumMap q w b ks) (K : Keyed P k) (ht : P.underlying t = some (.map k e)) (hks : ∀ v ∈ ks, ∃ l, keyOf P k v = some l) (hz : (zeroValue e).run P w = .ok (.int q 0) w) {key : Value} {kl : Lit} (hkey : keyOf P k key = some kl) (hn : key ∉ ks) :
  (Instr.lookup t (.map (some b)) key true).run P w = .ok (.tuple #[.int q 0, .bool false]) w := by
 rcases K.find w hkey (ks.mapIdx fun i k => (⟨k, .int q i, i⟩ : MapEntry)).toArray.toList (fun x hx => hks _ (entry_key hx)) with ⟨h1, _⟩ | ⟨j, e0, _, h2, h3⟩
 ·have hb : w.heap[b]? = some (.map (ks.mapIdx fun i k => (⟨k, .int q i, i⟩ : MapEntry)).toArray ks.length) := h
  simp only at h1
  simp [Instr.lookup, run_underlying ht, MapKept.run_getObj_map hb, K.check w _ hkey, h1, hz, Result.andThen]
 ·exact absurd (h3 ▸ entry_key (List.mem_of_getElem? h2)) hn

theorem NumMap.store (h : NumMap q w b ks) (K : Keyed P k) (ht : P.underlying t = some (.map k e)) (hks : ∀ v ∈ ks, ∃ l, keyOf P k v = some l) {key : Value} {kl : Lit} (hkey : keyOf P k key = some kl) (hn : key ∉ ks) (hroom : ks.length < maxLen) :
  ∃ w', (Instr.mapUpdate t (.map (some b)) key (.int q ks.length)).run P w = .ok () w' ∧ NumMap q w' b (ks ++ [key]) ∧ w.grownBy w' (some b) := by
 have hb : w.heap[b]? = some (.map (ks.mapIdx fun i k => (⟨k, .int q i, i⟩ : MapEntry)).toArray ks.length) := h
 have e1 : ((ks ++ [key]).mapIdx fun i k => (⟨k, .int q i, i⟩ : MapEntry)).toArray = (ks.mapIdx fun i k => (⟨k, .int q i, i⟩ : MapEntry)).toArray.push ⟨key, .int q ks.length, ks.length⟩ := by
  rw [List.mapIdx_append]
  simp
 rcases K.find w hkey (ks.mapIdx fun i k => (⟨k, .int q i, i⟩ : MapEntry)).toArray.toList (fun x hx => hks _ (entry_key hx)) with ⟨h1, _⟩ | ⟨j, e0, _, h2, h3⟩
 ·refine ⟨setBlock w b (.map ((ks.mapIdx fun i k => (⟨k, .int q i, i⟩ : MapEntry)).toArray.push ⟨key, .int q ks.length, ks.length⟩) (ks.length + 1)), ?_, ?_, ?_⟩
  ·simp only at h1
   have hr : ks.length < 9223372036854775807 := hroom
   simp [Instr.mapUpdate, run_underlying ht, MapKept.run_getObj_map hb, K.check w false hkey, h1, MapKept.run_setObj_map _ hb, Result.andThen, setBlock]
  ·unfold NumMap
   rw [e1, List.length_append, List.length_singleton]
   exact heap_setBlock_same hb _
  ·exact ⟨rfl, rfl, rfl, by simp [setBlock], fun i _ hi => heap_setBlock_other hb _ (fun e => hi (by rw [e]))⟩
 ·exact absurd (h3 ▸ entry_key (List.mem_of_getElem? h2)) hn

end
end Go.Proofs.YtjghfgaincnegaaGreatDoor

namespace Go.Proofs.YtjghfgaincnegaaGreatDoor
open Go Go.RowKit

open Go.Maps (Keyed)

theorem val_decDigits : ∀ m : Nat, valFrom 0 (Lib.decDigits m) = m := by
 intro m
 induction m using Nat.strongRecOn with
 | _ m ih =>
  by_cases h : m < 10
  ·rw [Lib.decDigits_one h, valFrom_cons, valFrom_nil]
   have : (UInt8.ofNat (48 + m)).toNat = 48 + m := by rw [UInt8.toNat_ofNat']; omega
   omega
  ·have h1 : m = 10 * (m / 10) + m % 10 := by omega
   conv => lhs; rw [h1]
   rw [decDigits_step (m / 10) (m % 10) (by omega) (by omega), valFrom_append, ih (m / 10) (by omega), valFrom_cons, valFrom_nil]
   have : (UInt8.ofNat (48 + m % 10)).toNat = 48 + m % 10 := by rw [UInt8.toNat_ofNat']; omega
   omega
theorem decDigits_inj {m n : Nat} (h : Lib.decDigits m = Lib.decDigits n) : m = n := by
 rw [← val_decDigits m, h, val_decDigits]
theorem keyedS : Keyed Tryz.prog 9 := Go.Maps.string_keyed Tryz.underlying9
theorem keyOfS (b : ByteArray) (h : b.size ≤ 1048576) : ∃ l, keyOf Tryz.prog 9 (.string b) = some l := ⟨.string b.data.toList, by
 have h2 : b.size ≤ maxLen := by unfold maxLen; omega
 simp [keyOf, mapKey, Tryz.underlying9, h2]⟩
theorem underMapS : Tryz.prog.underlying 133 = some (.map 9 2) := Tryz.underlying133
theorem zeroI64 (w : World) : (zeroValue 2).run Tryz.prog w = .ok (.int .i64 0) w := by kernel_rfl

/-- An arc: an edge with its label as a text. -/
def encA (t : Lts) (e : Edge) : List Value := [.int .i64 e.src, .string (labAt t e), .int .i64 e.dst]
end Go.Proofs.YtjghfgaincnegaaGreatDoor

namespace Go.Proofs.YtjghfgaincnegaaGreatDoor
open Go Go.RowKit

theorem blk_map_ne' {w : World} {b : Nat} {cs : List Value} {t : TypeId} (h : Blk w b cs t) {m : Nat} {es : Array MapEntry} {c : Nat} (hm : w.heap[m]? = some (.map es c)) : b ≠ m := by
 intro e
 subst e
 unfold Blk at h
 rw [h] at hm
 cases hm
theorem blk_own_ne' {w : World} {b : Nat} {cs : List Value} {t : TypeId} (h : Blk w b cs t) {base e size n : Nat} {v : Value} {xs : List Value} (ho : w.ownsRow base e size v n xs) (he : e ≠ t) : some b ≠ v.ownBlock := by
 rcases own_type_ne ho (show w.heap[b]? = some (.cells cs.toArray t (0, 0)) from h) he with h | h
 ·rw [h]; simp
 ·exact fun e => h e.symm
theorem blk_blk_ne {w : World} {b c : Nat} {cs ds : List Value} {t u : TypeId} (h : Blk w b cs t) (k : Blk w c ds u) (he : t ≠ u) : b ≠ c := by
 intro e
 subst e
 unfold Blk at h k
 rw [h] at k
 simp only [Option.some.injEq, Obj.cells.injEq] at k
 exact he k.2.1

end Go.Proofs.YtjghfgaincnegaaGreatDoor

namespace Go.Proofs.YtjghfgaincnegaaGreatDoor
open Go Go.RowKit

theorem encA_encC (t : Lts) (es : List Edge) : es.flatMap (encA t) = (es.map (arcOf t)).flatMap encC := by
 rw [List.flatMap_map]
 rfl
theorem blk_new9 (w : World) : Blk (w.alloc (.cells #[.int .i64 0, .int .i64 0, .slice none 0 0, .slice none 0 0] 32)) w.heap.size [.int .i64 0, .int .i64 0, .slice none 0 0, .slice none 0 0] 32 := Blk.new w _ _
theorem box_below9 (w : World) (a : Array Value) (T : TypeId) : Below w.heap.size w (w.alloc (.cells a T)) := (Below.refl _ _).alloc (Nat.le_refl _) _
theorem own4 {w : World} {b : Nat} {x0 x1 x2 x3 v0 v1 v2 v3 : Value} (hb : Blk w b [x0, x1, x2, x3] 32) {base e size n : Nat} {v : Value} {xs : List Value} (ho : w.ownsRow base e size v n xs) (he : e ≠ 32) :
  ((((w.setCell ⟨b, 0, none⟩ v0).setCell ⟨b, 1, none⟩ v1).setCell ⟨b, 2, none⟩ v2).setCell ⟨b, 3, none⟩ v3).ownsRow base e size v n xs :=
 own_sets (own_sets (own_sets (own_sets ho hb he 0 _) (hb.set 0 v0) he 1 _) ((hb.set 0 v0).set 1 v1) he 2 _) (((hb.set 0 v0).set 1 v1).set 2 v2) he 3 _
theorem sys_short {t : Lts} {st : DNet} (hv : Valid t) (hG : DGood t st) (h : Short20 t.labels) : Short20 (sysOf t st).labels := by
 intro i hi
 have hm := ((used_is hv.labels (used_mem hG)).2 (sysOf t st).labels[i]).1 (List.getElem_mem hi)
 rcases List.mem_cons.1 hm with e | hm
 ·rw [e]; decide
 ·obtain ⟨j, hj, e⟩ := List.mem_iff_getElem.1 (used_mem hG _ hm)
  rw [← e]
  exact h j hj
theorem four_sets {w w8 : World} {b : Nat} {x0 x1 x2 x3 v0 v1 v2 v3 : Value} (hb : Blk w8 b [x0, x1, x2, x3] 32) (hB : Below w.heap.size w w8) (hw : w.heap.size ≤ b) :
  Below w.heap.size w ((((w8.setCell ⟨b, 0, none⟩ v0).setCell ⟨b, 1, none⟩ v1).setCell ⟨b, 2, none⟩ v2).setCell ⟨b, 3, none⟩ v3) ∧ Blk ((((w8.setCell ⟨b, 0, none⟩ v0).setCell ⟨b, 1, none⟩ v1).setCell ⟨b, 2, none⟩ v2).setCell ⟨b, 3, none⟩ v3) b [v0, v1, v2, v3] 32
   ∧ ∀ {base e size n : Nat} {v : Value} {xs : List Value}, w8.ownsRow base e size v n xs → e ≠ 32 → ((((w8.setCell ⟨b, 0, none⟩ v0).setCell ⟨b, 1, none⟩ v1).setCell ⟨b, 2, none⟩ v2).setCell ⟨b, 3, none⟩ v3).ownsRow base e size v n xs :=
 ⟨(((hB.setCell hw _).setCell hw _).setCell hw _).setCell hw _, (((hb.set 0 v0).set 1 v1).set 2 v2).set 3 v3,
  fun ho he => own_sets (own_sets (own_sets (own_sets ho hb he 0 _) (hb.set 0 v0) he 1 _) ((hb.set 0 v0).set 1 v1) he 2 _) (((hb.set 0 v0).set 1 v1).set 2 v2) he 3 _⟩

end Go.Proofs.YtjghfgaincnegaaGreatDoor

namespace Go.Proofs.YtjghfgaincnegaaGreatDoor
open Go Go.RowKit

/-- The edges whose labels are places of the texts in use. -/
def usedEs (E : List Edge) (k : Nat) : List Edge := (List.range k).map fun (j : Nat) => ⟨(E.getD j ⟨0, 0, 0⟩).src, (j : Int) + 1, (E.getD j ⟨0, 0, 0⟩).dst⟩
theorem usedEs_succ {E : List Edge} {k : Nat} (h : k < E.length) : usedEs E (k + 1) = usedEs E k ++ [⟨E[k].src, (k : Int) + 1, E[k].dst⟩] := by
 unfold usedEs
 rw [List.range_succ, List.map_append]
 simp [List.getD_eq_getElem?_getD, List.getElem?_eq_getElem h]
theorem usedEs_len (E : List Edge) (k : Nat) : (usedEs E k).length = k := by simp [usedEs]
def usedTs (t : Lts) (k : Nat) : List ByteArray := tauT :: (t.edges.take k).map (labAt t)
theorem usedTs_len {t : Lts} {k : Nat} (h : k ≤ t.edges.length) : (usedTs t k).length = k + 1 := by simp [usedTs]; omega
theorem usedTs_succ {t : Lts} {k : Nat} (h : k < t.edges.length) : usedTs t (k + 1) = usedTs t k ++ [labAt t t.edges[k]] := by
 unfold usedTs
 rw [List.take_succ_eq_append_getElem h, List.map_append]
 rfl
theorem us_results {w : World} {b : Nat} {v0 v1 v2 v3 : Value} {tmps : Array Value} (hc : tmps.getD 2 undef = .pointer (some ⟨b, 0, none⟩)) (hb : Blk w b [v0, v1, v2, v3] 32) :
  (results Tryz.f47 tmps).run Tryz.prog w = .ok (.agg #[v0, v1, v2, v3]) w := by
 have h0 := hb.cell 0 rfl
 have h1 := hb.cell 1 rfl
 have h2 := hb.cell 2 rfl
 have h3 := hb.cell 3 rfl
 simp only [Array.getD_eq_getD_getElem?] at hc
 simp [results, Tryz.results47, go_sem, hc, h0, h1, h2, h3, Result.andThen]
theorem info_strU : (Tryz.prog.info? 9).map (fun i => (i.zero, i.size, i.bytes)) = some (some (.string ⟨#[]⟩), 1, 16) := by kernel_rfl
theorem info_edgeU : (Tryz.prog.info? 78).map (fun i => (i.zero, i.size, i.bytes)) = some (some (.agg #[.int .i64 0, .int .i64 0, .int .i64 0]), 3, 24) := by kernel_rfl

set_option maxRecDepth 100000 in
set_option maxHeartbeats 4000000 in
theorem l11Used_any (p lo : Nat) (t : Lts) (w : World) (hE : ∀ i (h : i < t.edges.length), 0 ≤ t.edges[i].lab ∧ t.edges[i].lab < t.labels.length) (hz : t.edges.length ≤ 800) (hp : LtsPtr lo w p t) :
  Calls Tryz.prog 47 #[.pointer (some ⟨p, 0, none⟩)] w (RetMk t.states t.initial (usedTs t t.edges.length) (usedEs t.edges t.edges.length) w) := by
 have HPP := Lib.hid hp
 obtain ⟨lv, ev, hpl, q0, q1, q2, q3, hl, he⟩ := hp
 obtain ⟨al, cl, rfl, hln, hlc, hlrow⟩ := hl
 obtain ⟨ae, ce, rfl, hen, hec, herow⟩ := he
 obtain ⟨N, hN⟩ : ∃ N, N = t.edges.length := ⟨_, rfl⟩
 obtain ⟨LN, hLN⟩ : ∃ LN, LN = t.labels.length := ⟨_, rfl⟩
 rw [← hN] at hz hen q3 ⊢
 rw [← hLN] at hln q2
 have HN := Lib.hid hN
 have HLN := Lib.hid hLN
 have HE := Lib.hid hE
 have HLR := Lib.hid hlrow
 have HER := Lib.hid herow
 have HQ0 := Lib.hid q0
 have HQ1 := Lib.hid q1
 have HQ2 := Lib.hid q2
 have HQ3 := Lib.hid q3
 obtain ⟨i1, hi1, hz10, hz11, hz12⟩ := info_parts info_strU
 obtain ⟨i2, hi2, hz20, hz21, hz22⟩ := info_parts info_edgeU
 obtain ⟨B, hB⟩ : ∃ B, B = w.heap.size := ⟨_, rfl⟩
 obtain ⟨W, hW⟩ : ∃ W, W = ((w.alloc (.cells #[.int .i64 0, .int .i64 0, .slice none 0 0, .slice none 0 0] 32)).alloc (.cells #[.string ⟨#[116, 97, 117]⟩] 9)).alloc (.cells #[] 78) := ⟨_, rfl⟩
 have hbW : Below B w W := by rw [hW, hB]; exact (((Below.refl _ _).alloc (Nat.le_refl _) _).alloc (by simp) _).alloc (by simp; omega) _
 have hX : Blk W B [.int .i64 0, .int .i64 0, .slice none 0 0, .slice none 0 0] 32 := by rw [hW, hB]; exact ((Blk.new w _ _).alloc _).alloc _
 have hOT : W.ownsRow (B + 1) 9 1 (.slice (some ⟨B + 1, 0, none⟩) 1 1) (usedTs t 0).length ((usedTs t 0).map .string) := by
  have h := World.ownsRow_lit (size := 1) (w.alloc (.cells #[.int .i64 0, .int .i64 0, .slice none 0 0, .slice none 0 0] 32)) #[.string ⟨#[116, 97, 117]⟩] 1 (base := B + 1) (e := 9) (by rw [hB]; simp) (by decide) rfl
  rw [World.size_alloc, ← hB] at h
  rw [hW]
  exact h.alloc _
 have hOE : W.ownsRow (B + 1) 78 3 (.slice (some ⟨B + 1 + 1, 0, none⟩) 0 0) (usedEs t.edges 0).length ((usedEs t.edges 0).flatMap encE) := by
  have h := World.ownsRow_lit (size := 3) ((w.alloc (.cells #[.int .i64 0, .int .i64 0, .slice none 0 0, .slice none 0 0] 32)).alloc (.cells #[.string ⟨#[116, 97, 117]⟩] 9)) #[] 0 (base := B + 1) (e := 78) (by rw [hB]; simp) (by simp [maxLen]) rfl
  rw [World.size_alloc, World.size_alloc, ← hB] at h
  rw [hW]
  exact h
 have HBW := Lib.hid hbW
 have HX := Lib.hid hX
 have HOT := Lib.hid hOT
 have HOE := Lib.hid hOE
 have HW := Lib.hid hW
 have HB := Lib.hid hB
 have hsW : B + 1 + 1 < W.heap.size := by rw [hW, hB]; simp
 clear hN hLN hE hlrow herow q0 q1 q2 q3 hbW hX hOT hOE hW hB
 go_enter Tryz.func47, Tryz.ntmps47
 go_wp2
 rw [← HW.out, ← HB.out]
 go_loopw [3, 4, 5] (fun v3 v4 v5 wr => ∃ k : Nat, k ≤ N ∧ v5 = .int .i64 k ∧ Below (B + 1) W wr ∧ wr.ownsRow (B + 1) 9 1 v3 (usedTs t k).length ((usedTs t k).map .string) ∧ wr.ownsRow (B + 1) 78 3 v4 (usedEs t.edges k).length ((usedEs t.edges k).flatMap encE)) (fun _ _ v5 _ => N - (intOf v5).toNat)
 case atStart => exact ⟨0, Nat.zero_le _, rfl, (Below.refl W.heap.size W).mono (by omega), HOT.out, HOE.out⟩
 case round =>
  clear HOT HOE
  obtain ⟨k, hk, rfl, hbl, hot, hoe⟩ := hrel
  obtain ⟨wC, rfl⟩ : ∃ wC : World, wC = wr := ⟨_, rfl⟩
  have hbw : Below w.heap.size w wC := by
   have h := HBW.out.trans (hbl.mono (by omega))
   rw [← HB.out]; exact h
  have HBL := Lib.hid hbl
  have HBWC := Lib.hid hbw
  have hszC : B + 1 + 1 < wC.heap.size := by have := hbl.size; omega
  have hsw := hbw.size
  have hlT : (usedTs t k).length = k + 1 := usedTs_len (by have := HN.out; omega)
  have hlE : (usedEs t.edges k).length = k := usedEs_len _ _
  rw [hlT] at hot
  rw [hlE] at hoe
  obtain ⟨ta, tc, rfl, -, -⟩ := owns_slice hot
  obtain ⟨ea, ec, rfl, -, -⟩ := owns_slice hoe
  have HOT := Lib.hid hot
  have HOE := Lib.hid hoe
  have q3 := keeps hbw hpl HQ3.out
  clear hot hoe hlT hlE
  by_cases hlt : k < N
  ·have hke : k < t.edges.length := by rw [← HN.out]; exact hlt
   obtain ⟨be, oe, rfl, -, hbe, e1, e2, e3⟩ := (HER.out.below hbw).edge hke
   obtain ⟨hl0, hl1⟩ := HE.out k hke
   obtain ⟨ln, hln9⟩ : ∃ ln : Nat, (ln : Int) = t.edges[k].lab := ⟨t.edges[k].lab.toNat, by omega⟩
   have hlnL : ln < t.labels.length := by omega
   obtain ⟨bl, ol, rfl, -, hblw, c1⟩ := HLR.out.one hlnL
   simp only [encS, List.getElem?_cons_zero] at c1
   obtain ⟨l, hl⟩ : ∃ l, l = t.labels[ln] := ⟨_, rfl⟩
   rw [← hl] at c1
   have hlab : labAt t t.edges[k] = l := by
    unfold labAt
    rw [← hln9, Int.toNat_natCast, List.getD_eq_getElem?_getD, List.getElem?_eq_getElem hlnL, hl]
    rfl
   rw [← hln9] at e2
   obtain ⟨xs, hxs⟩ : ∃ xs, xs = t.edges[k].src := ⟨_, rfl⟩
   obtain ⟨xd, hxd⟩ : ∃ xd, xd = t.edges[k].dst := ⟨_, rfl⟩
   rw [← hxs] at e1
   rw [← hxd] at e3
   have HTS : Hid ((usedTs t (k + 1)).length = k + 1 + 1 ∧ (usedTs t (k + 1)).map Value.string = (usedTs t k).map Value.string ++ [.string l]) := by
    refine ⟨usedTs_len (by omega), ?_⟩
    rw [usedTs_succ hke, List.map_append, hlab]
    rfl
   have HES : Hid ((usedEs t.edges (k + 1)).length = k + 1 ∧ (usedEs t.edges (k + 1)).flatMap encE = (usedEs t.edges k).flatMap encE ++ [.int .i64 xs, .int .i64 ((k : Int) + 1), .int .i64 xd]) := by
    refine ⟨usedEs_len _ _, ?_⟩
    rw [usedEs_succ hke, List.flatMap_append, hxs, hxd]
    rfl
   obtain ⟨eb, heb⟩ : ∃ eb, eb = wC.heap.size := ⟨_, rfl⟩
   obtain ⟨wE, hwE⟩ : ∃ wE, wE = wC.alloc (.cells #[.int .i64 xs, .int .i64 ln, .int .i64 xd] 78) := ⟨_, rfl⟩
   have hbE : Below wC.heap.size wC wE := by rw [hwE]; exact (Below.refl _ _).alloc (Nat.le_refl _) _
   have hT : Blk wE eb [.int .i64 xs, .int .i64 ln, .int .i64 xd] 78 := by rw [hwE, heb]; exact Blk.new wC _ _
   have hsE : wE.heap.size = eb + 1 := by rw [hwE, heb]; simp
   have HT := Lib.hid hT
   have HOT2 := Lib.hid (owns_below HOT.out hbE)
   have HOE2 := Lib.hid (owns_below HOE.out hbE)
   have HBE : Hid (Below (B + 1) W wE) := HBL.out.trans (hbE.mono (by have := HBL.out.size; omega))
   have hDD : Below wE.heap.size wE wE.drew := (Below.refl _ _).drew
   have hplE : p < wE.heap.size := by omega
   have g2 := keeps hbE (by omega) (keeps hbw hpl HQ2.out)
   have g1 := hT.cell 1 rfl
   have g3 := keeps hbE (by omega) (keeps hbw hblw c1)
   have G2 := keeps hDD hplE g2
   have G1 := keeps hDD hT.lt g1
   have G3 := keeps hDD (by omega) g3
   have hD2 : Below wE.heap.size wE ((wE.alloc (.cells #[.string l] 9)).drew) := ((Below.refl _ _).alloc (Nat.le_refl _) _).drew
   have K2 := Lib.hid (keeps hD2 hplE g2)
   have K1 := Lib.hid (keeps hD2 hT.lt g1)
   have K3 := Lib.hid (keeps hD2 (by omega) g3)
   have HD2 := Lib.hid hD2
   have HWE := Lib.hid hwE
   have HEB := Lib.hid heb
   have hebC : B + 1 + 1 < eb := by omega
   have hneT : some eb ≠ (Value.slice ta (k + 1) tc).ownBlock := fun e => by have := (HOT.out.lt eb e.symm).2; omega
   have hneE : some eb ≠ (Value.slice ea k ec).ownBlock := fun e => by have := (HOE.out.lt eb e.symm).2; omega
   have hplt : p < B := by rw [HB.out]; exact hpl
   have hblt : bl < B := by rw [HB.out]; exact hblw
   have hneP : some p ≠ (Value.slice ta (k + 1) tc).ownBlock := fun e => by have := (HOT.out.lt p e.symm).1; omega
   have hneB : some bl ≠ (Value.slice ta (k + 1) tc).ownBlock := fun e => by have := (HOT.out.lt bl e.symm).1; omega
   have HSE := Lib.hid hsE
   have hebE : eb < wE.heap.size := by omega
   have hlnN : ln < LN := by rw [HLN.out]; exact hlnL
   clear hl hlab hxs hxd heb hwE hT hDD hD2 hbl c1 hbE hln9 hl0 hl1 hsE
   go_wp2_with fail
   rw [← HWE.out]
   try rw [← HEB.out]
   go_region_held3 (fun w' => w'.cell? ⟨p, 2, none⟩ = some (.slice (some ⟨bl, ol, none⟩) LN cl) ∧ w'.cell? ⟨eb, 1, none⟩ = some (.int .i64 ln) ∧ w'.cell? ⟨bl, ol + ln, none⟩ = some (.string l))
    (first
     | (refine ⟨?_, ?_, ?_⟩ <;> assumption)
     | go_keep)
    ((refine step_append_lies _ (by rfl) _ _ _ (by rfl) (B + 1) 9 i1 _ 1 16 Tryz.underlying22 hi1 hz10 hz11 hz12 rfl (by omega) (.slice ta (k + 1) tc) (k + 1) _ (by rfl) ((HOT2.out.alloc _).drew) ⟨wE.heap.size, 0, none⟩ 1 1 [.string l] (by rfl) (by rfl) (World.news_of_block (cs := #[.string l]) (t := 9) (fr := (0, 0)) (heap_alloc_new wE (.cells #[.string l] 9))) (by simp [Value.oneCell']) (by omega) (by simp [maxLen]; omega) (by omega) (by simp; omega) (wE.heap.size + 1) (by simp) ?_; intro gg cap w1 hown1 hgrow hat hlt1; have Z2 := (hgrow.cell_far ⟨p, 2, none⟩ (by simp; omega) hneP).trans K2.out; have Z1 := (hgrow.cell_far ⟨eb, 1, none⟩ (by simp; omega) hneT).trans K1.out; have Z3 := (hgrow.cell_far ⟨bl, ol + ln, none⟩ (by simp; omega) hneB).trans K3.out))
   have hT2 : Blk ((wE.alloc (.cells #[.string l] 9)).drew) eb [.int .i64 xs, .int .i64 ln, .int .i64 xd] 78 := HT.out.below HD2.out
   have hT3 : Blk w1 eb [.int .i64 xs, .int .i64 ln, .int .i64 xd] 78 := blk_kept hT2 ((HOT2.out.alloc _).drew) hgrow (by decide)
   have HOE3 := Lib.hid ((owns_below HOE2.out HD2.out).kept hgrow (own_types (owns_below HOE2.out HD2.out) ((HOT2.out.alloc _).drew) (by decide)))
   have HB1 : Hid (Below (B + 1) W w1) := (HBE.out.trans (HD2.out.mono (by omega))).grown hgrow (by simp; omega) (fun b e => (HOT2.out.lt b e).1)
   have hs1 : wE.heap.size ≤ w1.heap.size := by have := hgrow.size; simp at this; omega
   have HOT3 : Hid (w1.ownsRow (B + 1) 9 1 (.slice (some ⟨gg, 0, none⟩) (k + 1 + 1) cap) (usedTs t (k + 1)).length ((usedTs t (k + 1)).map .string)) := by unfold Hid; rw [HTS.out.1, HTS.out.2]; exact hown1
   have HT3 := Lib.hid hT3
   have y1 := hT3.cell 1 rfl
   have y2 := hT3.frozen 1
   have y0 := hT3.cell 0 rfl
   have y3 := hT3.cell 2 rfl
   have hebw : eb < w1.heap.size := by omega
   clear hT2 hT3 hown1 hgrow hat hlt1 Z1 Z2 Z3 G1 G2 G3 g1 g2 g3
   have HOE4 : Hid ((w1.setCell ⟨eb, 1, none⟩ (.int .i64 ((k : Int) + 1))).ownsRow (B + 1) 78 3 (.slice ea k ec) k ((usedEs t.edges k).flatMap encE)) := HOE3.out.kept (grown_setCell w1 ⟨eb, 1, none⟩ _) (.inr fun e => hneE e.symm)
   have HOT4 := Lib.hid (own_sets HOT3.out HT3.out (by decide) 1 (.int .i64 ((k : Int) + 1)))
   have HB4 : Hid (Below (B + 1) W (w1.setCell ⟨eb, 1, none⟩ (.int .i64 ((k : Int) + 1)))) := HB1.out.setCell (show B + 1 ≤ eb by omega) _
   have hsB1 : B + 1 ≤ w1.heap.size := by omega
   go_wp2_with (at_builtin; refine wpList_append_own_at _ rfl _ _ 30 rfl (B + 1) 78 i2 (.agg #[.int .i64 0, .int .i64 0, .int .i64 0]) 3 24 Tryz.underlying30 hi2 hz20 hz21 hz22 rfl (by decide) _ k _ rfl (HOE4.out.alloc _) ⟨w1.heap.size, 0, none⟩ 1 1 [.int .i64 xs, .int .i64 ((k : Int) + 1), .int .i64 xd] rfl rfl ?c1 ?c2 ?c3 ?c4 ?c5 ?_)
   case c1 => have := three_new (w1.setCell ⟨eb, 1, none⟩ (.int .i64 ((k : Int) + 1))) ⟨xs, (k : Int) + 1, xd⟩ 78; simpa [encE] using this
   case c2 => first | (intro u hu; simp at hu; rcases hu with rfl | rfl | rfl <;> rfl) | exact ⟨rfl, rfl, rfl⟩ | simp [Value.oneCell']
   case c3 => first | omega | (simp [maxLen]; omega)
   case c4 => first | omega | (simp; omega)
   case c5 => first | omega | (simp; omega)
   intro v5 w5 ho5 hg5 _ _
   have hal : Below (w1.setCell ⟨eb, 1, none⟩ (.int .i64 ((k : Int) + 1))).heap.size (w1.setCell ⟨eb, 1, none⟩ (.int .i64 ((k : Int) + 1))) ((w1.setCell ⟨eb, 1, none⟩ (.int .i64 ((k : Int) + 1))).alloc (.cells #[.int .i64 xs, .int .i64 ((k : Int) + 1), .int .i64 xd] 78)) := (Below.refl _ _).alloc (Nat.le_refl _) _
   have HB5 : Hid (Below (B + 1) W w5) := (HB4.out.alloc (by simp; omega) _).grown hg5 (by simp; omega) (fun b e => (HOE4.out.lt b e).1)
   have HOT5 : Hid (w5.ownsRow (B + 1) 9 1 (.slice (some ⟨gg, 0, none⟩) (k + 1 + 1) cap) (usedTs t (k + 1)).length ((usedTs t (k + 1)).map .string)) := (owns_below HOT4.out hal).kept hg5 (own_types (owns_below HOT4.out hal) (owns_below HOE4.out hal) (by decide))
   have HOE5 : Hid (w5.ownsRow (B + 1) 78 3 v5 (usedEs t.edges (k + 1)).length ((usedEs t.edges (k + 1)).flatMap encE)) := by unfold Hid; rw [HES.out.1, HES.out.2]; exact ho5
   clear ho5 hg5 y0 y1 y2 y3 hal
   go_wp2
   go_roundw
   case rel => exact ⟨k + 1, by omega, by go_num, HB5.out, HOT5.out, HOE5.out⟩
   case measure => simp [intOf]; omega
  ·obtain rfl : k = N := by omega
   have hDD : Below wC.heap.size wC wC.drew := (Below.refl _ _).drew
   have HMK := Lib.hid (l11Make_any (B + 1) (B + 1) t.states t.initial (usedTs t k) (usedEs t.edges k) (.slice ta (k + 1) tc) (.slice ea k ec) wC.drew
    (SliceK.of_owns (enc := encS) (e := 9) encS_len (usedTs_len (by have := HN.out; omega)).symm (by rw [flat_encS]; exact owns_below HOT.out hDD))
    (SliceK.of_owns (enc := encE) (e := 78) encE_len (usedEs_len _ _).symm (owns_below HOE.out hDD))
    (by rw [usedTs_len (by have := HN.out; omega)]; omega) (by rw [usedEs_len]; omega) (fun e he => by
     rw [usedTs_len (by have := HN.out; omega)]
     obtain ⟨j, hj, rfl⟩ := List.mem_map.1 he
     have := List.mem_range.1 hj
     exact ⟨by show (0 : Int) ≤ (j : Int) + 1; omega, by show (j : Int) + 1 < _; omega⟩))
   have q0 := keeps hbw hpl HQ0.out
   have q1 := keeps hbw hpl HQ1.out
   have hplC : p < wC.heap.size := by omega
   have Q0 := keeps hDD hplC q0
   have Q1 := keeps hDD hplC q1
   have hBC : B < wC.heap.size := by omega
   have HXC : Hid (Blk wC B [.int .i64 0, .int .i64 0, .slice none 0 0, .slice none 0 0] 32) := HX.out.belowB HBL.out (by omega)
   have hpB : p ≠ B := by have := HB.out; omega
   have HDD := Lib.hid hDD
   clear hDD hbl hbw
   go_wp2
   go_region_held3 (fun w' => w'.cell? ⟨p, 0, none⟩ = some (.int .i64 t.states) ∧ w'.cell? ⟨p, 1, none⟩ = some (.int .i64 t.initial))
    (first
     | (refine ⟨?_, ?_⟩ <;> with_reducible assumption)
     | (refine ⟨?_, ?_⟩ <;> (rw [World.cell?_setCell_far _ _ _ _ (by exact fun e => hpB e.symm), World.cell?_setCell_far _ _ _ _ (by exact fun e => hpB e.symm), World.cell?_setCell_far _ _ _ _ (by exact fun e => hpB e.symm), World.cell?_setCell_far _ _ _ _ (by exact fun e => hpB e.symm)]; with_reducible assumption))
     | go_keep)
    (first
     | (go_at_call 88; refine Calls.mono HMK.out ?_; rintro e w9 ⟨hb9, lv9, ev9, R, rfl, hol9, hoe9, hmk⟩; obtain ⟨la9, lc9, rfl, -, -⟩ := owns_slice hol9; obtain ⟨ea9, ec9, rfl, -, -⟩ := owns_slice hoe9; have hW9 : Below wC.heap.size wC w9 := HDD.out.trans (hb9.mono (by simp)); have Z0 := keeps hW9 hplC q0; have Z1 := keeps hW9 hplC q1; have HX9 := Lib.hid (HXC.out.below hW9); have r0 := HX9.out.cell 0 rfl; have r1 := HX9.out.cell 1 rfl; have r2 := HX9.out.cell 2 rfl; have r3 := HX9.out.cell 3 rfl; have s0 := HX9.out.frozen 0; have s1 := HX9.out.frozen 1; have s2 := HX9.out.frozen 2; have s3 := HX9.out.frozen 3)
     | fail)
   have HB9 := Lib.hid (HBWC.out.trans (hW9.mono hsw))
   have HOL9 := Lib.hid (own_lower hol9 (show w.heap.size ≤ wC.drew.heap.size by simp; omega))
   have HOE9 := Lib.hid (own_lower hoe9 (show w.heap.size ≤ wC.drew.heap.size by simp; omega))
   have HMK9 := Lib.hid hmk
   clear hb9 hol9 hoe9 hmk hW9 Z0 Z1 r0 r1 r2 r3 s0 s1 s2 s3
   go_wp2
   refine bodyPost_ret (us_results rfl ((((HX9.out.set 0 _).set 1 _).set 2 _).set 3 _)) rfl ?_
   refine ⟨(((HB9.out.setCell (by rw [← HB.out]; exact Nat.le_refl _) _).setCell (by rw [← HB.out]; exact Nat.le_refl _) _).setCell (by rw [← HB.out]; exact Nat.le_refl _) _).setCell (by rw [← HB.out]; exact Nat.le_refl _) _, _, _, R, rfl, own4 HX9.out HOL9.out (by decide), own4 HX9.out HOE9.out (by decide), HMK9.out⟩

end Go.Proofs.YtjghfgaincnegaaGreatDoor

namespace Go.Proofs.YtjghfgaincnegaaGreatDoor
open Go Go.RowKit

theorem sus_text {L : List ByteArray} {l : ByteArray} (h : l ∈ L) : textAt L l = (idxL L l : Nat) := by
 obtain ⟨hk, -, -⟩ := idxL_get h
 unfold textAt
 unfold idxL at hk ⊢
 rw [if_pos hk]
theorem rise_same {a b : List Edge} (ha : RiseE a) (hb : RiseE b) (h : ∀ x, x ∈ a ↔ x ∈ b) : a = b :=
 rise_unique (fun x y => edgeLess x y = true) (fun a h => by rw [edgeLess_irrefl] at h; cases h) (fun a b h k => by have := edgeLess_trans a b a h k; rw [edgeLess_irrefl] at this; cases this) a b ha hb h

end Go.Proofs.YtjghfgaincnegaaGreatDoor
