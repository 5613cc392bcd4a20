/-
  The reference's l11Make: a system out of texts and edges whose labels are places of the texts.
  The library's slices.SortFunc at any list of edges of the call's own.
  The traces of a deterministic system in the order found. Plain definitions; no program in sight.
  The deterministic system of a valid one is valid and deterministic. Plain.
  The first word that leads where something holds, and two ways to search it: states looked at when they are taken from a queue, or when they are met. Plain; no program in sight.
  Two deterministic systems that take the same labels: the first trace on which they differ. Plain definitions; no program in sight.
  The rows and the edges of the deterministic system found: each edge leads from a row to the set behind it. Plain.
  A search that meets states and looks at them later, in the order met. Plain; no program in sight.
-/
import Derived.Test.YtaabkeejbhdenaaGreatDoorC7
import Derived.Test.YtaabkeejbhdenaaGreatDoorC10
import Derived.Test.YtaabkeejbhdenaaGreatDoorC3
import Derived.Test.YtaabkeejbhdenaaGreatDoorC6
import Derived.Test.YtaabkeejbhdenaaGreatDoorC9
import Derived.Sort.OwnSorted
import Derived.Test.YtaabkeejbhdenaaGreatDoorC1
namespace Go.Proofs.YtaabkeejbhdenaaGreatDoor
open Go Go.RowKit

/-- An edge whose label is a place of the texts, as an edge of the system with the labels L. -/
def makeE (L texts : List ByteArray) (e : Edge) : Edge := ⟨e.src, textAt L (texts.getD e.lab.toNat ByteArray.empty), e.dst⟩
/-- The edges laid so far. -/
def MkEdges (L texts : List ByteArray) (es R : List Edge) : Prop := RiseE R ∧ R.length ≤ es.length ∧ ∀ x, x ∈ R ↔ x ∈ es.map (makeE L texts)
theorem MkEdges.nil (L texts : List ByteArray) : MkEdges L texts [] [] := ⟨List.Pairwise.nil, Nat.le_refl _, fun _ => Iff.rfl⟩
theorem MkEdges.put {L texts : List ByteArray} {es R R2 : List Edge} {k : Nat} (h : MkEdges L texts (es.take k) R) (hk : k < es.length) (hp : PutIs R (makeE L texts es[k]) R2) : MkEdges L texts (es.take (k + 1)) R2 := by
 obtain ⟨h1, h2, h3⟩ := h
 obtain ⟨p1, p2, p3⟩ := hp
 refine ⟨p1, ?_, fun x => ?_⟩
 ·rw [List.length_take] at h2 ⊢; omega
 ·rw [p3, h3, List.take_succ_eq_append_getElem hk, List.map_append, List.mem_append, List.map_singleton, List.mem_singleton]
theorem lmake_results {w : World} {b : Nat} {v0 v1 v2 v3 : Value} {tmps : Array Value} (hc : tmps.getD 8 undef = .pointer (some ⟨b, 0, none⟩)) (hb : Blk w b [v0, v1, v2, v3] 29) :
  (results Tryz.f92 tmps).run Tryz.prog w = .ok (.agg #[v0, v1, v2, v3]) w := by
 have h0 := hb.cell 0 rfl
 have h1 := hb.cell 1 rfl
 have h2 := hb.cell 2 rfl
 have h3 := hb.cell 3 rfl
 simp only [Array.getD_eq_getD_getElem?] at hc
 simp [results, Tryz.results92, go_sem, hc, h0, h1, h2, h3, Result.andThen]
theorem blk_kept {w w' : World} {b : Nat} {cs : List Value} {t : TypeId} (h : Blk w b cs t) {base e size n : Nat} {v : Value} {xs : List Value} (ho : w.ownsRow base e size v n xs) (hg : w.grownBy w' v.ownBlock) (he : e ≠ t) : Blk w' b cs t :=
 (hg.block b h.lt (blk_own_neL h ho he)).trans h
/-- What l11Make returns. -/
def RetMk (n i : Int) (texts : List ByteArray) (es : List Edge) (w : World) (e : Ending) (w' : World) : Prop :=
 Below w.heap.size w w' ∧ ∃ (lv ev : Value) (R : List Edge), e = .returned (.agg #[.int .i64 n, .int .i64 i, lv, ev]) ∧ OwnStrs w.heap.size w' lv (labSet (tauT :: texts)) ∧ w'.ownsRow w.heap.size 73 3 ev R.length (R.flatMap encE) ∧ MkEdges (labSet (tauT :: texts)) texts es R

set_option maxRecDepth 100000 in
set_option maxHeartbeats 4000000 in
theorem l11Make_any (lo lo2 : Nat) (n i : Int) (texts : List ByteArray) (es : List Edge) (tv ev : Value) (w : World) (ht : SliceK 1 encS lo w tv texts) (he : SliceK 3 encE lo2 w ev es) (htn : texts.length ≤ 900) (hen : es.length ≤ 900) (hlab : ∀ e ∈ es, 0 ≤ e.lab ∧ e.lab < texts.length) :
  Calls Tryz.prog 92 #[.int .i64 n, .int .i64 i, tv, ev] w (RetMk n i texts es w) := by
 obtain ⟨rb, hrb⟩ : ∃ rb, rb = w.heap.size := ⟨_, rfl⟩
 obtain ⟨wA, hwA⟩ : ∃ wA, wA = w.alloc (.cells #[.int .i64 0, .int .i64 0, .slice none 0 0, .slice none 0 0] 29) := ⟨_, rfl⟩
 have hbA : Below w.heap.size w wA := by rw [hwA]; exact (Below.refl _ _).alloc (Nat.le_refl _) _
 have hRB : Blk wA rb [.int .i64 0, .int .i64 0, .slice none 0 0, .slice none 0 0] 29 := by rw [hwA, hrb]; exact Blk.new w _ _
 have HJ := Lib.hid (l11Join_any lo tv texts wA (ht.below hbA) (by omega))
 have HT := Lib.hid (ht.below hbA)
 have HE := Lib.hid (he.below hbA)
 have HLAB := Lib.hid hlab
 obtain ⟨ta, tc, rfl, -, -, htrow⟩ := ht.below hbA
 obtain ⟨ea, ec, rfl, -, -, herow⟩ := he.below hbA
 have HTR := Lib.hid htrow
 have HER := Lib.hid herow
 obtain ⟨TN, hTN⟩ : ∃ TN, TN = texts.length := ⟨_, rfl⟩
 obtain ⟨EN, hEN⟩ : ∃ EN, EN = es.length := ⟨_, rfl⟩
 rw [← hTN] at htn HJ HT ⊢
 rw [← hEN] at hen HE ⊢
 have HTN := Lib.hid hTN
 have HEN := Lib.hid hEN
 have HRB := Lib.hid hRB
 have HBA := Lib.hid hbA
 have HWA := Lib.hid hwA
 have HRBB := Lib.hid hrb
 clear ht he hbA hRB hwA hrb htrow herow hTN hEN hlab
 go_enter Tryz.func92, Tryz.ntmps92
 go_wp2_with fail
 rw [← HWA.out]
 try rw [← HRBB.out]
 refine Calls.mono HJ.out ?_
 rintro e w1 ⟨lv, rfl, hb1, ho1⟩
 obtain ⟨L, hL⟩ : ∃ L, L = labSet (tauT :: texts) := ⟨_, rfl⟩
 rw [← hL] at ho1
 obtain ⟨la, lc, rfl, -, -⟩ := owns_slice ho1
 obtain ⟨LN, hLN⟩ : ∃ LN, LN = L.length := ⟨_, rfl⟩
 rw [← hLN] at ho1 ⊢
 obtain ⟨ob, hob⟩ : ∃ ob, ob = w1.heap.size + 1 := ⟨_, rfl⟩
 obtain ⟨W2, hW2⟩ : ∃ W2, W2 = (w1.alloc (.cells #[] 73)).alloc (.cells #[.int .i64 n, .int .i64 i, .slice la LN lc, .slice (some ⟨w1.heap.size, 0, none⟩) 0 0] 29) := ⟨_, rfl⟩
 have hb2 : Below w1.heap.size w1 W2 := by rw [hW2]; exact ((Below.refl _ _).alloc (Nat.le_refl _) _).alloc (by simp) _
 have hOB : Blk W2 ob [.int .i64 n, .int .i64 i, .slice la LN lc, .slice (some ⟨w1.heap.size, 0, none⟩) 0 0] 29 := by
  have h := Blk.new (w1.alloc (.cells #[] 73)) [.int .i64 n, .int .i64 i, .slice la LN lc, .slice (some ⟨w1.heap.size, 0, none⟩) 0 0] 29
  rw [World.size_alloc, ← hob] at h
  rw [hW2]
  exact h
 have hE0 : W2.ownsRow w1.heap.size 73 3 (.slice (some ⟨w1.heap.size, 0, none⟩) 0 0) 0 [] := by
  rw [hW2]
  exact (World.ownsRow_lit (base := w1.heap.size) (e := 73) (size := 3) w1 #[] 0 (Nat.le_refl _) (by decide) rfl).alloc _
 have HOB := Lib.hid hOB
 have HE0 := Lib.hid hE0
 have HB2 : Hid (Below wA.heap.size wA W2) := hb1.trans (hb2.mono hb1.size)
 have HOL : Hid (OwnStrs wA.heap.size W2 (.slice la LN lc) L) := by
  unfold Hid OwnStrs
  rw [← hLN]
  exact owns_below ho1 hb2
 have HW2 := Lib.hid hW2
 have HOBB := Lib.hid hob
 have hs1 : wA.heap.size ≤ w1.heap.size := hb1.size
 have HL := Lib.hid hL
 have HLN := Lib.hid hLN
 obtain ⟨B, hB⟩ : ∃ B, B = w1.heap.size := ⟨_, rfl⟩
 rw [← hB] at HOB HE0 HOBB hs1 hob
 have HOBN : Hid (ob = B + 1) := hob
 have HB := Lib.hid hB
 have HRB2 : Hid (Blk W2 rb [.int .i64 0, .int .i64 0, .slice none 0 0, .slice none 0 0] 29) := HRB.out.below HB2.out
 have hrbA : rb < wA.heap.size := HRB.out.lt
 clear hb1 ho1 hb2 hOB hE0 hW2 hL hLN hob HJ hB
 go_wp2
 rw [← HB.out]
 try rw [← HOBB.out]
 try rw [← HB.out] at HW2
 try rw [← HW2.out]
 go_loopw [10] (fun v10 wr => ∃ (k : Nat) (R : List Edge) (ra : Option Addr) (rc : Nat), k ≤ EN ∧ v10 = .int .i64 k ∧ Below wA.heap.size wA wr ∧ Blk wr ob [.int .i64 n, .int .i64 i, .slice la LN lc, .slice ra R.length rc] 29 ∧ Blk wr rb [.int .i64 0, .int .i64 0, .slice none 0 0, .slice none 0 0] 29 ∧ OwnStrs wA.heap.size wr (.slice la LN lc) L ∧ wr.ownsRow B 73 3 (.slice ra R.length rc) R.length (R.flatMap encE) ∧ MkEdges L texts (es.take k) R ∧ W2.heap.size ≤ wr.heap.size) (fun v10 _ => EN - (intOf v10).toNat)
 case atStart => exact ⟨0, [], _, _, Nat.zero_le _, rfl, HB2.out, HOB.out, HRB2.out, HOL.out, HE0.out, MkEdges.nil _ _, Nat.le_refl _⟩
 case round =>
  obtain ⟨k, R, ra, rc, hk, rfl, hbl, hob9, hrb9, hol9, hre, hmk, hsW⟩ := hrel
  obtain ⟨wC, rfl⟩ : ∃ wC : World, wC = wr := ⟨_, rfl⟩
  have HBL := Lib.hid hbl
  have HO9 := Lib.hid hob9
  have HR9 := Lib.hid hrb9
  have HL9 := Lib.hid hol9
  have HE9 := Lib.hid hre
  have HMK := Lib.hid hmk
  have hszC := hbl.size
  have hRl : R.length ≤ 900 := by have := hmk.2.1; rw [List.length_take] at this; have := HEN.out; omega
  obtain ⟨RN, hRN⟩ : ∃ RN, RN = R.length := ⟨_, rfl⟩
  rw [← hRN] at HO9 HE9 hRl
  have HRN := Lib.hid hRN
  by_cases hlt : k < EN
  ·have hlt2 : k < es.length := by rw [← HEN.out]; exact hlt
   obtain ⟨be, oe, rfl, -, hbe, e1, e2, e3⟩ := (HER.out.below hbl).edge hlt2
   obtain ⟨x, hx⟩ : ∃ x, x = es[k] := ⟨_, rfl⟩
   have hxl := HLAB.out x (by rw [hx]; exact List.getElem_mem _)
   rw [← hx] at e1 e2 e3
   obtain ⟨m, hm⟩ : ∃ m : Nat, (m : Int) = x.lab := ⟨x.lab.toNat, by omega⟩
   have hmT : m < texts.length := by omega
   have hmT2 : m < TN := by have := HTN.out; omega
   obtain ⟨bt, ot, rfl, -, hbt, ct⟩ := (HTR.out.below hbl).one hmT
   simp only [encS, List.getElem?_cons_zero] at ct
   have hmk2 : makeE L texts x = ⟨x.src, textAt L texts[m], x.dst⟩ := by
    unfold makeE
    rw [← hm, Int.toNat_natCast, List.getD_eq_getElem?_getD, List.getElem?_eq_getElem hmT]
    rfl
   obtain ⟨l, hl⟩ : ∃ l, l = texts[m] := ⟨_, rfl⟩
   rw [← hl] at ct hmk2
   obtain ⟨tx, htx⟩ : ∃ tx, tx = textAt L l := ⟨_, rfl⟩
   rw [← htx] at hmk2
   obtain ⟨xs, hxs⟩ : ∃ xs, xs = x.src := ⟨_, rfl⟩
   obtain ⟨xd, hxd⟩ : ∃ xd, xd = x.dst := ⟨_, rfl⟩
   rw [← hxs] at e1 hmk2
   rw [← hxd] at e3 hmk2
   rw [← hm] at e2
   -- the edge's box
   obtain ⟨wD, hwD⟩ : ∃ wD, wD = wC.alloc (.cells #[.int .i64 xs, .int .i64 m, .int .i64 xd] 73) := ⟨_, rfl⟩
   obtain ⟨xb, hxb⟩ : ∃ xb, xb = wC.heap.size := ⟨_, rfl⟩
   have hbD : Below wC.heap.size wC wD := by rw [hwD]; exact (Below.refl _ _).alloc (Nat.le_refl _) _
   have hXD : Blk wD xb [.int .i64 xs, .int .i64 m, .int .i64 xd] 73 := by rw [hwD, hxb]; exact Blk.new wC _ _
   have hODD := hob9.below hbD
   rw [← hRN] at hODD
   have HXD := Lib.hid hXD
   have HOD := Lib.hid hODD
   have HFI : Hid (∀ g : Later wD, Calls Tryz.prog 121 #[.slice la LN lc, .string l] g.w fun e w' => e = .returned (.int .i64 tx) ∧ Below g.w.heap.size g.w w') := fun g => by
    rw [htx]
    have h := HL9.out.below (hbD.trans (g.h.mono hbD.size))
    unfold OwnStrs at h
    rw [← HLN.out] at h
    exact l11Find_any wA.heap.size _ L l g.w (SliceK.of_owns (e := 9) encS_len HLN.out (by rw [flat_encS]; exact h))
   have lo2' := later_cell hODD.lt (hODD.cell 2 rfl)
   have lx1 := later_cell hXD.lt (hXD.cell 1 rfl)
   have hbtD : bt < wD.heap.size := Nat.lt_of_lt_of_le hbt hbD.size
   have lct := later_cell hbtD (keeps hbD hbt ct)
   have HBD := Lib.hid hbD
   have HWD := Lib.hid hwD
   have HXB := Lib.hid hxb
   have HMK2 := Lib.hid hmk2
   have hmi : (m : Int) < (TN : Int) := by omega
   have HX := Lib.hid hx
   clear hbl hob9 hrb9 hol9 hre hmk hRN hx hxl hm hmT hl htx hxs hxd hbD hXD hODD hwD hxb hmk2 ct hbtD
   go_wp2
   rw [← HWD.out]
   try rw [← HXB.out]
   refine wp_region_later_tail 9 (by kernel_rfl) (by kernel_rfl) ?_
   simp only [List.take_succ_cons, List.take_zero, List.drop_succ_cons, List.drop_zero]
   repeat (go_big_quiet_step ((go_at_call 121; exact later_call (HFI.out _))))
   refine wpQuiet_nil ?_
   intro _ hw9
   obtain ⟨nl, hw8⟩ := hw9
   subst hw8
   obtain ⟨wE, hwE⟩ : ∃ wE, wE = nl.w := ⟨_, rfl⟩
   have hbE : Below wD.heap.size wD wE := by rw [hwE]; exact nl.h
   have hXE := HXD.out.below hbE
   have hxz := hXE.frozen 1
   have hxc := hXE.cell 1 rfl
   have hxlE := hXE.lt
   have HXE : Hid (Blk (wE.setCell ⟨xb, 1, none⟩ (.int .i64 tx)) xb [.int .i64 xs, .int .i64 tx, .int .i64 xd] 73) := hXE.set 1 _
   have hbCE : Below wC.heap.size wC wE := HBD.out.trans (hbE.mono HBD.out.size)
   have HBF : Hid (Below wC.heap.size wC (wE.setCell ⟨xb, 1, none⟩ (.int .i64 tx))) := hbCE.setCell (by rw [HXB.out]; exact Nat.le_refl _) _
   rw [← hwE]
   clear lo2' lx1 lct hwE hbE hXE hbCE
   clear nl
   obtain ⟨wF, hwF⟩ : ∃ wF, wF = wE.setCell ⟨xb, 1, none⟩ (.int .i64 tx) := ⟨_, rfl⟩
   rw [← hwF] at HXE HBF
   have HWF := Lib.hid hwF
   have hbF := HBF.out
   have o3 := (HO9.out.below hbF).cell 3 rfl
   have f1 := HXE.out.cell 0 rfl
   have f2 := HXE.out.cell 1 rfl
   have f3 := HXE.out.cell 2 rfl
   have hobl := (HO9.out.below hbF).lt
   have hxbl := HXE.out.lt
   have HEF := Lib.hid (owns_below HE9.out hbF)
   have HPU := Lib.hid (l11Put_any B (.slice ra RN rc) R ⟨xs, tx, xd⟩ wF (by rw [← HRN.out]; exact HEF.out) HMK.out.1 (by have := hbF.size; have := hsW; have := HOB.out.lt; have := HOBN.out; omega) (by rw [← HRN.out]; omega))
   rw [hwF] at o3 f1 f2 f3 hobl hxbl
   clear hwF hbF
   go_wp2_with fail
   rw [← HWF.out]
   refine Calls.mono HPU.out ?_
   rintro e9 w8 ⟨v8, R8, rfl, hg8, ho8, hp8⟩
   obtain ⟨ra8, rc8, rfl, -, -⟩ := owns_slice ho8
   have hX8 : Blk w8 ob _ 29 := blk_kept (HO9.out.below HBF.out) HEF.out hg8 (by decide)
   have hr8 : Blk w8 rb _ 29 := blk_kept (HR9.out.below HBF.out) HEF.out hg8 (by decide)
   have hl8 : OwnStrs wA.heap.size w8 (.slice la LN lc) L := World.ownsRow.kept (HL9.out.below HBF.out) hg8 (own_types (HL9.out.below HBF.out) HEF.out (by decide))
   have hbAF : Below wA.heap.size wA wF := HBL.out.trans (HBF.out.mono hszC)
   have hsAF := hbAF.size
   have hbA8 : Below wA.heap.size wA w8 := hbAF.grown hg8 hsAF (fun b e => by have := (HEF.out.lt b e).1; omega)
   have hs8 : W2.heap.size ≤ w8.heap.size := by have := HBF.out.size; have := hg8.size; omega
   have HX8 := Lib.hid hX8
   have HR8 := Lib.hid hr8
   have HL8 := Lib.hid hl8
   have HE8 := Lib.hid ho8
   have HB8 := Lib.hid hbA8
   have HMK8 : Hid (MkEdges L texts (es.take (k + 1)) R8) := HMK.out.put hlt2 (by rw [← HX.out, HMK2.out]; exact hp8)
   have c3 := hX8.cell 3 rfl
   have z3 := hX8.frozen 3
   have hol8 := hX8.lt
   have hAB : wA.heap.size ≤ ob := by have := HOBN.out; omega
   have hnr : rb ≠ ob := by have := HOBN.out; omega
   clear hg8 ho8 hp8 hX8 hr8 hl8 hbAF hbA8 o3 f1 f2 f3 hobl hxbl HPU hxz hxc hxlE
   go_wp2
   go_roundw
   case rel => exact ⟨k + 1, R8, ra8, rc8, by omega, by go_num, HB8.out.setCell hAB _, HX8.out.set 3 _, HR8.out.setOther _ _ hnr, own_sets HL8.out HX8.out (by decide) 3 _, own_sets HE8.out HX8.out (by decide) 3 _, HMK8.out, by simpa using hs8⟩
   case measure => simp [intOf]; omega
  ·have hkE : k = EN := by omega
   have HMF : Hid (MkEdges L texts es R) := by
    have h := HMK.out
    rw [hkE, HEN.out, List.take_length] at h
    exact h
   have o0 := HO9.out.cell 0 rfl
   have o1 := HO9.out.cell 1 rfl
   have o2 := HO9.out.cell 2 rfl
   have o3 := HO9.out.cell 3 rfl
   have r0 := HR9.out.cell 0 rfl
   have r1 := HR9.out.cell 1 rfl
   have r2 := HR9.out.cell 2 rfl
   have r3 := HR9.out.cell 3 rfl
   have s0 := HR9.out.frozen 0
   have s1 := HR9.out.frozen 1
   have s2 := HR9.out.frozen 2
   have s3 := HR9.out.frozen 3
   have hobl := HO9.out.lt
   have hrbl := HR9.out.lt
   clear hbl hob9 hrb9 hol9 hre hmk hkE hRN
   go_wp2
   have hR1 := HR9.out.set 0 (.int .i64 n)
   have hR2 := hR1.set 1 (.int .i64 i)
   have hR3 := hR2.set 2 (.slice la LN lc)
   have hle : w.heap.size ≤ rb := by rw [HRBB.out]; exact Nat.le_refl _
   refine bodyPost_ret (lmake_results rfl (hR3.set 3 (.slice ra RN rc))) rfl ?_
   refine ⟨((((HBA.out.trans (HBL.out.mono HBA.out.size)).setCell hle _).setCell hle _).setCell hle _).setCell hle _, _, _, R, rfl, ?_, ?_, by rw [← HL.out]; exact HMF.out⟩
   ·rw [← HL.out]
    have h1 := HL9.out
    exact OwnStrs.lower (own_sets (own_sets (own_sets (own_sets h1 HR9.out (by decide) 0 _) hR1 (by decide) 1 _) hR2 (by decide) 2 _) hR3 (by decide) 3 _) HBA.out.size
   ·rw [← HRN.out]
    have h1 := HE9.out
    exact own_lower (own_sets (own_sets (own_sets (own_sets h1 HR9.out (by decide) 0 _) hR1 (by decide) 1 _) hR2 (by decide) 2 _) hR3 (by decide) 3 _) (by have := HBA.out.size; omega)

end Go.Proofs.YtaabkeejbhdenaaGreatDoor

namespace Go.Proofs.YtaabkeejbhdenaaGreatDoor
open Go Go.RowKit Go.Sort

def sortEs (es : List Edge) : List Edge := es.mergeSort fun x y => !edgeLess y x
theorem sortEs_mem {es : List Edge} (x : Edge) : x ∈ sortEs es ↔ x ∈ es := by unfold sortEs; exact List.mem_mergeSort
theorem sortEs_len (es : List Edge) : (sortEs es).length = es.length := by unfold sortEs; exact List.length_mergeSort _
theorem flatK_edges (E : List Edge) : (flatK encE 3 E.toArray).toList = E.flatMap encE := by
 apply List.ext_getElem?
 intro t
 by_cases h : t < E.length * 3
 ·have hs : t < (flatK encE 3 E.toArray).size := by simpa using h
  have hq : t / 3 < E.length := by omega
  obtain ⟨a, b, c⟩ := flat_get E (t / 3) hq
  have h1 := get_flatK encE 3 E.toArray t (by simpa using h)
  rw [getElem!_pos _ t hs] at h1
  rw [Array.getElem?_toList, Array.getElem?_eq_getElem hs, h1]
  have hq2 : E.toArray[t / 3]! = E[t / 3] := by rw [getElem!_pos E.toArray (t / 3) (by simpa using hq)]; simp
  rw [hq2]
  have h3 : t % 3 = 0 ∨ t % 3 = 1 ∨ t % 3 = 2 := by omega
  rcases h3 with h3 | h3 | h3
  ·rw [h3]
   rw [show t / 3 * 3 = t from by omega] at a
   rw [a]
   rfl
  ·rw [h3]
   rw [show t / 3 * 3 + 1 = t from by omega] at b
   rw [b]
   rfl
  ·rw [h3]
   rw [show t / 3 * 3 + 2 = t from by omega] at c
   rw [c]
   rfl
 ·rw [List.getElem?_eq_none (by rw [Array.length_toList]; simp; omega), List.getElem?_eq_none (by rw [flat_len]; omega)]
theorem heap_sortedG {w : World} {g n : Nat} {os : Array Obj} {cur : Array Value} {e : TypeId} {fr : Nat × Nat} (d : Array Value) (hb : w.heap[g]? = some (.cells cur e fr)) :
  (grow (putRow id (Sort.ahead w n) g 0 d) os).heap[g]? = some (.cells (putCells id 0 d cur) e fr) := by
 have hg : g < w.heap.size := (Array.getElem?_eq_some_iff.1 hb).1
 rw [heap_grow_old _ _ (by simpa using hg)]
 simp [putRow, mapBlock, Sort.ahead, Array.getElem?_modify, hb, onCells]
theorem grownBy_sortedG {w : World} {g n : Nat} {os : Array Obj} (d : Array Value) : w.grownBy (grow (putRow id (Sort.ahead w n) g 0 d) os) (some g) := by
 refine ⟨rfl, rfl, rfl, by simp, fun k hk hne => ?_⟩
 rw [heap_grow_old _ _ (by simpa using hk)]
 have : g ≠ k := fun e => hne (by rw [e])
 simp [putRow, mapBlock, Sort.ahead, Array.getElem?_modify, this]
theorem take_putCellsG (cur : Array Value) (d : Array Value) (h : d.size ≤ cur.size) : (putCells id 0 d cur).toList.take d.size = d.toList := by
 apply List.ext_getElem?
 intro j
 by_cases hj : j < d.size
 ·rw [List.getElem?_take_of_lt hj, Array.getElem?_toList, Array.getElem?_toList]
  simp [putCells, hj, show j < cur.size by omega]
 ·rw [List.getElem?_take_eq_none (by omega), List.getElem?_eq_none (by simp; omega)]

theorem SortEs_own (base : Nat) (v : Value) (es : List Edge) (w : World) (ho : w.ownsRow base 73 3 v es.length (es.flatMap encE)) (hz : es.length ≤ 1048576) :
  Calls Tryz.prog 109 #[v, .func (.func 56) #[] #[]] w fun e w' => e = .returned (.tuple #[]) ∧ w'.ownsRow base 73 3 v es.length ((sortEs es).flatMap encE) ∧ w.grownBy w' v.ownBlock := by
 rcases ho.2 with ⟨rfl, h0⟩ | ⟨g, cap, cur, rfl, hb, hg, hn, hm, hs, ht⟩
 ·have hx : es = [] := List.eq_nil_of_length_eq_zero h0
  subst hx
  refine Calls.mono (R := fun e w' => e = .returned (.tuple #[]) ∧ w' = w) (Tryz.slices_SortFunc_edges_none (α := Edge) none 0 _ w) ?_
  rintro e w' ⟨rfl, rfl⟩
  exact ⟨rfl, by simpa [sortEs] using ho, grown_refl _ _⟩
 ·have hH := holdsE_of_own ho rfl
  have hz2 : es.toArray.size = es.length := by simp
  have hc := Tryz.slices_SortFunc_edges (α := Edge) 3 isAggE sizeOfE encE encE_len (fun x v hv => by simp [encE] at hv; rcases hv with rfl | rfl | rfl <;> rfl) cmpE swoE 56 #[] g 0 cap es.toArray w enters_cmpE
   (fun m os dk _ x y => (compareEdges_more x y _).mono fun e w' ⟨h1, h2, h3⟩ => ⟨h1, grow_of_below h2 h3⟩) hH (Array.getElem?_eq_some_iff.1 hg).1 (by rw [hz2]; omega) (by rw [ltOf_cmpE]; exact edgeLess_tri)
  rw [hz2, ltOf_cmpE] at hc
  refine hc.mono ?_
  rintro e w' ⟨rfl, n, os, rfl⟩
  have hF := flatK_edges (sortEs es)
  have hFs : (flatK encE 3 (sortEs es).toArray).size = es.length * 3 := by rw [size_flatK]; simp [sortEs_len]
  refine ⟨rfl, ⟨by rw [flat_len, sortEs_len], .inr ⟨g, cap, _, rfl, hb, heap_sortedG (flatK encE 3 (sortEs es).toArray) hg, hn, hm, by simp [putCells, hs], ?_⟩⟩, grownBy_sortedG _⟩
  rw [← hFs, take_putCellsG _ _ (by rw [hFs, hs]; omega), hF]

end Go.Proofs.YtaabkeejbhdenaaGreatDoor

namespace Go.Proofs.YtaabkeejbhdenaaGreatDoor
open Go Go.RowKit

/-- The deterministic system of the net found. -/
def dSys (t : Lts) (st : DNet) : Lts := ⟨st.rows.length, 0, t.labels, st.edges⟩

end Go.Proofs.YtaabkeejbhdenaaGreatDoor

namespace Go.Proofs.YtaabkeejbhdenaaGreatDoor
open Go Go.RowKit

theorem dok_good {t : Lts} {st : DNet} (hv : Valid t) (h : DOk t st) : DGood t st := by
 obtain ⟨⟨n, -, rfl, -⟩, -⟩ := h
 exact DGood.at hv n
theorem dok_up {t : Lts} {st : DNet} (h : DOk t st) : Up st.edges := by
 obtain ⟨⟨n, -, rfl, -⟩, -⟩ := h
 exact up_at t n
theorem dSys_edge {t : Lts} {st : DNet} (hG : DGood t st) : ∀ i (h : i < (dSys t st).edges.length), EdgeOk (dSys t st) (dSys t st).edges[i] := by
 intro i hi
 have := hG.edges _ (List.getElem_mem hi)
 exact ⟨this.1.1, this.1.2, this.2.2.1, this.2.2.2, Int.le_trans (by decide) this.2.1.1, this.2.1.2⟩
theorem dSys_valid {t : Lts} {st : DNet} (hv : Valid t) (h : DOk t st) : Valid (dSys t st) := by
 have hG := dok_good hv h
 have hu := dok_up h
 have h0 := hG.some
 have hs := h.2
 refine ⟨by show (1 : Int) ≤ (st.rows.length : Int); omega, by show (st.rows.length : Int) ≤ 40; have := hs.1; omega, Int.le_refl 0, by show (0 : Int) < (st.rows.length : Int); omega, hv.labels, hs.2, dSys_edge hG, fun i hi => ?_⟩
 have h1 := List.pairwise_iff_getElem.1 (rise_up hu) i (i + 1) (Nat.lt_of_succ_lt hi) hi (Nat.lt_succ_self i)
 exact h1
theorem dSys_single {t : Lts} {st : DNet} (hv : Valid t) (h : DOk t st) : Single (dSys t st) := by
 have hG := dok_good hv h
 have hu := dok_up h
 have h1 : ∀ i (hi : i < st.edges.length), st.edges[i].lab ≠ 0 := fun i hi => by
  have := (hG.edges _ (List.getElem_mem hi)).2.1.1
  omega
 have h2 : ∀ i (hi : i + 1 < st.edges.length), ¬ (st.edges[i + 1].src = st.edges[i].src ∧ st.edges[i + 1].lab = st.edges[i].lab) := fun i hi => by
  have := List.pairwise_iff_getElem.1 hu i (i + 1) (Nat.lt_of_succ_lt hi) hi (Nat.lt_succ_self i)
  omega
 exact ⟨h1, h2⟩

end Go.Proofs.YtaabkeejbhdenaaGreatDoor

namespace Go.Proofs.YtaabkeejbhdenaaGreatDoor
open Go Go.RowKit

/-- Words, the last letter first, in the order of a search: by length, then letter by letter. -/
def slt : List Nat → List Nat → Prop
 | [], [] => False
 | [], _ :: _ => True
 | _ :: _, [] => False
 | a :: u, b :: v => slt u v ∨ (u = v ∧ a < b)
theorem slt_irrefl : ∀ u, ¬ slt u u
 | [], h => h
 | a :: u, h => by
  rcases h with h | ⟨-, h⟩
  ·exact slt_irrefl u h
  ·exact Nat.lt_irrefl _ h
theorem slt_trans : ∀ {u v x : List Nat}, slt u v → slt v x → slt u x
 | [], [], _, h, _ => h.elim
 | _ :: _, [], _, h, _ => h.elim
 | _, _ :: _, [], _, h => h.elim
 | [], _ :: _, _ :: _, _, _ => trivial
 | a :: u, b :: v, c :: x, h, k => by
  rcases h with h | ⟨rfl, h⟩ <;> rcases k with k | ⟨rfl, k⟩
  ·exact .inl (slt_trans h k)
  ·exact .inl h
  ·exact .inl k
  ·exact .inr ⟨rfl, Nat.lt_trans h k⟩
theorem slt_trich : ∀ u v : List Nat, slt u v ∨ u = v ∨ slt v u
 | [], [] => .inr (.inl rfl)
 | [], _ :: _ => .inl trivial
 | _ :: _, [] => .inr (.inr trivial)
 | a :: u, b :: v => by
  rcases slt_trich u v with h | rfl | h
  ·exact .inl (.inl h)
  ·rcases Nat.lt_trichotomy a b with h | rfl | h
   ·exact .inl (.inr ⟨rfl, h⟩)
   ·exact .inr (.inl rfl)
   ·exact .inr (.inr (.inr ⟨rfl, h⟩))
  ·exact .inr (.inr (.inl h))
theorem slt_cons (a : Nat) : ∀ u : List Nat, slt u (a :: u)
 | [] => trivial
 | b :: u => .inl (slt_cons b u)
def sle (u v : List Nat) : Prop := u = v ∨ slt u v
theorem sle_lt {u v x : List Nat} (h : sle u v) (k : slt v x) : slt u x := by
 rcases h with rfl | h
 ·exact k
 ·exact slt_trans h k
theorem sle_trans {u v x : List Nat} (h : sle u v) (k : sle v x) : sle u x := by
 rcases k with rfl | k
 ·exact h
 ·exact .inr (sle_lt h k)
theorem sle_up {u v : List Nat} (a : Nat) (h : sle u v) : sle (a :: u) (a :: v) := by
 rcases h with rfl | h
 ·exact .inl rfl
 ·exact .inr (.inl h)
section
variable {S : Type} (s0 : S) (step : S → Nat → S) (m : Nat)
/-- Where a word leads. -/
def wAt : List Nat → S
 | [] => s0
 | a :: u => step (wAt u) a
def WOk (u : List Nat) : Prop := ∀ a ∈ u, a < m
/-- The first word that leads where F holds. -/
def Least (F : S → Prop) (u : List Nat) : Prop := WOk m u ∧ F (wAt s0 step u) ∧ ∀ v, WOk m v → slt v u → ¬ F (wAt s0 step v)
def NoWord (F : S → Prop) : Prop := ∀ v, WOk m v → ¬ F (wAt s0 step v)
variable {s0 step m}
theorem Least.unique {F : S → Prop} {u v : List Nat} (hu : Least s0 step m F u) (hv : Least s0 step m F v) : u = v := by
 rcases slt_trich u v with h | h | h
 ·exact absurd hu.2.1 (hv.2.2 u hu.1 h)
 ·exact h
 ·exact absurd hv.2.1 (hu.2.2 v hv.1 h)
theorem Least.some {F : S → Prop} {u : List Nat} (hu : Least s0 step m F u) (h : NoWord s0 step m F) : False := h u hu.1 hu.2.1
theorem Least.congr {F G : S → Prop} {u : List Nat} (hu : Least s0 step m F u) (h : ∀ v, WOk m v → (F (wAt s0 step v) ↔ G (wAt s0 step v))) : Least s0 step m G u :=
 ⟨hu.1, (h u hu.1).1 hu.2.1, fun v hv hs k => hu.2.2 v hv hs ((h v hv).2 k)⟩
theorem NoWord.congr {F G : S → Prop} (hu : NoWord s0 step m F) (h : ∀ v, WOk m v → (F (wAt s0 step v) ↔ G (wAt s0 step v))) : NoWord s0 step m G :=
 fun v hv k => hu v hv ((h v hv).2 k)

variable (s0 step m)
/-- A search with a queue, that looks at a state when it is taken. -/
structure QSt (dead F : S → Prop) (seen Q : List (List Nat)) : Prop where
 ok : ∀ u ∈ seen ++ Q, WOk m u
 sorted : (seen ++ Q).Pairwise slt
 root : [] ∈ seen ∨ [] ∈ Q ∨ dead s0
 par : ∀ u ∈ Q, u = [] ∨ ∃ a v, u = a :: v ∧ v ∈ seen
 nodup : (seen.map (wAt s0 step)).Nodup
 alive : ∀ u ∈ seen, ¬ dead (wAt s0 step u)
 noF : ∀ u ∈ seen, ¬ F (wAt s0 step u)
 done : ∀ u ∈ seen, ∀ a, a < m → (a :: u) ∈ Q ∨ dead (wAt s0 step (a :: u)) ∨ ∃ v ∈ seen, wAt s0 step v = wAt s0 step (a :: u) ∧ sle v (a :: u)
variable {s0 step m}
theorem QSt.start (dead F : S → Prop) : QSt s0 step m dead F [] [[]] :=
 ⟨fun u hu => by rw [List.nil_append, List.mem_singleton] at hu; subst hu; exact (fun a ha => by cases ha), by simp, .inr (.inl (by simp)), fun u hu => .inl (by simpa using hu), by simp, by simp, by simp, by simp⟩
/-- All words ahead of the queue's first are known. -/
theorem QSt.known {dead F : S → Prop} {seen Q : List (List Nat)} (hd : ∀ s a, dead s → dead (step s a)) (h : QSt s0 step m dead F seen Q) (fr : List Nat → Prop) (hf : ∀ u v, fr u → slt v u → fr v) (hq : ∀ u ∈ Q, ¬ fr u) :
  ∀ v, WOk m v → fr v → dead (wAt s0 step v) ∨ ∃ u ∈ seen, wAt s0 step u = wAt s0 step v ∧ sle u v
 | [], _, hv => by
  rcases h.root with h1 | h1 | h1
  ·exact .inr ⟨[], h1, rfl, .inl rfl⟩
  ·exact absurd hv (hq _ h1)
  ·exact .inl h1
 | a :: v, ho, hv => by
  have hv2 := hf _ v hv (slt_cons a v)
  rcases QSt.known hd h fr hf hq v (fun b hb => ho b (List.mem_cons_of_mem _ hb)) hv2 with h1 | ⟨u, hu, he, hs⟩
  ·exact .inl (hd _ _ h1)
  ·have hes : wAt s0 step (a :: u) = wAt s0 step (a :: v) := by simp only [wAt]; rw [he]
   rcases h.done u hu a (ho a (by simp)) with h2 | h2 | ⟨x, hx, hxe, hxs⟩
   ·rcases sle_up a hs with e | hs2
    ·rw [e] at h2; exact absurd hv (hq _ h2)
    ·exact absurd (hf _ _ hv hs2) (hq _ h2)
   ·rw [hes] at h2; exact .inl h2
   ·exact .inr ⟨x, hx, hxe.trans hes, sle_trans hxs (sle_up a hs)⟩
theorem QSt.least {dead F : S → Prop} {seen Q : List (List Nat)} {u : List Nat} (hd : ∀ s a, dead s → dead (step s a)) (hdF : ∀ s, dead s → ¬ F s) (h : QSt s0 step m dead F seen (u :: Q)) (hF : F (wAt s0 step u)) : Least s0 step m F u := by
 refine ⟨h.ok u (by simp), hF, fun v hv hs hFv => ?_⟩
 have hp := (List.pairwise_append.1 h.sorted).2.1
 rw [List.pairwise_cons] at hp
 rcases QSt.known hd h (fun x => slt x u) (fun a b h1 h2 => slt_trans h2 h1) (fun x hx => by
  rcases List.mem_cons.1 hx with rfl | hx
  ·exact slt_irrefl _
  ·exact fun k => slt_irrefl _ (slt_trans k (hp.1 x hx))) v hv hs with h1 | ⟨x, hx, he, -⟩
 ·exact hdF _ h1 hFv
 ·exact h.noF x hx (he ▸ hFv)
theorem QSt.none {dead F : S → Prop} {seen : List (List Nat)} (hd : ∀ s a, dead s → dead (step s a)) (hdF : ∀ s, dead s → ¬ F s) (h : QSt s0 step m dead F seen []) : NoWord s0 step m F := by
 intro v hv hFv
 rcases QSt.known hd h (fun _ => True) (fun _ _ _ _ => trivial) (fun u hu => by cases hu) v hv trivial with h1 | ⟨x, hx, he, -⟩
 ·exact hdF _ h1 hFv
 ·exact h.noF x hx (he ▸ hFv)
theorem QSt.skip {dead F : S → Prop} {seen Q : List (List Nat)} {u : List Nat} (h : QSt s0 step m dead F seen (u :: Q)) (hu : dead (wAt s0 step u) ∨ ∃ v ∈ seen, wAt s0 step v = wAt s0 step u) : QSt s0 step m dead F seen Q := by
 have hsort := List.pairwise_append.1 h.sorted
 have hcase : dead (wAt s0 step u) ∨ ∃ v ∈ seen, wAt s0 step v = wAt s0 step u ∧ sle v u := by
  rcases hu with hu | ⟨v, hv, he⟩
  ·exact .inl hu
  ·exact .inr ⟨v, hv, he, .inr (hsort.2.2 v hv u (by simp))⟩
 refine ⟨fun x hx => h.ok x (by simp at hx ⊢; rcases hx with h | h <;> simp [h]), ?_, ?_, fun x hx => h.par x (List.mem_cons_of_mem _ hx), h.nodup, h.alive, h.noF, fun x hx a ha => ?_⟩
 ·rw [List.pairwise_append]
  exact ⟨hsort.1, (List.pairwise_cons.1 hsort.2.1).2, fun x hx y hy => hsort.2.2 x hx y (List.mem_cons_of_mem _ hy)⟩
 ·rcases h.root with h1 | h1 | h1
  ·exact .inl h1
  ·rcases List.mem_cons.1 h1 with h2 | h2
   ·subst h2
    rcases hcase with h3 | ⟨v, hv, -, h4⟩
    ·exact .inr (.inr h3)
    ·rcases h4 with rfl | h4
     ·exact .inl hv
     ·cases v <;> exact h4.elim
   ·exact .inr (.inl h2)
  ·exact .inr (.inr h1)
 ·rcases h.done x hx a ha with h1 | h1 | h1
  ·rcases List.mem_cons.1 h1 with h2 | h2
   ·subst h2
    exact .inr hcase
   ·exact .inl h2
  ·exact .inr (.inl h1)
  ·exact .inr (.inr h1)
theorem QSt.take {dead F : S → Prop} {seen Q : List (List Nat)} {u : List Nat} (h : QSt s0 step m dead F seen (u :: Q)) (ha : ¬ dead (wAt s0 step u)) (hn : ∀ v ∈ seen, wAt s0 step v ≠ wAt s0 step u) (hF : ¬ F (wAt s0 step u)) :
  QSt s0 step m dead F (seen ++ [u]) (Q ++ (List.range m).map (· :: u)) := by
 have hsort := List.pairwise_append.1 h.sorted
 have hQ := List.pairwise_cons.1 hsort.2.1
 have hse : ∀ v ∈ seen, slt v u := fun v hv => hsort.2.2 v hv u (by simp)
 have hou := h.ok u (by simp)
 have hnew : ∀ x ∈ (List.range m).map (· :: u), ∃ a, a < m ∧ x = a :: u := fun x hx => by
  obtain ⟨a, ha, rfl⟩ := List.mem_map.1 hx
  exact ⟨a, List.mem_range.1 ha, rfl⟩
 have hqn : ∀ q ∈ Q, ∀ a, slt q (a :: u) := by
  intro q hq a
  rcases h.par q (List.mem_cons_of_mem _ hq) with rfl | ⟨b, v, rfl, hv⟩
  ·trivial
  ·exact .inl (hse v hv)
 refine ⟨?_, ?_, ?_, ?_, ?_, ?_, ?_, ?_⟩
 ·intro x hx
  simp only [List.mem_append, List.mem_singleton] at hx
  rcases hx with (hx | rfl) | hx | hx
  ·exact h.ok x (by simp [hx])
  ·exact hou
  ·exact h.ok x (by simp [hx])
  ·obtain ⟨a, ha, rfl⟩ := hnew x hx
   exact fun b hb => by
    rcases List.mem_cons.1 hb with rfl | hb
    ·exact ha
    ·exact hou b hb
 ·rw [List.append_assoc, List.singleton_append, List.pairwise_append]
  refine ⟨hsort.1, ?_, ?_⟩
  ·rw [List.pairwise_cons]
   refine ⟨fun x hx => ?_, ?_⟩
   ·rcases List.mem_append.1 hx with hx | hx
    ·exact hQ.1 x hx
    ·obtain ⟨a, -, rfl⟩ := hnew x hx
     exact slt_cons a u
   ·rw [List.pairwise_append]
    refine ⟨hQ.2, ?_, fun x hx y hy => ?_⟩
    ·rw [List.pairwise_map]
     exact List.pairwise_lt_range.imp fun hab => .inr ⟨rfl, hab⟩
    ·obtain ⟨a, -, rfl⟩ := hnew y hy
     exact hqn x hx a
  ·intro x hx y hy
   rcases List.mem_cons.1 hy with rfl | hy
   ·exact hse x hx
   ·rcases List.mem_append.1 hy with hy | hy
    ·exact hsort.2.2 x hx y (List.mem_cons_of_mem _ hy)
    ·obtain ⟨a, -, rfl⟩ := hnew y hy
     exact slt_trans (hse x hx) (slt_cons a u)
 ·rcases h.root with h1 | h1 | h1
  ·exact .inl (by simp [h1])
  ·rcases List.mem_cons.1 h1 with h2 | h2
   ·exact .inl (by simp [h2])
   ·exact .inr (.inl (by simp [h2]))
  ·exact .inr (.inr h1)
 ·intro x hx
  rcases List.mem_append.1 hx with hx | hx
  ·rcases h.par x (List.mem_cons_of_mem _ hx) with e | ⟨a, v, e, hv⟩
   ·exact .inl e
   ·exact .inr ⟨a, v, e, by simp [hv]⟩
  ·obtain ⟨a, -, rfl⟩ := hnew x hx
   exact .inr ⟨a, u, rfl, by simp⟩
 ·rw [List.map_append, List.nodup_append]
  refine ⟨h.nodup, by simp, fun x hx y hy e => ?_⟩
  obtain ⟨v, hv, rfl⟩ := List.mem_map.1 hx
  simp only [List.map_cons, List.map_nil, List.mem_singleton] at hy
  subst hy
  exact hn v hv e
 ·intro x hx
  rcases List.mem_append.1 hx with hx | hx
  ·exact h.alive x hx
  ·rw [List.mem_singleton] at hx; subst hx; exact ha
 ·intro x hx
  rcases List.mem_append.1 hx with hx | hx
  ·exact h.noF x hx
  ·rw [List.mem_singleton] at hx; subst hx; exact hF
 ·intro x hx a ham
  rcases List.mem_append.1 hx with hx | hx
  ·rcases h.done x hx a ham with h1 | h1 | ⟨v, hv, he, hs⟩
   ·rcases List.mem_cons.1 h1 with h2 | h2
    ·exact .inr (.inr ⟨u, by simp, by rw [h2], .inl h2.symm⟩)
    ·exact .inl (by simp [h2])
   ·exact .inr (.inl h1)
   ·exact .inr (.inr ⟨v, by simp [hv], he, hs⟩)
  ·rw [List.mem_singleton] at hx
   subst hx
   exact .inl (List.mem_append.2 (.inr (List.mem_map.2 ⟨a, List.mem_range.2 ham, rfl⟩)))

variable (s0 step m)
/-- A search that looks at a state when it is met: the words of the states met, i of them taken whole, of the next one k letters. -/
structure NSt (dead F : S → Prop) (N : List (List Nat)) (i k : Nat) : Prop where
 first : N[0]? = some []
 ok : ∀ u ∈ N, WOk m u
 sorted : N.Pairwise slt
 alive : ∀ u ∈ N, ¬ dead (wAt s0 step u)
 noF : ∀ u ∈ N, ¬ F (wAt s0 step u)
 nodup : (N.map (wAt s0 step)).Nodup
 par : ∀ u ∈ N, u = [] ∨ ∃ a j v, u = a :: v ∧ N[j]? = some v ∧ (j < i ∨ (j = i ∧ a < k))
 done : ∀ j v, N[j]? = some v → ∀ a, a < m → (j < i ∨ (j = i ∧ a < k)) → dead (wAt s0 step (a :: v)) ∨ ∃ x ∈ N, wAt s0 step x = wAt s0 step (a :: v) ∧ sle x (a :: v)
variable {s0 step m}
theorem NSt.start {dead F : S → Prop} (h1 : ¬ dead s0) (h2 : ¬ F s0) : NSt s0 step m dead F [[]] 0 0 :=
 ⟨rfl, fun u hu => by rw [List.mem_singleton] at hu; subst hu; exact (fun a ha => by cases ha), by simp, fun u hu => by rw [List.mem_singleton] at hu; subst hu; exact h1, fun u hu => by rw [List.mem_singleton] at hu; subst hu; exact h2, by simp,
  fun u hu => .inl (by simpa using hu), fun j v _ a _ h => by omega⟩
/-- The next letter leads nowhere new. -/
theorem NSt.pass {dead F : S → Prop} {N : List (List Nat)} {i k : Nat} {u : List Nat} (h : NSt s0 step m dead F N i k) (hu : N[i]? = some u) (hd : dead (wAt s0 step (k :: u)) ∨ ∃ x ∈ N, wAt s0 step x = wAt s0 step (k :: u)) : NSt s0 step m dead F N i (k + 1) := by
 have hnew : ∀ x ∈ N, slt x (k :: u) := by
  intro x hx
  rcases h.par x hx with rfl | ⟨a, j, v, rfl, hj, h1 | ⟨rfl, h1⟩⟩
  ·trivial
  ·obtain ⟨hi, e⟩ := List.getElem?_eq_some_iff.1 hu
   obtain ⟨hj2, e2⟩ := List.getElem?_eq_some_iff.1 hj
   have := List.pairwise_iff_getElem.1 h.sorted j i hj2 hi h1
   rw [e, e2] at this
   exact .inl this
  ·rw [hu] at hj
   cases hj
   exact .inr ⟨rfl, h1⟩
 refine ⟨h.first, h.ok, h.sorted, h.alive, h.noF, h.nodup, fun x hx => ?_, fun j v hv a ha hjk => ?_⟩
 ·rcases h.par x hx with e | ⟨a, j, v, e, hj, h1⟩
  ·exact .inl e
  ·exact .inr ⟨a, j, v, e, hj, by omega⟩
 ·by_cases hc : j < i ∨ (j = i ∧ a < k)
  ·exact h.done j v hv a ha hc
  ·obtain ⟨rfl, rfl⟩ : j = i ∧ a = k := by omega
   rw [hu] at hv
   cases hv
   rcases hd with hd | ⟨x, hx, he⟩
   ·exact .inl hd
   ·exact .inr ⟨x, hx, he, .inr (hnew x hx)⟩
theorem NSt.meet {dead F : S → Prop} {N : List (List Nat)} {i k : Nat} {u : List Nat} (h : NSt s0 step m dead F N i k) (hu : N[i]? = some u) (hk : k < m) (h1 : ¬ dead (wAt s0 step (k :: u))) (h2 : ¬ F (wAt s0 step (k :: u)))
  (h3 : ∀ x ∈ N, wAt s0 step x ≠ wAt s0 step (k :: u)) : NSt s0 step m dead F (N ++ [k :: u]) i (k + 1) := by
 have hnew : ∀ x ∈ N, slt x (k :: u) := by
  intro x hx
  rcases h.par x hx with rfl | ⟨a, j, v, rfl, hj, h1 | ⟨rfl, h1⟩⟩
  ·trivial
  ·obtain ⟨hi, e⟩ := List.getElem?_eq_some_iff.1 hu
   obtain ⟨hj2, e2⟩ := List.getElem?_eq_some_iff.1 hj
   have := List.pairwise_iff_getElem.1 h.sorted j i hj2 hi h1
   rw [e, e2] at this
   exact .inl this
  ·rw [hu] at hj
   cases hj
   exact .inr ⟨rfl, h1⟩
 have hi := (List.getElem?_eq_some_iff.1 hu).1
 have hum : u ∈ N := by obtain ⟨hi, e⟩ := List.getElem?_eq_some_iff.1 hu; rw [← e]; exact List.getElem_mem _
 have hpos : 0 < N.length := by omega
 have hall : ∀ (Q : List Nat → Prop), (∀ x ∈ N, Q x) → Q (k :: u) → ∀ x ∈ N ++ [k :: u], Q x := fun Q hQ hk x hx => by
  rcases List.mem_append.1 hx with hx | hx
  ·exact hQ x hx
  ·rw [List.mem_singleton] at hx; subst hx; exact hk
 refine ⟨by rw [List.getElem?_append_left hpos]; exact h.first, hall _ h.ok ?_, ?_, hall _ h.alive h1, hall _ h.noF h2, ?_, hall _ ?_ ?_, ?_⟩
 ·intro b hb
  rcases List.mem_cons.1 hb with rfl | hb
  ·exact hk
  ·exact h.ok u hum b hb
 ·rw [List.pairwise_append]
  exact ⟨h.sorted, by simp, fun x hx y hy => by rw [List.mem_singleton] at hy; subst hy; exact hnew x hx⟩
 ·rw [List.map_append, List.nodup_append]
  refine ⟨h.nodup, by simp, fun x hx y hy e => ?_⟩
  obtain ⟨v, hv, rfl⟩ := List.mem_map.1 hx
  simp only [List.map_cons, List.map_nil, List.mem_singleton] at hy
  subst hy
  exact h3 v hv e
 ·intro x hx
  rcases h.par x hx with e | ⟨a, j, v, e, hj, h4⟩
  ·exact .inl e
  ·exact .inr ⟨a, j, v, e, by rw [List.getElem?_append_left (List.getElem?_eq_some_iff.1 hj).1]; exact hj, by omega⟩
 ·exact .inr ⟨k, i, u, rfl, by rw [List.getElem?_append_left hi]; exact hu, .inr ⟨rfl, by omega⟩⟩
 ·intro j v hv a ha hjk
  have hjl : j < N.length := by rcases hjk with h | ⟨h, -⟩ <;> omega
  rw [List.getElem?_append_left hjl] at hv
  by_cases hc : j < i ∨ (j = i ∧ a < k)
  ·rcases h.done j v hv a ha hc with h4 | ⟨x, hx, h5, h6⟩
   ·exact .inl h4
   ·exact .inr ⟨x, by simp [hx], h5, h6⟩
  ·obtain ⟨rfl, rfl⟩ : j = i ∧ a = k := by omega
   rw [hu] at hv
   cases hv
   exact .inr ⟨a :: u, by simp, rfl, .inl rfl⟩
theorem NSt.next {dead F : S → Prop} {N : List (List Nat)} {i : Nat} (h : NSt s0 step m dead F N i m) : NSt s0 step m dead F N (i + 1) 0 :=
 ⟨h.first, h.ok, h.sorted, h.alive, h.noF, h.nodup, fun x hx => by
  rcases h.par x hx with e | ⟨a, j, v, e, hj, h1⟩
  ·exact .inl e
  ·exact .inr ⟨a, j, v, e, hj, by omega⟩, fun j v hv a ha hjk => h.done j v hv a ha (by omega)⟩
theorem NSt.known {dead F : S → Prop} {N : List (List Nat)} {i k : Nat} (hd : ∀ s a, dead s → dead (step s a)) (h : NSt s0 step m dead F N i k) (fr : List Nat → Prop) (hf : ∀ u v, fr u → slt v u → fr v)
  (hq : ∀ j v a, N[j]? = some v → a < m → fr (a :: v) → j < i ∨ (j = i ∧ a < k)) : ∀ v, WOk m v → fr v → dead (wAt s0 step v) ∨ ∃ u ∈ N, wAt s0 step u = wAt s0 step v ∧ sle u v
 | [], _, hv => .inr ⟨[], by obtain ⟨hi, e⟩ := List.getElem?_eq_some_iff.1 h.first; rw [← e]; exact List.getElem_mem _, rfl, .inl rfl⟩
 | a :: v, ho, hv => by
  have hv2 := hf _ v hv (slt_cons a v)
  have ha := ho a (by simp)
  rcases NSt.known hd h fr hf hq v (fun b hb => ho b (List.mem_cons_of_mem _ hb)) hv2 with h1 | ⟨u, hu, he, hs⟩
  ·exact .inl (hd _ _ h1)
  ·have hes : wAt s0 step (a :: u) = wAt s0 step (a :: v) := by simp only [wAt]; rw [he]
   obtain ⟨j, hj, e⟩ := List.mem_iff_getElem.1 hu
   have hju : N[j]? = some u := by rw [List.getElem?_eq_getElem hj, e]
   have hfr : fr (a :: u) := by
    rcases sle_up a hs with e | hs2
    ·rw [e]; exact hv
    ·exact hf _ _ hv hs2
   rcases h.done j u hju a ha (hq j u a hju ha hfr) with h2 | ⟨x, hx, hxe, hxs⟩
   ·rw [hes] at h2; exact .inl h2
   ·exact .inr ⟨x, hx, hxe.trans hes, sle_trans hxs (sle_up a hs)⟩
theorem NSt.least {dead F : S → Prop} {N : List (List Nat)} {i k : Nat} {u : List Nat} (hd : ∀ s a, dead s → dead (step s a)) (hdF : ∀ s, dead s → ¬ F s) (h : NSt s0 step m dead F N i k) (hu : N[i]? = some u) (hk : k < m) (hF : F (wAt s0 step (k :: u))) : Least s0 step m F (k :: u) := by
 have hi := (List.getElem?_eq_some_iff.1 hu)
 refine ⟨?_, hF, fun v hv hs hFv => ?_⟩
 ·intro b hb
  rcases List.mem_cons.1 hb with rfl | hb
  ·exact hk
  ·exact h.ok u (by rw [← hi.2]; exact List.getElem_mem _) b hb
 ·rcases NSt.known hd h (fun x => slt x (k :: u)) (fun a b h1 h2 => slt_trans h2 h1) (fun j v a hj ha hs => by
   rcases hs with hs | ⟨rfl, hs⟩
   ·obtain ⟨hjl, e⟩ := List.getElem?_eq_some_iff.1 hj
    rcases Nat.lt_trichotomy j i with h1 | h1 | h1
    ·exact .inl h1
    ·exfalso
     subst h1
     rw [hu] at hj
     cases hj
     exact absurd hs (slt_irrefl _)
    ·have := List.pairwise_iff_getElem.1 h.sorted i j hi.1 hjl h1
     rw [e, hi.2] at this
     exact absurd (slt_trans hs this) (slt_irrefl _)
   ·obtain ⟨hjl, e⟩ := List.getElem?_eq_some_iff.1 hj
    rcases Nat.lt_trichotomy j i with h1 | h1 | h1
    ·exact .inl h1
    ·exact .inr ⟨h1, by assumption⟩
    ·have := List.pairwise_iff_getElem.1 h.sorted i j hi.1 hjl h1
     rw [e, hi.2] at this
     exact absurd this (slt_irrefl _)) v hv hs with h1 | ⟨x, hx, he, -⟩
  ·exact hdF _ h1 hFv
  ·exact h.noF x hx (he ▸ hFv)
theorem NSt.none {dead F : S → Prop} {N : List (List Nat)} {i : Nat} (hd : ∀ s a, dead s → dead (step s a)) (hdF : ∀ s, dead s → ¬ F s) (h : NSt s0 step m dead F N i 0) (hi : N.length ≤ i) : NoWord s0 step m F := by
 intro v hv hFv
 rcases NSt.known hd h (fun _ => True) (fun _ _ _ _ => trivial) (fun j v a hj _ _ => .inl (by have := (List.getElem?_eq_some_iff.1 hj).1; omega)) v hv trivial with h1 | ⟨x, hx, he, -⟩
 ·exact hdF _ h1 hFv
 ·exact h.noF x hx (he ▸ hFv)
end

end Go.Proofs.YtaabkeejbhdenaaGreatDoor

namespace Go.Proofs.YtaabkeejbhdenaaGreatDoor
open Go Go.RowKit

/-- The visible labels of both. -/
def bothL (a b : Lts) : List ByteArray := labSet (tauT :: (a.labels ++ b.labels))
def labK (L : List ByteArray) (k : Nat) : ByteArray := L.getD (k + 1) ByteArray.empty
/-- Both systems take a label. -/
def goBoth (x y : Lts) (L : List ByteArray) (p : Int × Int) (k : Nat) : Int × Int := (goTo x p.1 (labK L k), goTo y p.2 (labK L k))
/-- The trace of a word. -/
def txtsOf (L : List ByteArray) (u : List Nat) : List ByteArray := u.reverse.map (labK L)
theorem txtsOf_cons (L : List ByteArray) (k : Nat) (u : List Nat) : txtsOf L (k :: u) = txtsOf L u ++ [labK L k] := by simp [txtsOf]
theorem goTo_neg {x : Lts} {q : Int} (h : q < 0) (l : ByteArray) : goTo x q l = -1 := by unfold goTo; rw [if_pos h]

/-- What both searches look for: a trace of b that is none of a; with 'both', one of a that is none of b too. -/
def apart (both : Bool) (p : Int × Int) : Prop := (p.1 < 0 ∧ 0 ≤ p.2) ∨ (both = true ∧ 0 ≤ p.1 ∧ p.2 < 0)
end Go.Proofs.YtaabkeejbhdenaaGreatDoor

namespace Go.Proofs.YtaabkeejbhdenaaGreatDoor
open Go Go.RowKit

/-- Each edge leads to the set behind it. -/
def EOk (t : Lts) (st : DNet) : Prop := ∀ e ∈ st.edges, ∃ cur, st.rows[e.src.toNat]? = some cur ∧ nextS t cur e.lab ≠ [] ∧ st.rows[e.dst.toNat]? = some (nextS t cur e.lab)
theorem dadd_get (rows : List (List Int)) (r : List Int) : (dadd rows r)[dplace rows r]? = some r := by
 unfold dadd
 have h2 := dplace_le rows r
 split
 ·next h => rw [List.getElem?_eq_getElem h, dplace_get h]
 ·next h =>
  have h3 : dplace rows r = rows.length := by omega
  rw [h3, List.getElem?_concat_length]
theorem dadd_old {rows : List (List Int)} (r : List Int) {i : Nat} {cur : List Int} (h : rows[i]? = some cur) : (dadd rows r)[i]? = some cur := by
 unfold dadd
 split
 ·exact h
 ·rw [List.getElem?_append_left (List.getElem?_eq_some_iff.1 h).1]; exact h
theorem EOk.step {t : Lts} {st : DNet} {i : Nat} {cur : List Int} (h : EOk t st) (hc : st.rows[i]? = some cur) (k : Nat) : EOk t (dstep t i cur st k) ∧ (dstep t i cur st k).rows[i]? = some cur := by
 unfold dstep
 split
 ·exact ⟨h, hc⟩
 ·next hne =>
  refine ⟨fun e he => ?_, dadd_old _ hc⟩
  rcases List.mem_append.1 he with he | he
  ·obtain ⟨c, h1, h2, h3⟩ := h e he
   exact ⟨c, dadd_old _ h1, h2, dadd_old _ h3⟩
  ·rw [List.mem_singleton] at he
   subst he
   refine ⟨cur, dadd_old _ (by rw [Int.toNat_natCast]; exact hc), hne, ?_⟩
   rw [Int.toNat_natCast]
   exact dadd_get _ _
theorem EOk.mid {t : Lts} {st : DNet} {i : Nat} {cur : List Int} (h : EOk t st) (hc : st.rows[i]? = some cur) : ∀ j, EOk t (dmid t i cur st j) ∧ (dmid t i cur st j).rows[i]? = some cur
 | 0 => ⟨h, hc⟩
 | j + 1 => by rw [dmid_succ]; exact (EOk.mid h hc j).1.step (EOk.mid h hc j).2 j
theorem EOk.at (t : Lts) : ∀ n, EOk t (dAt t n)
 | 0 => fun e he => by simp [dAt] at he
 | n + 1 => by
  rw [dAt]
  unfold drow
  split
  ·exact EOk.at t n
  ·next cur hc => exact ((EOk.at t n).mid hc _).1
theorem dok_eok {t : Lts} {st : DNet} (h : DOk t st) : EOk t st := by
 obtain ⟨⟨n, -, rfl, -⟩, -⟩ := h
 exact EOk.at t n
/-- A row, when its turn came. -/
theorem DOk.row {t : Lts} {st : DNet} (h : DOk t st) {i : Nat} (hi : i < st.rows.length) : ∃ cur, (dAt t i).rows[i]? = some cur ∧ st.rows[i]? = some cur ∧ (∀ j, j ≤ t.labels.length - 1 → DLe (dmid t i cur (dAt t i) j) st) ∧ dmid t i cur (dAt t i) (t.labels.length - 1) = dAt t (i + 1) := by
 obtain ⟨⟨m, hm, em, lm⟩, -⟩ := h
 have h1 := hm i (by omega)
 have hcur : (dAt t i).rows[i]? = some (dAt t i).rows[i] := List.getElem?_eq_getElem h1
 have h2 := dAt_le t i (m - i)
 rw [show i + (m - i) = m from by omega, em] at h2
 refine ⟨_, hcur, ?_, fun j hj => ?_, (dAt_succ hcur).symm⟩
 ·obtain ⟨r, hr⟩ := h2.rows
  rw [hr, List.getElem?_append_left h1]
  exact hcur
 ·have h3 := dmid_le t i (dAt t i).rows[i] (dAt t i) j (t.labels.length - 1 - j)
  rw [show j + (t.labels.length - 1 - j) = t.labels.length - 1 from by omega, ← dAt_succ hcur] at h3
  have h4 := dAt_le t (i + 1) (m - (i + 1))
  rw [show i + 1 + (m - (i + 1)) = m from by omega, em] at h4
  exact h3.trans h4
/-- An edge is found by its state and label. -/
theorem go_edge {t : Lts} {st : DNet} (hv : Valid t) (h : DOk t st) {e : Edge} (he : e ∈ st.edges) {k : Nat} (hk : k + 1 < t.labels.length) (hl : e.lab = (k : Int) + 1) : goTo (dSys t st) e.src (labK t.labels k) = e.dst := by
 have hG := dok_good hv h
 have hs0 := (hG.edges e he).1.1
 have hlk : labK t.labels k = t.labels[k + 1] := by unfold labK; rw [List.getD_eq_getElem?_getD, List.getElem?_eq_getElem hk]; rfl
 unfold goTo
 rw [if_neg (by omega)]
 have hfind : st.edges.find? (hitB (dSys t st) e.src (labK t.labels k)) = some e := by
  obtain ⟨j, hj, rfl⟩ := List.mem_iff_getElem.1 he
  refine find_at hj (fun i hi hij => ?_) ?_
  ·unfold hitB
   rw [Bool.and_eq_false_iff]
   by_cases hs : st.edges[i].src = st.edges[j].src
   ·right
    rw [beq_eq_false_iff_ne]
    intro hb
    obtain ⟨h1, h2, h3⟩ := lab_get hG (List.getElem_mem hi)
    have h4 : (labAt (dSys t st) st.edges[i]) = t.labels[st.edges[i].lab.toNat] := h2
    rw [h4, hlk] at hb
    have := labels_inj hv.labels _ _ h1 hk hb
    have hup := List.pairwise_iff_getElem.1 (dok_up h) i j hi hj hij
    omega
   ·left
    rw [beq_eq_false_iff_ne]
    exact hs
  ·unfold hitB
   obtain ⟨h1, h2, h3⟩ := lab_get hG he
   have h4 : (labAt (dSys t st) st.edges[j]) = t.labels[st.edges[j].lab.toNat] := h2
   have h5 : st.edges[j].lab.toNat = k + 1 := by omega
   rw [h4, hlk]
   simp [h5]
 show ((st.edges.find? _).map Edge.dst).getD (-1) = e.dst
 rw [hfind]
 rfl
theorem go_none {t : Lts} {st : DNet} (hv : Valid t) (h : DOk t st) {q : Int} {k : Nat} (hk : k + 1 < t.labels.length) (hn : ∀ e ∈ st.edges, e.src = q → e.lab ≠ (k : Int) + 1) : goTo (dSys t st) q (labK t.labels k) = -1 := by
 have hG := dok_good hv h
 have hlk : labK t.labels k = t.labels[k + 1] := by unfold labK; rw [List.getD_eq_getElem?_getD, List.getElem?_eq_getElem hk]; rfl
 unfold goTo
 split
 ·rfl
 ·have hfind : st.edges.find? (hitB (dSys t st) q (labK t.labels k)) = none := by
   refine find_none fun j hj => ?_
   unfold hitB
   rw [Bool.and_eq_false_iff]
   by_cases hs : st.edges[j].src = q
   ·right
    rw [beq_eq_false_iff_ne]
    intro hb
    obtain ⟨h1, h2, h3⟩ := lab_get hG (List.getElem_mem hj)
    have h4 : (labAt (dSys t st) st.edges[j]) = t.labels[st.edges[j].lab.toNat] := h2
    rw [h4, hlk] at hb
    have := labels_inj hv.labels _ _ h1 hk hb
    exact hn _ (List.getElem_mem hj) hs (by omega)
   ·left
    rw [beq_eq_false_iff_ne]
    exact hs
  show ((st.edges.find? _).map Edge.dst).getD (-1) = -1
  rw [hfind]
  rfl
/-- Where a row's label leads: nowhere, or to the set behind it. -/
theorem go_row {t : Lts} {st : DNet} (hv : Valid t) (h : DOk t st) {i : Nat} {cur : List Int} (hc : st.rows[i]? = some cur) {k : Nat} (hk : k + 1 < t.labels.length) :
  (nextS t cur ((k : Int) + 1) = [] ∧ goTo (dSys t st) i (labK t.labels k) = -1) ∨ (nextS t cur ((k : Int) + 1) ≠ [] ∧ ∃ j : Nat, goTo (dSys t st) i (labK t.labels k) = j ∧ st.rows[j]? = some (nextS t cur ((k : Int) + 1))) := by
 have hG := dok_good hv h
 have hE := dok_eok h
 by_cases hne : nextS t cur ((k : Int) + 1) = []
 ·refine .inl ⟨hne, go_none hv h hk fun e he hs hl => ?_⟩
  obtain ⟨c, h1, h2, -⟩ := hE e he
  rw [hs, Int.toNat_natCast, hc] at h1
  cases h1
  rw [hl] at h2
  exact h2 hne
 ·refine .inr ⟨hne, ?_⟩
  have hi := (List.getElem?_eq_some_iff.1 hc).1
  obtain ⟨c, h1, h2, h3, h4⟩ := h.row hi
  rw [hc] at h2
  cases h2
  obtain ⟨r, hr⟩ := (h3 (k + 1) (by omega)).edges
  have hmem : (⟨(i : Int), (k : Int) + 1, (dplace (dmid t i cur (dAt t i) k).rows (nextS t cur (k + 1)) : Int)⟩ : Edge) ∈ st.edges := by
   rw [hr, dmid_succ]
   unfold dstep
   rw [if_neg hne]
   simp
  have hg := go_edge hv h hmem hk rfl
  obtain ⟨c2, k1, -, k3⟩ := hE _ hmem
  simp only [Int.toNat_natCast] at k1 k3
  rw [hc] at k1
  cases k1
  exact ⟨_, hg, k3⟩
/-- A state's set; none for no state. -/
def setOf (st : DNet) (q : Int) : List Int := if q < 0 then [] else st.rows.getD q.toNat []
theorem nextS_nil {t : Lts} (hv : Valid t) (k : Int) : nextS t [] k = [] := by
 have hs := nextS_is hv [] k
 refine List.eq_nil_iff_forall_not_mem.2 fun x hx => ?_
 obtain ⟨a, ⟨e, -, -, he, -⟩, -⟩ := (hs.mem x).1 hx
 cases he
theorem setOf_at {st : DNet} {i : Nat} {cur : List Int} (h : st.rows[i]? = some cur) : setOf st (i : Int) = cur := by
 unfold setOf
 rw [if_neg (by omega), Int.toNat_natCast, List.getD_eq_getElem?_getD, h]
 rfl
theorem setOf_neg {st : DNet} {q : Int} (h : q < 0) : setOf st q = [] := by unfold setOf; rw [if_pos h]
/-- A label leads to the set behind the set. -/
theorem set_go {t : Lts} {st : DNet} (hv : Valid t) (h : DOk t st) {q : Int} (hq : q < (dSys t st).states) {k : Nat} (hk : k + 1 < t.labels.length) : setOf st (goTo (dSys t st) q (labK t.labels k)) = nextS t (setOf st q) ((k : Int) + 1) := by
 by_cases h0 : q < 0
 ·rw [goTo_neg h0, setOf_neg (by decide), setOf_neg h0, nextS_nil hv]
 ·have hq2 : q.toNat < st.rows.length := by have : q < (st.rows.length : Int) := hq; omega
  have hc : st.rows[q.toNat]? = some st.rows[q.toNat] := List.getElem?_eq_getElem hq2
  have e0 : q = ((q.toNat : Nat) : Int) := by omega
  rw [e0, setOf_at hc]
  rcases go_row hv h hc hk with ⟨h1, h2⟩ | ⟨h1, j, h2, h3⟩
  ·rw [h2, setOf_neg (by decide), h1]
  ·rw [h2, setOf_at h3]
theorem set_first {t : Lts} {st : DNet} (h : DOk t st) : setOf st 0 = firstS t := by
 obtain ⟨⟨m, hm, em, lm⟩, -⟩ := h
 obtain ⟨r, hr⟩ := (dAt_le t 0 m).rows
 rw [Nat.zero_add, em] at hr
 refine setOf_at (i := 0) ?_
 rw [hr, List.getElem?_append_left (by simp [dAt])]
 rfl
end Go.Proofs.YtaabkeejbhdenaaGreatDoor

namespace Go.Proofs.YtaabkeejbhdenaaGreatDoor
open Go Go.RowKit

section
variable {S : Type} {s0 : S} {step : S → Nat → S} {m : Nat}
/-- The first state met where something holds is behind the first word that leads to such a state. -/
theorem NSt.look {dead F : S → Prop} {N : List (List Nat)} {i : Nat} {u : List Nat} (hd : ∀ s a, dead s → dead (step s a)) (hdF : ∀ s, dead s → ¬ F s) (h : NSt s0 step m dead (fun _ => False) N i 0) (hu : N[i]? = some u) (hF : F (wAt s0 step u))
  (hno : ∀ (j : Nat) (v : List Nat), j < i → N[j]? = some v → ¬ F (wAt s0 step v)) : Least s0 step m F u := by
 obtain ⟨hi, hiu⟩ := List.getElem?_eq_some_iff.1 hu
 refine ⟨h.ok u (by rw [← hiu]; exact List.getElem_mem _), hF, fun v hv hs hFv => ?_⟩
 have hord : ∀ j (hj : j < N.length), ¬ j < i → sle u N[j] := fun j hj hn => by
  rcases Nat.lt_trichotomy j i with h1 | h1 | h1
  ·exact absurd h1 hn
  ·subst h1; exact .inl hiu.symm
  ·have := List.pairwise_iff_getElem.1 h.sorted i j hi hj h1
   rw [hiu] at this
   exact .inr this
 rcases NSt.known hd h (fun x => slt x u) (fun a b h1 h2 => slt_trans h2 h1) (fun j v a hj ha hs => .inl (by
  obtain ⟨hjl, e⟩ := List.getElem?_eq_some_iff.1 hj
  refine Decidable.byContradiction fun hn => ?_
  have h1 := hord j hjl hn
  rw [e] at h1
  exact slt_irrefl _ (sle_lt h1 (slt_trans (slt_cons a v) hs)))) v hv hs with h1 | ⟨x, hx, he, hsx⟩
 ·exact hdF _ h1 hFv
 ·obtain ⟨j, hj, rfl⟩ := List.mem_iff_getElem.1 hx
  by_cases hji : j < i
  ·exact hno j _ hji (List.getElem?_eq_getElem hj) (by rw [he]; exact hFv)
  ·exact slt_irrefl _ (sle_lt (hord j hj hji) (sle_lt hsx hs))
theorem NSt.lookNone {dead F : S → Prop} {N : List (List Nat)} {i : Nat} (hd : ∀ s a, dead s → dead (step s a)) (hdF : ∀ s, dead s → ¬ F s) (h : NSt s0 step m dead (fun _ => False) N i 0) (hi : N.length ≤ i)
  (hno : ∀ (j : Nat) (v : List Nat), N[j]? = some v → ¬ F (wAt s0 step v)) : NoWord s0 step m F := by
 intro v hv hFv
 rcases NSt.known hd h (fun _ => True) (fun _ _ _ _ => trivial) (fun j v a hj _ _ => .inl (by have := (List.getElem?_eq_some_iff.1 hj).1; omega)) v hv trivial with h1 | ⟨x, hx, he, -⟩
 ·exact hdF _ h1 hFv
 ·obtain ⟨j, hj, rfl⟩ := List.mem_iff_getElem.1 hx
  exact hno j _ (List.getElem?_eq_getElem hj) (by rw [he]; exact hFv)
end

end Go.Proofs.YtaabkeejbhdenaaGreatDoor
