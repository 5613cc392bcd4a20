/-
  What the explorer's find computes: the place of a set among the rows, a new row for a new set.
  An arc in memory.
-/
import Derived.Test.YtodojigmhlkpeaaGreatDoorF7
namespace Go.Proofs.YtodojigmhlkpeaaGreatDoor
open Go Go.RowKit

theorem keyfn_any (lo : Nat) (rv : Value) (r : List Int) (w : World) (hr : RowOk r) (hs : SliceK 1 encI lo w rv r) (g : Glob w) :
  Calls Tryz.prog 70 #[rv] w fun e w' => e = .returned (keyV r) ∧ Below w.heap.size w w' := by
 have HJ := Lib.hid (joined_any rv ⟨#[44]⟩ lo r w (by have := hr.len; omega) (fun i hi => hr.i64 _ (List.getElem_mem hi)) hs g (by
  have h1 := keyT_len hr.i64
  have h2 := hr.len
  show (Lib.join ((wordsOf r).map (·.data.toList)) [44]).length ≤ 1073741824
  omega))
 clear hs g
 go_enter Tryz.func70, Tryz.ntmps70
 go_wp2_with fail
 refine Calls.mono HJ.out ?_
 rintro e w1 ⟨rfl, hb⟩
 have HB := Lib.hid hb
 clear hb HJ
 go_wp2
 go_ret
 exact ⟨rfl, HB.out⟩

/-- After the map and the list have grown. -/
theorem ExpAt.grow {on : Bool} {B xb mb pb ib rb i B2 : Nat} {t : Lts} {st : DNet} {sv av sv' rv : Value} {vs : List Value} {r : List Int} {w1 w2 w3 w4 : World} (h : ExpAt B xb mb pb ib rb on i t st sv av vs w1) (hg2 : w1.grownBy w2 (some mb)) (hm2 : NumMap .i64 w2 mb (st.rows.map keyV ++ [keyV r]))
  (hb3 : Below w2.heap.size w2 w3) (hg4 : w3.grownBy w4 sv.ownBlock) (ho4 : w4.ownsRow B 48 1 sv' (vs.length + 1) (vs ++ [rv])) (hlow : ∀ (i : Nat) (h : i < vs.length) b, vs[i].ownBlock = some b → b < B2) (hB2 : B ≤ B2)
  (hr : w1.ownsRow B2 2 1 rv r.length (r.map (Value.int .i64))) :
  ExpAt B xb mb pb ib rb on i t ⟨st.rows ++ [r], st.edges⟩ sv' av (vs ++ [rv]) (w4.setCell ⟨xb, 0, none⟩ sv') := by
 have mblk : w1.heap[mb]? = some (.map (((st.rows.map keyV).mapIdx fun i k => (⟨k, .int .i64 i, i⟩ : MapEntry)).toArray) (st.rows.map keyV).length) := h.map
 have X2 := (h.box.below (Below.refl _ _)) 
 have X2 : Blk w2 xb _ _ := (hg2.block xb h.box.lt (fun e => blk_map_ne' h.box mblk (Option.some.inj e))).trans h.box
 have P2 : Blk w2 pb _ _ := (hg2.block pb h.ptr.lt (fun e => blk_map_ne' h.ptr mblk (Option.some.inj e))).trans h.ptr
 have I2 := fun (ho : on = true) => (show Blk w2 ib [.int .i64 i] 3 from (hg2.block ib (h.idx ho).lt (fun e => blk_map_ne' (h.idx ho) mblk (Option.some.inj e))).trans (h.idx ho))
 have S2 : Blk w2 rb _ _ := (hg2.block rb h.res.lt (fun e => blk_map_ne' h.res mblk (Option.some.inj e))).trans h.res
 have R2 := h.rows.kept hg2 (own_map_ne h.rows.2.1 mblk) (fun j hj => own_map_ne (h.rows.2.2.1 j hj (by rw [← h.rows.1]; exact hj)) mblk)
 have A2 := h.arcs.kept hg2 (own_map_ne h.arcs mblk)
 have V2 := hr.kept hg2 (own_map_ne hr mblk)
 have X3 := X2.below hb3
 have P3 := P2.below hb3
 have I3 := fun ho => (I2 ho).below hb3
 have S3 := S2.below hb3
 have R3 := R2.below hb3
 have A3 := owns_below A2 hb3
 have V3 := owns_below V2 hb3
 have M3 := hm2.below hb3
 have X4 : Blk w4 xb _ _ := (hg4.block xb X3.lt (blk_own_ne' X3 R3.2.1 (by decide))).trans X3
 have P4 : Blk w4 pb _ _ := (hg4.block pb P3.lt (blk_own_ne' P3 R3.2.1 (by decide))).trans P3
 have I4 := fun (ho : on = true) => (show Blk w4 ib [.int .i64 i] 3 from (hg4.block ib (I3 ho).lt (blk_own_ne' (I3 ho) R3.2.1 (by decide))).trans (I3 ho))
 have S4 : Blk w4 rb _ _ := (hg4.block rb S3.lt (blk_own_ne' S3 R3.2.1 (by decide))).trans S3
 have M4 := M3.kept hg4 (fun e => by
  rcases own_map_ne R3.2.1 M3 with h | h
  ·rw [h] at e; cases e
  ·exact h e.symm)
 have A4 := A3.kept hg4 (own_types A3 R3.2.1 (by decide))
 have R4 := OwnIntss.pushB (by decide) R3 hlow V3 hB2 hg4 ho4
 have hs := grown_setCell w4 ⟨xb, 0, none⟩ sv'
 refine ⟨h.base, h.mbase, h.pbase, h.ibase, h.rbase, X4.set 0 sv', P4.setOther _ _ (blk_blk_ne P4 X4 (by decide)), (fun ho => (I4 ho).setOther _ _ (blk_blk_ne (I4 ho) X4 (by decide))), S4.setOther _ _ (blk_blk_ne S4 X4 (by decide)), ?_, ?_, ?_⟩
 ·exact R4.kept hs (own_type_ne R4.2.1 X4 (by decide)) (fun j hj => own_type_ne (R4.2.2.1 j hj (by rw [← R4.1]; exact hj)) X4 (by decide))
 ·have := M4.kept hs (fun e => blk_map_ne' X4 M4 (Option.some.inj e).symm)
  simpa using this
 ·exact A4.kept hs (own_type_ne A4 X4 (by decide))

set_option maxRecDepth 100000 in
set_option maxHeartbeats 2000000 in
theorem findS_old (B xb mb pb ib rb : Nat) (on : Bool) (i B2 : Nat) (t : Lts) (st : DNet) (sv av rv : Value) (vs : List Value) (r : List Int) (w : World) (h : ExpAt B xb mb pb ib rb on i t st sv av vs w) (hd : st.rows.Nodup) (hok : ∀ r ∈ st.rows, RowOk r) (hr : RowOk r)
  (hv : w.ownsRow B2 2 1 rv r.length (r.map (Value.int .i64))) (hm : r ∈ st.rows) (g : Glob w) :
  Calls Tryz.prog 96 #[.pointer (some ⟨xb, 0, none⟩), rv] w fun e w' => e = .returned (.int .i64 (dplace st.rows r)) ∧ Below w.heap.size w w' := by
 have hpl := dplace_lt.2 hm
 have hpk : dplace st.rows r < (st.rows.map keyV).length := by rw [List.length_map]; exact hpl
 have HL := Lib.hid (fun (w' : World) (hm : NumMap .i64 w' mb (st.rows.map keyV)) => hm.found keyedS underMapS (fun v hv => by obtain ⟨q', hq', rfl⟩ := List.mem_map.1 hv; exact (hok q' hq').key) (keysV_nodup hd hok) hpk)
 have hk3 : (st.rows.map keyV)[dplace st.rows r] = keyV r := by rw [List.getElem_map, dplace_get hpl]
 rw [hk3] at HL
 obtain ⟨n, hn⟩ : ∃ n, n = dplace st.rows r := ⟨_, rfl⟩
 rw [← hn] at HL
 have HN := Lib.hid hn
 have HK := Lib.hid (keyfn_any B2 rv r w hr (SliceK.of_owns (enc := encI) encI_len rfl (by rw [flat_encI]; exact hv)) g)
 have HE := Lib.hid h
 have x3 := h.box.cell 3 rfl
 have hxl := h.box.lt
 clear h hd hok hr hv hm g hpl hpk hk3 hn
 go_enter Tryz.func96, Tryz.ntmps96
 go_wp2_with fail
 refine Calls.mono HK.out ?_
 rintro e w1 ⟨rfl, hb1⟩
 have HB1 := Lib.hid hb1
 have x1 := (HE.out.below hb1).box.cell 1 rfl
 have hlk := HL.out w1 (HE.out.map.below hb1)
 unfold keyV at hlk ⊢
 clear hb1 HK x3
 go_wp2
 go_ret
 exact ⟨by rw [← HN.out]; rfl, HB1.out⟩

set_option maxRecDepth 100000 in
set_option maxHeartbeats 4000000 in
theorem findS_new (B xb mb pb ib rb : Nat) (on : Bool) (i B2 : Nat) (t : Lts) (st : DNet) (sv av rv : Value) (vs : List Value) (r : List Int) (w : World) (hB : B ≤ w.heap.size) (h : ExpAt B xb mb pb ib rb on i t st sv av vs w) (_hd : st.rows.Nodup) (hok : ∀ r ∈ st.rows, RowOk r) (hr : RowOk r)
  (hlow : ∀ (i : Nat) (h : i < vs.length) b, vs[i].ownBlock = some b → b < B2) (hB2 : B ≤ B2) (hv : w.ownsRow B2 2 1 rv r.length (r.map (Value.int .i64))) (hm : r ∉ st.rows) (hfew : st.rows.length ≤ 1000) (g : Glob w) :
  Calls Tryz.prog 96 #[.pointer (some ⟨xb, 0, none⟩), rv] w fun e w' => e = .returned (.int .i64 st.rows.length) ∧ Below B w w' ∧ ∃ sv', ExpAt B xb mb pb ib rb on i t ⟨st.rows ++ [r], st.edges⟩ sv' av (vs ++ [rv]) w' := by
 have hks : ∀ v ∈ st.rows.map keyV, ∃ l, keyOf Tryz.prog 9 v = some l := fun v hv => by obtain ⟨q', hq', rfl⟩ := List.mem_map.1 hv; exact (hok q' hq').key
 obtain ⟨kl, hkl⟩ := hr.key
 have hkn : keyV r ∉ st.rows.map keyV := fun hmm => by obtain ⟨q', hq', e⟩ := List.mem_map.1 hmm; rw [(hok q' hq').inj hr e] at hq'; exact hm hq'
 have HL := Lib.hid (fun (w' : World) (hm : NumMap .i64 w' mb (st.rows.map keyV)) => hm.missing keyedS underMapS hks (zeroI64 w') hkl hkn)
 have HU := Lib.hid (fun (w' : World) (hm : NumMap .i64 w' mb (st.rows.map keyV)) => hm.store keyedS underMapS hks hkl hkn (by rw [List.length_map]; unfold maxLen; omega))
 rw [List.length_map] at HU
 have HK := Lib.hid (keyfn_any B2 rv r w hr (SliceK.of_owns (enc := encI) encI_len rfl (by rw [flat_encI]; exact hv)) g)
 have HE := Lib.hid h
 have HV := Lib.hid hv
 have HLOW := Lib.hid hlow
 have x3 := h.box.cell 3 rfl
 have hxl := h.box.lt
 have hvl : vs.length = st.rows.length := h.rows.1
 obtain ⟨a0, c0, rfl, -, -⟩ := owns_slice h.rows.2.1
 obtain ⟨ar, cr, rfl, -, -⟩ := owns_slice hv
 obtain ⟨N, hN⟩ : ∃ N, N = st.rows.length := ⟨_, rfl⟩
 rw [← hN] at HU hfew hvl
 rw [hvl] at HE
 have HNN := Lib.hid hN
 obtain ⟨RL, hRL⟩ : ∃ RL, RL = r.length := ⟨_, rfl⟩
 rw [← hRL] at HV HK
 rw [← hRL]
 have HRL := Lib.hid hRL
 have HBB := Lib.hid hB
 obtain ⟨i0, hi, hz0, hz1, hz2⟩ := info_parts info_intsF
 clear h _hd hok hr hv hm g hN hks hkl hkn hlow hRL hB
 go_enter Tryz.func96, Tryz.ntmps96
 go_wp2_with fail
 refine Calls.mono HK.out ?_
 rintro e w1 ⟨rfl, hb1⟩
 have HB1 := Lib.hid (Below.mono hb1 HBB.out)
 have HE1 := Lib.hid (HE.out.below hb1)
 have HV1 := Lib.hid (owns_below HV.out hb1)
 have x1 := HE1.out.box.cell 1 rfl
 have x0 := HE1.out.box.cell 0 rfl
 have hlk := HL.out w1 HE1.out.map
 obtain ⟨w2, hup, hm2, hg2⟩ := HU.out w1 HE1.out.map
 unfold keyV at hlk hup ⊢
 have hs1 : B ≤ w1.heap.size := Nat.le_trans HBB.out hb1.size
 clear hb1 HK x3 HE HV
 have mblk : w1.heap[mb]? = some (.map (((st.rows.map keyV).mapIdx fun i k => (⟨k, .int .i64 i, i⟩ : MapEntry)).toArray) (st.rows.map keyV).length) := HE1.out.map
 have X2 : Hid (Blk w2 xb _ _) := (hg2.block xb HE1.out.box.lt (fun e => blk_map_ne' HE1.out.box mblk (Option.some.inj e))).trans HE1.out.box
 have R2 := Lib.hid (HE1.out.rows.2.1.kept hg2 (own_map_ne HE1.out.rows.2.1 mblk))
 rw [hvl] at R2
 have HG2 := Lib.hid hg2
 have HM2 := Lib.hid hm2
 have HB2 := Lib.hid (HB1.out.grown hg2 hs1 (fun k e => by cases e; exact HE1.out.mbase))
 have y0 := X2.out.cell 0 rfl
 have hs2 : B ≤ w2.heap.size := Nat.le_trans hs1 hg2.size
 have hx2 := X2.out.lt
 clear hg2 hm2 mblk
 go_wp2_with (at_builtin; refine wpList_append_own_at _ rfl _ _ 43 rfl B 48 i0 (.slice none 0 0) 1 24 Tryz.underlying43 hi hz0 hz1 hz2 rfl (by decide) _ _ _ rfl (R2.out.alloc _) ⟨w2.heap.size, 0, none⟩ 1 1 [.slice ar RL cr] rfl rfl ?c1 ?c2 ?c3 ?c4 ?c5 ?_)
 case c1 => exact (cell_one_new _ _ _)
 case c2 => first | rfl | (intro u hu; simp at hu; subst hu; rfl)
 case c3 => first | omega | (simp [maxLen]; omega)
 case c4 => first | omega | (simp; omega)
 case c5 => first | omega | (simp; omega)
 intro v4 w4 ho4 hg4 _ _
 obtain ⟨a4, c4, rfl, -, -⟩ := owns_slice ho4
 have hal : Below w2.heap.size w2 (w2.alloc (.cells #[.slice ar RL cr] 48)) := (Below.refl _ _).alloc (Nat.le_refl _) _
 have HF := Lib.hid (ExpAt.grow (B2 := B2) (r := r) HE1.out HG2.out HM2.out hal hg4 (by rw [hvl]; exact ho4) HLOW.out hB2 (by rw [← HRL.out]; exact HV1.out))
 have hne : some xb ≠ (Value.slice a0 N c0).ownBlock := blk_own_ne' X2.out R2.out (by decide)
 have hsv : w4.heap.size ≥ w2.heap.size := by have h1 := hal.size; have h2 := hg4.size; omega
 have z0 : w4.cell? ⟨xb, 0, none⟩ = some (.slice a0 N c0) := (hg4.cell_far ⟨xb, 0, none⟩ (by simp; omega) hne).trans (keeps hal hx2 y0)
 have z1 : w4.frozen? ⟨xb, 0, none⟩ = false := (hg4.frozen_far ⟨xb, 0, none⟩ (by simp; omega) hne).trans ((hal.frozen (p := ⟨xb, 0, none⟩) hx2).trans (X2.out.frozen 0))
 have HB4 : Hid (Below B w w4) := (HB2.out.trans (hal.mono hs2)).grown hg4 (by simp; omega) (fun b e => (R2.out.lt b e).1)
 clear ho4 hg4 hal hup y0 x0 x1 hlk
 go_wp2
 go_ret
 refine ⟨by rw [← HNN.out]; rfl, HB4.out.setCell HE1.out.base _, _, HF.out⟩

end Go.Proofs.YtodojigmhlkpeaaGreatDoor

namespace Go.Proofs.YtodojigmhlkpeaaGreatDoor
open Go Go.RowKit

theorem info_arc : (Tryz.prog.info? 125).map (fun i => (i.zero, i.size, i.bytes)) = some (some (.agg #[.int .i64 0, .string ⟨#[]⟩, .int .i64 0]), 3, 32) := by kernel_rfl

end Go.Proofs.YtodojigmhlkpeaaGreatDoor
