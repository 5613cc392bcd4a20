/-
  What the explorer's find computes: the place of a set among the rows, a new row for a new set.
  What the explorer's closure computes: one arc more, and its set's row.
  A row of the net stays where it is.
  What determinize's closure over the labels computes: all steps from one row.
  The two comparisons that the implementation sorts by: labels (tau first), edges.
-/
import Derived.Test.YtbbffbnfppbibaaGreatDoorCt11
import Derived.Deep.RegionHeld3
import Derived.Test.YtbbffbnfppbibaaGreatDoorCt9
import Derived.Test.YtbbffbnfppbibaaGreatDoorCt5
import Derived.Test.YtbbffbnfppbibaaGreatDoorCt8
import Derived.Test.YtbbffbnfppbibaaGreatDoorCt6
import Derived.Lib.Bytealg
import Derived.Sort.Grow
import Derived.Shelf.SlSortCmp.NoneTotal
namespace Go.Proofs.YtbbffbnfppbibaaGreatDoor
open Go Go.RowKit

theorem blk_map_ne' {w : World} {b : Nat} {cs : List Value} {t : TypeId} (h : Blk w b cs t) {m : Nat} {es : Array MapEntry} {c : Nat} (hm : w.heap[m]? = some (.map es c)) : b ≠ m := by
  intro e
  subst e
  unfold Blk at h
  rw [h] at hm
  cases hm
theorem blk_own_ne' {w : World} {b : Nat} {cs : List Value} {t : TypeId} (h : Blk w b cs t) {base e size n : Nat} {v : Value} {xs : List Value} (ho : w.ownsRow base e size v n xs) (he : e ≠ t) : some b ≠ v.ownBlock := by
  rcases own_type_ne ho (show w.heap[b]? = some (.cells cs.toArray t (0, 0)) from h) he with h | h
  · rw [h]; simp
  · exact fun e => h e.symm
theorem blk_blk_ne {w : World} {b c : Nat} {cs ds : List Value} {t u : TypeId} (h : Blk w b cs t) (k : Blk w c ds u) (he : t ≠ u) : b ≠ c := by
  intro e
  subst e
  unfold Blk at h k
  rw [h] at k
  simp only [Option.some.injEq, Obj.cells.injEq] at k
  exact he k.2.1

/-- A set that can be a row: not empty, its numbers small. -/
structure RowOk (r : List Int) : Prop where
  ne : r ≠ []
  len : r.length ≤ 40
  low : ∀ x ∈ r, 0 ≤ x ∧ x < 40
theorem RowOk.i64 {r : List Int} (h : RowOk r) : ∀ x ∈ r, -9223372036854775808 ≤ x ∧ x ≤ 9223372036854775807 := fun x hx => by have := h.low x hx; omega
theorem RowOk.size {r : List Int} (h : RowOk r) : (keyT r).size ≤ 1048576 := by have := keyT_size h.i64; have := h.len; omega
theorem RowOk.key {r : List Int} (h : RowOk r) : ∃ l, keyOf Tryz.prog 9 (keyV r) = some l := keyOfS _ h.size
theorem RowOk.inj {a b : List Int} (ha : RowOk a) (hb : RowOk b) (h : keyV a = keyV b) : a = b :=
  keyT_inj ha.ne hb.ne (fun x hx => (ha.low x hx).1) (fun x hx => (hb.low x hx).1) (by unfold keyV at h; exact Value.string.inj h)
theorem keysV_nodup {rows : List (List Int)} (hd : rows.Nodup) (ho : ∀ r ∈ rows, RowOk r) : (rows.map keyV).Nodup := by
  rw [List.nodup_iff_pairwise_ne, List.pairwise_map]
  refine List.Pairwise.imp_of_mem ?_ (List.nodup_iff_pairwise_ne.1 hd)
  intro a b ha hb hne e
  exact hne ((ho a ha).inj (ho b hb) e)

theorem keyfn_any (lo : Nat) (rv : Value) (r : List Int) (w : World) (hr : RowOk r) (hs : SliceK 1 encI lo w rv r) (g : Glob w) :
    Calls Tryz.prog 76 #[rv] w fun e w' => e = .returned (keyV r) ∧ Below w.heap.size w w' := by
  have HJ := Lib.hid (joined_any rv ⟨#[44]⟩ lo r w (by have := hr.len; omega) (fun i hi => hr.i64 _ (List.getElem_mem hi)) hs g (by
    have h1 := keyT_len hr.i64
    have h2 := hr.len
    show (Lib.join ((wordsOf r).map (·.data.toList)) [44]).length ≤ 1073741824
    omega))
  clear hs g
  go_enter Tryz.func76, Tryz.ntmps76
  go_wp2_with fail
  refine Calls.mono HJ.out ?_
  rintro e w1 ⟨rfl, hb⟩
  have HB := Lib.hid hb
  clear hb HJ
  go_wp2
  go_ret
  exact ⟨rfl, HB.out⟩

/-- After the map and the list have grown. -/
theorem ExpAt.grow {on : Bool} {B xb mb pb ib rb i B2 : Nat} {t : Lts} {st : DNet} {sv av sv' rv : Value} {vs : List Value} {r : List Int} {w1 w2 w3 w4 : World} (h : ExpAt B xb mb pb ib rb on i t st sv av vs w1) (hg2 : w1.grownBy w2 (some mb)) (hm2 : NumMap .i64 w2 mb (st.rows.map keyV ++ [keyV r]))
    (hb3 : Below w2.heap.size w2 w3) (hg4 : w3.grownBy w4 sv.ownBlock) (ho4 : w4.ownsRow B 60 1 sv' (vs.length + 1) (vs ++ [rv])) (hlow : ∀ (i : Nat) (h : i < vs.length) b, vs[i].ownBlock = some b → b < B2) (hB2 : B ≤ B2)
    (hr : w1.ownsRow B2 2 1 rv r.length (r.map (Value.int .i64))) :
    ExpAt B xb mb pb ib rb on i t ⟨st.rows ++ [r], st.edges⟩ sv' av (vs ++ [rv]) (w4.setCell ⟨xb, 0, none⟩ sv') := by
  have mblk : w1.heap[mb]? = some (.map (((st.rows.map keyV).mapIdx fun i k => (⟨k, .int .i64 i, i⟩ : MapEntry)).toArray) (st.rows.map keyV).length) := h.map
  have X2 := (h.box.below (Below.refl _ _)) 
  have X2 : Blk w2 xb _ _ := (hg2.block xb h.box.lt (fun e => blk_map_ne' h.box mblk (Option.some.inj e))).trans h.box
  have P2 : Blk w2 pb _ _ := (hg2.block pb h.ptr.lt (fun e => blk_map_ne' h.ptr mblk (Option.some.inj e))).trans h.ptr
  have I2 := fun (ho : on = true) => (show Blk w2 ib [.int .i64 i] 3 from (hg2.block ib (h.idx ho).lt (fun e => blk_map_ne' (h.idx ho) mblk (Option.some.inj e))).trans (h.idx ho))
  have S2 : Blk w2 rb _ _ := (hg2.block rb h.res.lt (fun e => blk_map_ne' h.res mblk (Option.some.inj e))).trans h.res
  have R2 := h.rows.kept hg2 (own_map_ne h.rows.2.1 mblk) (fun j hj => own_map_ne (h.rows.2.2.1 j hj (by rw [← h.rows.1]; exact hj)) mblk)
  have A2 := h.arcs.kept hg2 (own_map_ne h.arcs mblk)
  have V2 := hr.kept hg2 (own_map_ne hr mblk)
  have X3 := X2.below hb3
  have P3 := P2.below hb3
  have I3 := fun ho => (I2 ho).below hb3
  have S3 := S2.below hb3
  have R3 := R2.below hb3
  have A3 := owns_below A2 hb3
  have V3 := owns_below V2 hb3
  have M3 := hm2.below hb3
  have X4 : Blk w4 xb _ _ := (hg4.block xb X3.lt (blk_own_ne' X3 R3.2.1 (by decide))).trans X3
  have P4 : Blk w4 pb _ _ := (hg4.block pb P3.lt (blk_own_ne' P3 R3.2.1 (by decide))).trans P3
  have I4 := fun (ho : on = true) => (show Blk w4 ib [.int .i64 i] 3 from (hg4.block ib (I3 ho).lt (blk_own_ne' (I3 ho) R3.2.1 (by decide))).trans (I3 ho))
  have S4 : Blk w4 rb _ _ := (hg4.block rb S3.lt (blk_own_ne' S3 R3.2.1 (by decide))).trans S3
  have M4 := M3.kept hg4 (fun e => by
    rcases own_map_ne R3.2.1 M3 with h | h
    · rw [h] at e; cases e
    · exact h e.symm)
  have A4 := A3.kept hg4 (own_types A3 R3.2.1 (by decide))
  have R4 := OwnIntss.pushB (by decide) R3 hlow V3 hB2 hg4 ho4
  have hs := grown_setCell w4 ⟨xb, 0, none⟩ sv'
  refine ⟨h.base, h.mbase, h.pbase, h.ibase, h.rbase, X4.set 0 sv', P4.setOther _ _ (blk_blk_ne P4 X4 (by decide)), (fun ho => (I4 ho).setOther _ _ (blk_blk_ne (I4 ho) X4 (by decide))), S4.setOther _ _ (blk_blk_ne S4 X4 (by decide)), ?_, ?_, ?_⟩
  · exact R4.kept hs (own_type_ne R4.2.1 X4 (by decide)) (fun j hj => own_type_ne (R4.2.2.1 j hj (by rw [← R4.1]; exact hj)) X4 (by decide))
  · have := M4.kept hs (fun e => blk_map_ne' X4 M4 (Option.some.inj e).symm)
    simpa using this
  · exact A4.kept hs (own_type_ne A4 X4 (by decide))

set_option maxRecDepth 100000 in
set_option maxHeartbeats 2000000 in
theorem findS_old (B xb mb pb ib rb : Nat) (on : Bool) (i B2 : Nat) (t : Lts) (st : DNet) (sv av rv : Value) (vs : List Value) (r : List Int) (w : World) (h : ExpAt B xb mb pb ib rb on i t st sv av vs w) (hd : st.rows.Nodup) (hok : ∀ r ∈ st.rows, RowOk r) (hr : RowOk r)
    (hv : w.ownsRow B2 2 1 rv r.length (r.map (Value.int .i64))) (hm : r ∈ st.rows) (g : Glob w) :
    Calls Tryz.prog 96 #[.pointer (some ⟨xb, 0, none⟩), rv] w fun e w' => e = .returned (.int .i64 (dplace st.rows r)) ∧ Below w.heap.size w w' := by
  have hpl := dplace_lt.2 hm
  have hpk : dplace st.rows r < (st.rows.map keyV).length := by rw [List.length_map]; exact hpl
  have HL := Lib.hid (fun (w' : World) (hm : NumMap .i64 w' mb (st.rows.map keyV)) => hm.found keyedS underMapS (fun v hv => by obtain ⟨q', hq', rfl⟩ := List.mem_map.1 hv; exact (hok q' hq').key) (keysV_nodup hd hok) hpk)
  have hk3 : (st.rows.map keyV)[dplace st.rows r] = keyV r := by rw [List.getElem_map, dplace_get hpl]
  rw [hk3] at HL
  obtain ⟨n, hn⟩ : ∃ n, n = dplace st.rows r := ⟨_, rfl⟩
  rw [← hn] at HL
  have HN := Lib.hid hn
  have HK := Lib.hid (keyfn_any B2 rv r w hr (SliceK.of_owns (enc := encI) encI_len rfl (by rw [flat_encI]; exact hv)) g)
  have HE := Lib.hid h
  have x3 := h.box.cell 3 rfl
  have hxl := h.box.lt
  clear h hd hok hr hv hm g hpl hpk hk3 hn
  go_enter Tryz.func96, Tryz.ntmps96
  go_wp2_with fail
  refine Calls.mono HK.out ?_
  rintro e w1 ⟨rfl, hb1⟩
  have HB1 := Lib.hid hb1
  have x1 := (HE.out.below hb1).box.cell 1 rfl
  have hlk := HL.out w1 (HE.out.map.below hb1)
  unfold keyV at hlk ⊢
  clear hb1 HK x3
  go_wp2
  go_ret
  exact ⟨by rw [← HN.out]; rfl, HB1.out⟩

theorem info_intsF : (Tryz.prog.info? 60).map (fun i => (i.zero, i.size, i.bytes)) = some (some (.slice none 0 0), 1, 24) := by kernel_rfl

set_option maxRecDepth 100000 in
set_option maxHeartbeats 4000000 in
theorem findS_new (B xb mb pb ib rb : Nat) (on : Bool) (i B2 : Nat) (t : Lts) (st : DNet) (sv av rv : Value) (vs : List Value) (r : List Int) (w : World) (hB : B ≤ w.heap.size) (h : ExpAt B xb mb pb ib rb on i t st sv av vs w) (hd : st.rows.Nodup) (hok : ∀ r ∈ st.rows, RowOk r) (hr : RowOk r)
    (hlow : ∀ (i : Nat) (h : i < vs.length) b, vs[i].ownBlock = some b → b < B2) (hB2 : B ≤ B2) (hv : w.ownsRow B2 2 1 rv r.length (r.map (Value.int .i64))) (hm : r ∉ st.rows) (hfew : st.rows.length ≤ 1000) (g : Glob w) :
    Calls Tryz.prog 96 #[.pointer (some ⟨xb, 0, none⟩), rv] w fun e w' => e = .returned (.int .i64 st.rows.length) ∧ Below B w w' ∧ ∃ sv', ExpAt B xb mb pb ib rb on i t ⟨st.rows ++ [r], st.edges⟩ sv' av (vs ++ [rv]) w' := by
  have hks : ∀ v ∈ st.rows.map keyV, ∃ l, keyOf Tryz.prog 9 v = some l := fun v hv => by obtain ⟨q', hq', rfl⟩ := List.mem_map.1 hv; exact (hok q' hq').key
  obtain ⟨kl, hkl⟩ := hr.key
  have hkn : keyV r ∉ st.rows.map keyV := fun hmm => by obtain ⟨q', hq', e⟩ := List.mem_map.1 hmm; rw [(hok q' hq').inj hr e] at hq'; exact hm hq'
  have HL := Lib.hid (fun (w' : World) (hm : NumMap .i64 w' mb (st.rows.map keyV)) => hm.missing keyedS underMapS hks (zeroI64 w') hkl hkn)
  have HU := Lib.hid (fun (w' : World) (hm : NumMap .i64 w' mb (st.rows.map keyV)) => hm.store keyedS underMapS hks hkl hkn (by rw [List.length_map]; unfold maxLen; omega))
  rw [List.length_map] at HU
  have HK := Lib.hid (keyfn_any B2 rv r w hr (SliceK.of_owns (enc := encI) encI_len rfl (by rw [flat_encI]; exact hv)) g)
  have HE := Lib.hid h
  have HV := Lib.hid hv
  have HLOW := Lib.hid hlow
  have x3 := h.box.cell 3 rfl
  have hxl := h.box.lt
  have hvl : vs.length = st.rows.length := h.rows.1
  obtain ⟨a0, c0, rfl, -, -⟩ := owns_slice h.rows.2.1
  obtain ⟨ar, cr, rfl, -, -⟩ := owns_slice hv
  obtain ⟨N, hN⟩ : ∃ N, N = st.rows.length := ⟨_, rfl⟩
  rw [← hN] at HU hfew hvl
  rw [hvl] at HE
  have HNN := Lib.hid hN
  obtain ⟨RL, hRL⟩ : ∃ RL, RL = r.length := ⟨_, rfl⟩
  rw [← hRL] at HV HK
  rw [← hRL]
  have HRL := Lib.hid hRL
  have HBB := Lib.hid hB
  obtain ⟨i0, hi, hz0, hz1, hz2⟩ := info_parts info_intsF
  clear h hd hok hr hv hm g hN hks hkl hkn hlow hRL hB
  go_enter Tryz.func96, Tryz.ntmps96
  go_wp2_with fail
  refine Calls.mono HK.out ?_
  rintro e w1 ⟨rfl, hb1⟩
  have HB1 := Lib.hid (Below.mono hb1 HBB.out)
  have HE1 := Lib.hid (HE.out.below hb1)
  have HV1 := Lib.hid (owns_below HV.out hb1)
  have x1 := HE1.out.box.cell 1 rfl
  have x0 := HE1.out.box.cell 0 rfl
  have hlk := HL.out w1 HE1.out.map
  obtain ⟨w2, hup, hm2, hg2⟩ := HU.out w1 HE1.out.map
  unfold keyV at hlk hup ⊢
  have hs1 : B ≤ w1.heap.size := Nat.le_trans HBB.out hb1.size
  clear hb1 HK x3 HE HV
  have mblk : w1.heap[mb]? = some (.map (((st.rows.map keyV).mapIdx fun i k => (⟨k, .int .i64 i, i⟩ : MapEntry)).toArray) (st.rows.map keyV).length) := HE1.out.map
  have X2 : Hid (Blk w2 xb _ _) := (hg2.block xb HE1.out.box.lt (fun e => blk_map_ne' HE1.out.box mblk (Option.some.inj e))).trans HE1.out.box
  have R2 := Lib.hid (HE1.out.rows.2.1.kept hg2 (own_map_ne HE1.out.rows.2.1 mblk))
  rw [hvl] at R2
  have HG2 := Lib.hid hg2
  have HM2 := Lib.hid hm2
  have HB2 := Lib.hid (HB1.out.grown hg2 hs1 (fun k e => by cases e; exact HE1.out.mbase))
  have y0 := X2.out.cell 0 rfl
  have hs2 : B ≤ w2.heap.size := Nat.le_trans hs1 hg2.size
  have hx2 := X2.out.lt
  clear hg2 hm2 mblk
  go_wp2_with (at_builtin; refine wpList_append_own_at _ rfl _ _ 35 rfl B 60 i0 (.slice none 0 0) 1 24 Tryz.underlying35 hi hz0 hz1 hz2 rfl (by decide) _ _ _ rfl (R2.out.alloc _) ⟨w2.heap.size, 0, none⟩ 1 1 [.slice ar RL cr] rfl rfl ?c1 ?c2 ?c3 ?c4 ?c5 ?_)
  case c1 => exact (cell_one_new _ _ _)
  case c2 => first | rfl | (intro u hu; simp at hu; subst hu; rfl)
  case c3 => first | omega | (simp [maxLen]; omega)
  case c4 => first | omega | (simp; omega)
  case c5 => first | omega | (simp; omega)
  intro v4 w4 ho4 hg4 _ _
  obtain ⟨a4, c4, rfl, -, -⟩ := owns_slice ho4
  have hal : Below w2.heap.size w2 (w2.alloc (.cells #[.slice ar RL cr] 60)) := (Below.refl _ _).alloc (Nat.le_refl _) _
  have HF := Lib.hid (ExpAt.grow (B2 := B2) (r := r) HE1.out HG2.out HM2.out hal hg4 (by rw [hvl]; exact ho4) HLOW.out hB2 (by rw [← HRL.out]; exact HV1.out))
  have hne : some xb ≠ (Value.slice a0 N c0).ownBlock := blk_own_ne' X2.out R2.out (by decide)
  have hsv : w4.heap.size ≥ w2.heap.size := by have h1 := hal.size; have h2 := hg4.size; omega
  have z0 : w4.cell? ⟨xb, 0, none⟩ = some (.slice a0 N c0) := (hg4.cell_far ⟨xb, 0, none⟩ (by simp; omega) hne).trans (keeps hal hx2 y0)
  have z1 : w4.frozen? ⟨xb, 0, none⟩ = false := (hg4.frozen_far ⟨xb, 0, none⟩ (by simp; omega) hne).trans ((hal.frozen (p := ⟨xb, 0, none⟩) hx2).trans (X2.out.frozen 0))
  have HB4 : Hid (Below B w w4) := (HB2.out.trans (hal.mono hs2)).grown hg4 (by simp; omega) (fun b e => (R2.out.lt b e).1)
  clear ho4 hg4 hal hup y0 x0 x1 hlk
  go_wp2
  go_ret
  refine ⟨by rw [← HNN.out]; rfl, HB4.out.setCell HE1.out.base _, _, HF.out⟩

end Go.Proofs.YtbbffbnfppbibaaGreatDoor

namespace Go.Proofs.YtbbffbnfppbibaaGreatDoor
open Go Go.RowKit

theorem findS_any (B xb mb pb ib rb : Nat) (on : Bool) (i B2 : Nat) (t : Lts) (st : DNet) (sv av rv : Value) (vs : List Value) (r : List Int) (w : World) (hB : B ≤ w.heap.size) (h : ExpAt B xb mb pb ib rb on i t st sv av vs w) (hd : st.rows.Nodup) (hok : ∀ r ∈ st.rows, RowOk r) (hr : RowOk r)
    (hlow : ∀ (i : Nat) (h : i < vs.length) b, vs[i].ownBlock = some b → b < B2) (hB2 : B ≤ B2) (hv : w.ownsRow B2 2 1 rv r.length (r.map (Value.int .i64))) (hfew : st.rows.length ≤ 1000) (g : Glob w) :
    Calls Tryz.prog 96 #[.pointer (some ⟨xb, 0, none⟩), rv] w fun e w' => e = .returned (.int .i64 (dplace st.rows r)) ∧ Below B w w' ∧ ∃ sv' vs', ExpAt B xb mb pb ib rb on i t ⟨dadd st.rows r, st.edges⟩ sv' av vs' w' ∧ ∃ tail, vs' = vs ++ tail := by
  by_cases hm : r ∈ st.rows
  · refine (findS_old B xb mb pb ib rb on i B2 t st sv av rv vs r w h hd hok hr hv hm g).mono ?_
    rintro e w' ⟨rfl, hb⟩
    refine ⟨rfl, hb.mono hB, sv, vs, ?_, [], by simp⟩
    unfold dadd
    rw [if_pos (dplace_lt.2 hm)]
    exact h.below hb
  · refine (findS_new B xb mb pb ib rb on i B2 t st sv av rv vs r w hB h hd hok hr hlow hB2 hv hm hfew g).mono ?_
    rintro e w' ⟨rfl, hb, sv', hE⟩
    have hn : ¬ dplace st.rows r < st.rows.length := fun h => hm (dplace_lt.1 h)
    have hp : dplace st.rows r = st.rows.length := by have := dplace_le st.rows r; omega
    refine ⟨by rw [hp], hb, sv', vs ++ [rv], ?_, [rv], rfl⟩
    unfold dadd
    rw [if_neg hn]
    exact hE

/-- After the list of arcs has grown. -/
theorem ExpAt.arc {on : Bool} {B xb mb pb ib rb i : Nat} {t : Lts} {st : DNet} {e : Edge} {sv av av' : Value} {vs : List Value} {w1 w2 w3 : World} (h : ExpAt B xb mb pb ib rb on i t st sv av vs w1) (hb : Below w1.heap.size w1 w2) (hg : w2.grownBy w3 av.ownBlock)
    (ho : w3.ownsRow B 129 3 av' (st.edges.length + 1) (st.edges.flatMap (encA t) ++ encA t e)) : ExpAt B xb mb pb ib rb on i t ⟨st.rows, st.edges ++ [e]⟩ sv av' vs (w3.setCell ⟨xb, 2, none⟩ av') := by
  have H2 := h.below hb
  have X3 : Blk w3 xb _ _ := (hg.block xb H2.box.lt (blk_own_ne' H2.box H2.arcs (by decide))).trans H2.box
  have P3 : Blk w3 pb _ _ := (hg.block pb H2.ptr.lt (blk_own_ne' H2.ptr H2.arcs (by decide))).trans H2.ptr
  have I3 := fun (ho : on = true) => (show Blk w3 ib [.int .i64 i] 3 from (hg.block ib (H2.idx ho).lt (blk_own_ne' (H2.idx ho) H2.arcs (by decide))).trans (H2.idx ho))
  have S3 : Blk w3 rb _ _ := (hg.block rb H2.res.lt (blk_own_ne' H2.res H2.arcs (by decide))).trans H2.res
  have M3 := H2.map.kept hg (fun e => by
    rcases own_map_ne H2.arcs H2.map with h | h
    · rw [h] at e; cases e
    · exact h e.symm)
  have R3 := H2.rows.kept hg (own_types H2.rows.2.1 H2.arcs (by decide)) (fun j hj => own_types (H2.rows.2.2.1 j hj (by rw [← H2.rows.1]; exact hj)) H2.arcs (by decide))
  have hs := grown_setCell w3 ⟨xb, 2, none⟩ av'
  refine ⟨h.base, h.mbase, h.pbase, h.ibase, h.rbase, X3.set 2 av', P3.setOther _ _ (blk_blk_ne P3 X3 (by decide)), (fun ho => (I3 ho).setOther _ _ (blk_blk_ne (I3 ho) X3 (by decide))), S3.setOther _ _ (blk_blk_ne S3 X3 (by decide)), ?_, ?_, ?_⟩
  · exact R3.kept hs (own_type_ne R3.2.1 X3 (by decide)) (fun j hj => own_type_ne (R3.2.2.1 j hj (by rw [← R3.1]; exact hj)) X3 (by decide))
  · exact M3.kept hs (fun e => blk_map_ne' X3 M3 (Option.some.inj e).symm)
  · have := ho.kept hs (own_type_ne ho X3 (by decide))
    simpa using this

theorem info_arc : (Tryz.prog.info? 129).map (fun i => (i.zero, i.size, i.bytes)) = some (some (.agg #[.int .i64 0, .string ⟨#[]⟩, .int .i64 0]), 3, 32) := by kernel_rfl

set_option maxRecDepth 100000 in
set_option maxHeartbeats 4000000 in
theorem to_any (B xb mb pb ib rb i k B2 : Nat) (t : Lts) (st : DNet) (sv av rv : Value) (vs : List Value) (r : List Int) (w : World) (hB : B ≤ w.heap.size) (h : ExpAt B xb mb pb ib rb true i t st sv av vs w) (hd : st.rows.Nodup) (hok : ∀ r ∈ st.rows, RowOk r) (hr : RowOk r)
    (hlow : ∀ (i : Nat) (h : i < vs.length) b, vs[i].ownBlock = some b → b < B2) (hB2 : B ≤ B2) (hv : w.ownsRow B2 2 1 rv r.length (r.map (Value.int .i64))) (hfew : st.rows.length ≤ 1000) (hfe : st.edges.length ≤ 1000) (g : Glob w) (l : ByteArray) (hl : t.labels.getD k ByteArray.empty = l) :
    Calls Tryz.prog 97 #[.string l, rv, .pointer (some ⟨pb, 0, none⟩), .pointer (some ⟨ib, 0, none⟩)] w fun e w' => e = .returned (.tuple #[]) ∧ Below B w w'
      ∧ ∃ sv' av' vs', ExpAt B xb mb pb ib rb true i t ⟨dadd st.rows r, st.edges ++ [⟨(i : Int), (k : Int), (dplace st.rows r : Int)⟩]⟩ sv' av' vs' w' ∧ ∃ tail, vs' = vs ++ tail := by
  have hD : Below w.heap.size w w.drew := (Below.refl _ _).drew
  have HF := Lib.hid (findS_any B xb mb pb ib rb true i B2 t st sv av rv vs r w.drew hB (h.below hD) hd hok hr hlow hB2 (owns_below hv hD) hfew (g.below hD))
  have HE := Lib.hid h
  have p0 := h.ptr.cell 0 rfl
  have q0 := (h.idx rfl).cell 0 rfl
  have x2 := h.box.cell 2 rfl
  have hpl := h.ptr.lt
  have hil := (h.idx rfl).lt
  have hxl := h.box.lt
  have hbx := h.base
  have P0 := keeps hD hpl p0
  have Q0 := keeps hD hil q0
  have X2 := keeps hD hxl x2
  have HBD := Lib.hid (Below.mono hD hB)
  have nepx : xb ≠ pb := blk_blk_ne h.box h.ptr (by decide)
  have neix : xb ≠ ib := blk_blk_ne h.box (h.idx rfl) (by decide)
  obtain ⟨aa, ca, rfl, -, -⟩ := owns_slice h.arcs
  have hle : st.edges.length = st.edges.length := rfl
  obtain ⟨E, hE⟩ : ∃ E, E = st.edges.length := ⟨_, rfl⟩
  rw [← hE] at HE hfe x2 X2
  have HEE := Lib.hid hE
  have HBB := Lib.hid hB
  have HL := Lib.hid hl
  obtain ⟨d, hd2⟩ : ∃ d, d = dplace st.rows r := ⟨_, rfl⟩
  rw [← hd2] at HF ⊢
  rw [← hE] at HF
  obtain ⟨i0, hi, hz0, hz1, hz2⟩ := info_parts info_arc
  clear h hd hok hr hlow hv g hl hD hle hE hd2 hB
  go_enter Tryz.func97, Tryz.ntmps97
  go_region_held3 (fun w' => w'.cell? ⟨pb, 0, none⟩ = some (.pointer (some ⟨xb, 0, none⟩)) ∧ w'.cell? ⟨ib, 0, none⟩ = some (.int .i64 i))
    (first
      | (refine ⟨?_, ?_⟩ <;> assumption)
      | (refine ⟨?_, ?_⟩ <;> (rw [cell_set_other (by first | exact fun e => nepx e.symm | exact fun e => neix e.symm)]; assumption))
      | go_keep)
    (first
      | (go_at_call 96; refine Calls.mono HF.out ?_; rintro e w9 ⟨rfl, hb9, sv9, vs9, he9, tail9, ht9⟩; have k0 := he9.ptr.cell 0 rfl; have k1 := (he9.idx rfl).cell 0 rfl; have k2 := he9.box.cell 2 rfl; have hx9 := he9.box.lt; have hp9 := he9.ptr.lt; have hi9 := (he9.idx rfl).lt; have HE9 := Lib.hid he9; have HA9 : Hid (w9.ownsRow B 129 3 (.slice aa E ca) E (st.edges.flatMap (encA t))) := (by have hx := he9.arcs; simp only at hx; rw [← HEE.out] at hx; exact hx); have nx9 : some xb ≠ (Value.slice aa E ca).ownBlock := blk_own_ne' he9.box HA9.out (by decide); have np9 : some pb ≠ (Value.slice aa E ca).ownBlock := blk_own_ne' he9.ptr HA9.out (by decide); have ni9 : some ib ≠ (Value.slice aa E ca).ownBlock := blk_own_ne' (he9.idx rfl) HA9.out (by decide); have hB9 : B ≤ w9.heap.size := Nat.le_trans hbx (Nat.le_of_lt hx9); clear he9)
      | (refine step_append_lies _ (by rfl) _ _ _ (by rfl) B 129 i0 _ 3 32 Tryz.underlying106 hi hz0 hz1 hz2 rfl (by omega) (.slice aa E ca) E _ (by rfl) (HA9.out.alloc _) ⟨w9.heap.size, 0, none⟩ 1 1 [.int .i64 i, .string l, .int .i64 d] (by rfl) (by rfl) (World.news_of_block (cs := #[.int .i64 i, .string l, .int .i64 d]) (t := 129) (fr := (0, 0)) (heap_alloc_new _ _)) (by simp [Value.oneCell']) (by omega) (by simp [maxLen]; omega) (by omega) (by simp; omega) (w9.heap.size + 1) (by simp) ?_; intro gg cap w5 hown5 hgrow5 hat5 hlt5; have hA5 : Below w9.heap.size w9 (w9.alloc (.cells #[.int .i64 i, .string l, .int .i64 d] 129)) := (Below.refl _ _).alloc (Nat.le_refl _) _; have z1 : w5.frozen? ⟨xb, 2, none⟩ = false := (hgrow5.frozen_far ⟨xb, 2, none⟩ (by simp; omega) nx9).trans ((hA5.frozen (p := ⟨xb, 2, none⟩) hx9).trans (HE9.out.box.frozen 2)); have z2 := (hgrow5.cell_far ⟨xb, 2, none⟩ (by simp; omega) nx9).trans (keeps hA5 hx9 k2); have z3 := (hgrow5.cell_far ⟨pb, 0, none⟩ (by simp; omega) np9).trans (keeps hA5 hp9 k0); have z4 := (hgrow5.cell_far ⟨ib, 0, none⟩ (by simp; omega) ni9).trans (keeps hA5 hi9 k1)))
  all_goals (
    obtain ⟨av', hav'⟩ : ∃ av', av' = Value.slice (some ⟨gg, 0, none⟩) (E + 1) cap := ⟨_, rfl⟩
    rw [← hav'] at hown5 ⊢
    have hlab : encA t ⟨(i : Int), (k : Int), (d : Int)⟩ = [.int .i64 i, .string l, .int .i64 d] := by
      unfold encA labAt
      rw [← HL.out]
      rfl
    have HF5 := Lib.hid (ExpAt.arc (e := ⟨(i : Int), (k : Int), (d : Int)⟩) HE9.out hA5 hgrow5 (by rw [hlab]; have hx := hown5; rw [HEE.out] at hx; exact hx))
    have HB5 : Hid (Below B w w5) := ((HBD.out.trans (hb9.trans (hA5.mono hB9))).grown hgrow5 (by simp; omega) (fun b e => (HA9.out.lt b e).1))
    have HT := Lib.hid ht9
    clear hown5 hgrow5 hat5 hlt5 hav' z1 z2 z3 z4 k0 k1 k2 P0 Q0 X2 p0 q0 x2 hb9 ht9
    go_wp2
    go_end0
    exact ⟨rfl, HB5.out.setCell hbx _, sv9, av', vs9, HF5.out, tail9, HT.out⟩)

end Go.Proofs.YtbbffbnfppbibaaGreatDoor

namespace Go.Proofs.YtbbffbnfppbibaaGreatDoor
open Go Go.RowKit

theorem dmid_rowAt {t : Lts} {n : Nat} {cur : List Int} {st : DNet} (h : st.rows[n]? = some cur) (j : Nat) : (dmid t n cur st j).rows[n]? = some cur := by
  obtain ⟨⟨r, hr⟩, -⟩ := dmid_le t n cur st 0 j
  rw [Nat.zero_add, dmid_zero] at hr
  rw [hr, List.getElem?_append_left (List.getElem?_eq_some_iff.1 h).1]
  exact h

end Go.Proofs.YtbbffbnfppbibaaGreatDoor

namespace Go.Proofs.YtbbffbnfppbibaaGreatDoor
open Go Go.RowKit

theorem dmid_few (t : Lts) (i : Nat) (cur : List Int) (st : DNet) : ∀ j, (dmid t i cur st j).rows.length ≤ st.rows.length + j ∧ (dmid t i cur st j).edges.length ≤ st.edges.length + j
  | 0 => by rw [dmid_zero]; omega
  | j + 1 => by
    have h := dmid_few t i cur st j
    rw [dmid_succ]
    unfold dstep
    split
    · omega
    · constructor
      · show (dadd _ _).length ≤ _
        unfold dadd
        split
        · omega
        · rw [List.length_append, List.length_singleton]; omega
      · show ((dmid t i cur st j).edges ++ [_]).length ≤ _
        rw [List.length_append, List.length_singleton]; omega
theorem dAt_few {t : Lts} (h : t.labels.length ≤ 12) : ∀ n, (dAt t n).edges.length ≤ 11 * n
  | 0 => by simp [dAt]
  | n + 1 => by
    have h1 := dAt_few h n
    rw [dAt]
    unfold drow
    split
    · omega
    · next cur _ =>
      have := (dmid_few t n cur (dAt t n) (t.labels.length - 1)).2
      omega
theorem DGood.rowOk {t : Lts} (hv : Valid t) {st : DNet} (h : DGood t st) : ∀ r ∈ st.rows, RowOk r := by
  intro r hr
  obtain ⟨h1, h2, h3⟩ := h.rows r hr
  have h4 := hv.st1
  refine ⟨h3, few_states ?_ h1 h4, fun x hx => by have := h1 x hx; omega⟩
  rw [List.nodup_iff_pairwise_ne]
  exact h2.imp fun h => by omega
theorem next_rowOk {t : Lts} (hv : Valid t) {cur : List Int} {k : Int} (h : nextS t cur k ≠ []) : RowOk (nextS t cur k) := by
  have hs := nextS_is hv cur k
  have h1 : ∀ x ∈ nextS t cur k, 0 ≤ x ∧ x < t.states := fun x hx => clos.inside hv (fun y hy => behindP_in hv hy) x ((hs.mem x).1 hx)
  have h4 := hv.st1
  refine ⟨h, few_states ?_ h1 h4, fun x hx => by have := h1 x hx; omega⟩
  rw [List.nodup_iff_pairwise_ne]
  exact hs.asc.imp fun h => by omega
theorem first_rowOk {t : Lts} (hv : Valid t) : RowOk (firstS t) := by
  have := (DGood.start hv).rowOk hv (firstS t) (by simp [dAt])
  exact this

set_option maxRecDepth 100000 in
set_option maxHeartbeats 4000000 in
theorem movesS_any (B xb mb pb ib rb n tb lo : Nat) (t : Lts) (S0 : DNet) (cur : List Int) (sv av lv ev rn : Value) (vs : List Value) (w0 w : World) (hv : Valid t) (hB : B = w0.heap.size) (hbl : Below B w0 w) (hE : ExpAt B xb mb pb ib rb true n t S0 sv av vs w)
    (hl : SliceK 1 encS lo w0 lv t.labels) (he : SliceK 3 encE lo w0 ev t.edges) (ht : Blk w0 tb [.int .i64 t.states, .int .i64 t.initial, lv, ev] 31) (g : Glob w0) (hG : DGood t S0) (h40 : S0.rows.length ≤ 40) (he440 : S0.edges.length ≤ 440)
    (hcur : S0.rows[n]? = some cur) (hrn : vs[n]? = some rn) :
    Calls Tryz.prog 78 #[rn, .func (.func 97) #[] #[.pointer (some ⟨pb, 0, none⟩), .pointer (some ⟨ib, 0, none⟩)], .pointer (some ⟨tb, 0, none⟩)] w fun e w' =>
      e = .returned (.bool true) ∧ Below B w0 w' ∧ ∃ sv' av' vs', ExpAt B xb mb pb ib rb true n t (dmid t n cur S0 (t.labels.length - 1)) sv' av' vs' w' ∧ ∃ tail, vs' = vs ++ tail := by
  have HV := Lib.hid hv
  have HL := Lib.hid hl
  have HEE := Lib.hid he
  have HG := Lib.hid hG
  have HGL := Lib.hid g
  have HX := Lib.hid hE
  have HBL := Lib.hid hbl
  have HT := Lib.hid ht
  have HCU := Lib.hid hcur
  have HRN := Lib.hid hrn
  have HB := Lib.hid hB
  have htl := ht.lt
  have hlpos := hv.labels.pos
  have hlmost := hv.labels.most
  obtain ⟨al, cl, rfl, hln, hlc, hlrow⟩ := hl
  obtain ⟨bl, ol, rfl, hblw, hcells⟩ : ∃ bl ol, al = some ⟨bl, ol, none⟩ ∧ bl < w0.heap.size ∧ ∀ i (h : i < t.labels.length), w0.cell? ⟨bl, ol + i, none⟩ = some (.string t.labels[i]) := by
    rcases hlrow with h | ⟨bl, ol, h1, -, h3, h4⟩
    · omega
    · exact ⟨bl, ol, h1, h3, fun i hi => by have := h4 i hi 0 (by omega); simpa [encS] using this⟩
  have HCE := Lib.hid hcells
  have T2 := keeps (hB ▸ hbl) htl (ht.cell 2 rfl)
  obtain ⟨L, hL⟩ : ∃ L, L = t.labels.length := ⟨_, rfl⟩
  rw [← hL] at hlpos hlmost hln T2 HT HL
  rw [← hL]
  have HLL := Lib.hid hL
  have hcl0 : ¬ cl = 0 := by omega
  clear hv he ht g hG hE hbl hlrow hcells hcur hrn hL hB
  have h0 := HX.out
  by_cases hc1 : cl = 1
  · have hL1 : L = 1 := by omega
    have HD : Hid (dmid t n cur S0 (L - 1) = S0) := by unfold Hid; rw [hL1]; exact dmid_zero t n cur S0
    subst hc1 hL1
    clear h0
    go_enter Tryz.func78, Tryz.ntmps78
    go_wp2
    go_loop [13] (fun v13 => v13 = .int .i64 0) (fun _ => 0)
    case atStart => rfl
    case round =>
      subst hrel
      go_wp2
      go_ret
      refine ⟨rfl, HBL.out, sv, av, vs, ?_, [], by simp⟩
      rw [HD.out]
      exact HX.out
  · clear h0
    go_enter Tryz.func78, Tryz.ntmps78
    go_wp2
    go_loopw [13] (fun v13 wr => ∃ (j : Nat) (sv' av' : Value) (tail : List Value), v13 = .int .i64 j ∧ j ≤ L - 1 ∧ Below B w0 wr ∧ ExpAt B xb mb pb ib rb true n t (dmid t n cur S0 j) sv' av' (vs ++ tail) wr) (fun v13 _ => L - (intOf v13).toNat)
    case atStart => exact ⟨0, sv, av, [], rfl, Nat.zero_le _, HBL.out, by rw [dmid_zero, List.append_nil]; exact HX.out⟩
    case round =>
      clear HBL HX
      obtain ⟨j, sv2, av2, tail, rfl, hj, hbl, hx⟩ := hrel
      obtain ⟨wC, rfl⟩ : ∃ wC : World, wC = wr := ⟨_, rfl⟩
      have HBL := Lib.hid hbl
      have HX := Lib.hid hx
      have hszC : B ≤ wC.heap.size := by rw [HB.out]; exact hbl.size
      have hbl0 : Below w0.heap.size w0 wC := by have := hbl; rw [HB.out] at this; exact this
      clear hbl hx
      by_cases hlt : j < L - 1
      · have hk : j + 1 < t.labels.length := by rw [← HLL.out]; omega
        have hc := keeps hbl0 hblw (HCE.out (j + 1) hk)
        rw [show ol + (j + 1) = ol + 1 + j from by omega] at hc
        obtain ⟨l, hl⟩ : ∃ l, l = t.labels[j + 1] := ⟨_, rfl⟩
        rw [← hl] at hc
        have hgl : t.labels.getD (j + 1) ByteArray.empty = l := by rw [List.getD_eq_getElem?_getD, List.getElem?_eq_getElem hk, hl]; rfl
        have HTC := Lib.hid (HT.out.below hbl0)
        have t0 := HTC.out.cell 0 rfl
        have t1 := HTC.out.cell 1 rfl
        have t2 := HTC.out.cell 2 rfl
        have t3 := HTC.out.cell 3 rfl
        have hrn : (vs ++ tail)[n]? = some rn := by rw [List.getElem?_append_left (List.getElem?_eq_some_iff.1 HRN.out).1]; exact HRN.out
        have hrs : SliceK 1 encI B wC rn cur := by
          have hm := dmid_rowAt (t := t) HCU.out j
          obtain ⟨hn1, hn2⟩ := List.getElem?_eq_some_iff.1 hrn
          obtain ⟨hm1, hm2⟩ := List.getElem?_eq_some_iff.1 hm
          have h3 := HX.out.rows.2.2.1 n hn1 hm1
          rw [hn2, hm2] at h3
          exact SliceK.of_owns (enc := encI) encI_len rfl (by rw [flat_encI]; exact h3)
        have HVI := Lib.hid (visible_any lo B t _ ev rn cur l wC HV.out (HL.out.below hbl0) (HEE.out.below hbl0) hrs hk hl.symm)
        have hGM := HG.out.mid HV.out (List.getElem?_eq_some_iff.1 HCU.out).1 cur j (by rw [← HLL.out]; omega)
        have hfew := dmid_few t n cur S0 j
        have hds := dmid_succ t n cur S0 j
        obtain ⟨M, hM⟩ : ∃ M, M = dmid t n cur S0 j := ⟨_, rfl⟩
        rw [← hM] at HX hGM hfew hds
        have HGM := Lib.hid hGM
        have HDS := Lib.hid hds
        have hkj : (((j + 1 : Nat)) : Int) = (j : Int) + 1 := by omega
        rw [hkj] at HVI
        have hML : (M.rows.length ≤ 1000 ∧ M.edges.length ≤ 1000) := by omega
        have HLO : Hid (∀ (i : Nat) (h : i < (vs ++ tail).length) b, (vs ++ tail)[i].ownBlock = some b → b < wC.heap.size) := fun i h b e => (HX.out.rows.2.2.1 i h (by rw [← HX.out.rows.1]; exact h)).lt b e |>.2
        obtain ⟨hm1, hm2⟩ := hML
        have HGC := Lib.hid (HGL.out.below hbl0)
        have HGT := Lib.hid hgl
        have hcw : bl < wC.heap.size := Nat.lt_of_lt_of_le hblw hbl0.size
        clear hl hrn hrs hM hGM hfew hds hk hgl hbl0
        go_wp2_with fail
        refine Calls.mono HVI.out ?_
        rintro e8 w8 ⟨v8, rfl, hb8, ho8⟩
        have HB8 := Lib.hid (HBL.out.trans (hb8.mono hszC))
        have HX8 := Lib.hid (HX.out.below hb8)
        obtain ⟨nx, hnx⟩ : ∃ nx, nx = nextS t cur ((j : Int) + 1) := ⟨_, rfl⟩
        have HNX := Lib.hid hnx
        rw [← hnx] at ho8
        have HO8 := Lib.hid ho8
        obtain ⟨a8, c8, rfl, -, -⟩ := owns_slice ho8
        have hs8 : B ≤ w8.heap.size := Nat.le_trans hszC hb8.size
        have HG8 := Lib.hid (HGC.out.below hb8)
        clear hb8 ho8 HVI t0 t1 t2 t3 hc hnx
        by_cases hem : nx = []
        · subst hem
          have HN : Hid (dmid t n cur S0 (j + 1) = M) := by
            unfold Hid
            rw [HDS.out]
            exact dstep_none HNX.out.symm
          go_wp2
          go_roundw
          case rel => exact ⟨j + 1, sv2, av2, tail, by go_num, by omega, HB8.out, by rw [HN.out]; exact HX8.out⟩
          case measure => simp [intOf]; omega
        · have hne : nextS t cur ((j : Int) + 1) ≠ [] := by rw [← HNX.out]; exact hem
          have hnl : 0 < nx.length := List.length_pos_iff.2 hem
          have HN : Hid (dmid t n cur S0 (j + 1) = ⟨dadd M.rows nx, M.edges ++ [⟨(n : Int), ((j + 1 : Nat) : Int), (dplace M.rows nx : Int)⟩]⟩) := by
            unfold Hid
            rw [HDS.out]
            unfold dstep
            rw [if_neg hne, ← HNX.out, hkj]
          have hrok : RowOk nx := by rw [HNX.out]; exact next_rowOk HV.out hne
          have HTO := Lib.hid (to_any B xb mb pb ib rb n (j + 1) wC.heap.size t M sv2 av2 (.slice a8 nx.length c8) (vs ++ tail) nx w8 hs8 HX8.out HGM.out.nodup (HGM.out.rowOk HV.out) hrok HLO.out hszC HO8.out hm1 hm2 HG8.out l HGT.out)
          have hnb : decide (0 < ((nx.length : Nat) : Int)) = true := by rw [decide_eq_true_eq]; omega
          obtain ⟨NL, hNL⟩ : ∃ NL, NL = nx.length := ⟨_, rfl⟩
          rw [← hNL] at HTO hnl hnb ⊢
          clear hem hne hrok hNL
          go_wp2_with fail
          refine Calls.mono HTO.out ?_
          rintro e9 w9 ⟨rfl, hb9, sv9, av9, vs9, hx9, tail9, rfl⟩
          have HB9 := Lib.hid (HB8.out.trans hb9)
          have HX9 := Lib.hid hx9
          clear hb9 hx9 HTO
          go_wp2
          go_roundw
          case rel => exact ⟨j + 1, sv9, av9, tail ++ tail9, by go_num, by omega, HB9.out, by rw [HN.out, ← List.append_assoc]; exact HX9.out⟩
          case measure => simp [intOf]; omega
      · have hj2 : j = L - 1 := by omega
        go_wp2
        go_ret
        refine ⟨rfl, HBL.out, sv2, av2, vs ++ tail, ?_, tail, rfl⟩
        rw [← hj2]
        exact HX.out

end Go.Proofs.YtbbffbnfppbibaaGreatDoor

namespace Go.Proofs.YtbbffbnfppbibaaGreatDoor
open Go Go.RowKit

/-- What a call that turns nothing leaves: draws, and blocks behind. -/
theorem grow_of_below {w w' : World} (hb : Below w.heap.size w w') (hd : w.drawn ≤ w'.drawn) : ∃ q os, w' = Go.Sort.grow (w.drewN q) os := by
  refine ⟨w'.drawn - w.drawn, w'.heap.extract w.heap.size w'.heap.size, ?_⟩
  have hh : w'.heap = w.heap ++ w'.heap.extract w.heap.size w'.heap.size := by
    apply Array.ext_getElem?
    intro i
    by_cases hi : i < w.heap.size
    · rw [hb.block i hi, Array.getElem?_append_left hi]
    · rw [Array.getElem?_append_right (by omega), Array.getElem?_extract]
      have := hb.size
      by_cases h2 : i < w'.heap.size
      · rw [if_pos (by omega)]; congr 1; omega
      · rw [if_neg (by omega), Array.getElem?_eq_none (by omega)]
  obtain ⟨h1, h2, h3⟩ := (⟨hb.os, hb.tape, hb.output⟩ : w'.os = w.os ∧ w'.tape = w.tape ∧ w'.output = w.output)
  cases w; cases w'
  simp only at h1 h2 h3 hh hd
  subst h1 h2 h3
  simp only [Go.Sort.grow, World.drewN, World.mk.injEq, true_and, and_true]
  exact ⟨hh, by omega⟩

set_option maxRecDepth 100000 in
theorem compareEdges_more (a b : Edge) (w : World) : Calls Tryz.prog 73 #[.agg #[.int .i64 a.src, .int .i64 a.lab, .int .i64 a.dst], .agg #[.int .i64 b.src, .int .i64 b.lab, .int .i64 b.dst]] w fun e w' => e = .returned (.int .i64 (cmpE a b)) ∧ Below w.heap.size w w' ∧ w.drawn ≤ w'.drawn := by
  obtain ⟨W, hW⟩ : ∃ W, W = (w.alloc (.cells #[.int .i64 a.src, .int .i64 a.lab, .int .i64 a.dst] 62)).alloc (.cells #[.int .i64 b.src, .int .i64 b.lab, .int .i64 b.dst] 62) := ⟨_, rfl⟩
  have HB : Hid (Below w.heap.size w W) := by
    unfold Hid
    rw [hW]
    exact ((Below.refl _ _).alloc (Nat.le_refl _) _).alloc (by simp) _
  have HDR : Hid (W.drawn = w.drawn) := by unfold Hid; rw [hW]; rfl
  have a0 : W.cell? ⟨w.heap.size, 0, none⟩ = some (.int .i64 a.src) := by rw [hW]; simp
  have a1 : W.cell? ⟨w.heap.size, 1, none⟩ = some (.int .i64 a.lab) := by rw [hW]; simp
  have a2 : W.cell? ⟨w.heap.size, 2, none⟩ = some (.int .i64 a.dst) := by rw [hW]; simp
  have b0 : W.cell? ⟨w.heap.size + 1, 0, none⟩ = some (.int .i64 b.src) := by rw [hW]; simp
  have b1 : W.cell? ⟨w.heap.size + 1, 1, none⟩ = some (.int .i64 b.lab) := by rw [hW]; simp
  have b2 : W.cell? ⟨w.heap.size + 1, 2, none⟩ = some (.int .i64 b.dst) := by rw [hW]; simp
  go_enter Tryz.func73, Tryz.ntmps73
  go_wp2
  rw [← hW]
  clear hW
  go_still_tail 15, (by kernel_rfl)
  still_call (still_same (Compare_any _ _ _))
  repeat still_step
  still_call (still_same (Compare_any _ _ _))
  repeat still_step
  still_call (still_same (Compare_any _ _ _))
  repeat still_step
  refine wpStill_nil ?_
  change wpList _ _ _ _ _ W.drew
  obtain ⟨W2, hW2⟩ : ∃ W2, W2 = W.drew := ⟨_, rfl⟩
  rw [← hW2]
  have HB2 : Hid (Below w.heap.size w W2) := by
    unfold Hid
    rw [hW2]
    exact HB.out.drew
  have HD2 : Hid (w.drawn ≤ W2.drawn) := by
    unfold Hid
    rw [hW2]
    show w.drawn ≤ W.drawn + 1
    have := HDR.out
    omega
  clear hW2 a0 a1 a2 b0 b1 b2
  have HS : Hid (SliceK 1 encI 0 (W2.alloc (.cells #[.int .i64 (cmpI a.src b.src), .int .i64 (cmpI a.lab b.lab), .int .i64 (cmpI a.dst b.dst)] 3)) (.slice (some ⟨W2.heap.size, 0, none⟩) 3 3) [cmpI a.src b.src, cmpI a.lab b.lab, cmpI a.dst b.dst]) := by
    have := World.ownsRow_lit (base := 0) (e := 3) (size := 1) W2 #[.int .i64 (cmpI a.src b.src), .int .i64 (cmpI a.lab b.lab), .int .i64 (cmpI a.dst b.dst)] 3 (Nat.zero_le _) (by decide) (by simp)
    exact SliceK.of_owns (e := 3) encI_len rfl (by rw [flat_encI]; simpa using this)
  have HB3 : Hid (Below w.heap.size w (W2.alloc (.cells #[.int .i64 (cmpI a.src b.src), .int .i64 (cmpI a.lab b.lab), .int .i64 (cmpI a.dst b.dst)] 3))) := HB2.out.alloc HB2.out.size _
  have HD3 : Hid (w.drawn ≤ (W2.alloc (.cells #[.int .i64 (cmpI a.src b.src), .int .i64 (cmpI a.lab b.lab), .int .i64 (cmpI a.dst b.dst)] 3)).drawn) := HD2.out
  go_wp2_with fail
  refine (Or_any 0 _ _ _ HS.out).mono ?_
  rintro e w' ⟨rfl, rfl⟩
  go_wp2_with fail
  go_ret
  exact ⟨rfl, HB3.out, HD3.out⟩

/-- How labels are compared: tau first, else by their bytes. -/
def cmpL (a b : List UInt8) : Int := if a == b then 0 else if a == tauB then -1 else if b == tauB then 1 else Lib.compareBytes a b

theorem compareLabels_any (a b : ByteArray) (w : World) : Calls Tryz.prog 106 #[.string a, .string b] w fun e w' => e = .returned (.int .i64 (cmpL a.toList b.toList)) ∧ w = w' := by
  have HC := Lib.hid (fun w' => Tryz.strings_Compare a b w')
  cases h1 : (a.toList == b.toList)
  · cases h2 : (a.toList == tauB)
    · cases h3 : (b.toList == tauB)
      · have HF : Hid (cmpL a.toList b.toList = Lib.compareBytes a.data.toList b.data.toList) := by unfold Hid cmpL; rw [h1, h2, h3, Lib.toList_data, Lib.toList_data]; rfl
        unfold tauB at h2 h3
        go_enter Tryz.func106, Tryz.ntmps106
        go_wp2_with fail
        refine Calls.mono (HC.out _) ?_
        rintro e w' ⟨rfl, rfl⟩
        go_wp2
        go_ret
        exact ⟨ret_int HF.out.symm, rfl⟩
      · have HF : Hid (cmpL a.toList b.toList = 1) := by unfold Hid cmpL; rw [h1, h2, h3]; rfl
        unfold tauB at h2 h3
        go_enter Tryz.func106, Tryz.ntmps106
        go_wp2
        go_ret
        exact ⟨ret_int HF.out.symm, rfl⟩
    · have HF : Hid (cmpL a.toList b.toList = -1) := by unfold Hid cmpL; rw [h1, h2]; rfl
      unfold tauB at h2
      go_enter Tryz.func106, Tryz.ntmps106
      go_wp2
      go_ret
      exact ⟨ret_int HF.out.symm, rfl⟩
  · have HF : Hid (cmpL a.toList b.toList = 0) := by unfold Hid cmpL; rw [h1]; rfl
    go_enter Tryz.func106, Tryz.ntmps106
    go_wp2
    go_ret
    exact ⟨ret_int HF.out.symm, rfl⟩

theorem swo_of_total {α : Type} {lt : α → α → Bool} (hi : ∀ x, lt x x = false) (ht : ∀ x y z, lt x y = true → lt y z = true → lt x z = true) (htri : ∀ x y, lt x y = false → lt y x = false → x = y) : Go.Sort.SWO lt where
  irrefl := hi
  trans := ht
  ntrans x y z h1 h2 := by
    cases h : lt x z with
    | false => rfl
    | true =>
      cases h3 : lt y x with
      | true => rw [ht y x z h3 h] at h2; cases h2
      | false =>
        have e := htri x y h1 h3
        subst e
        rw [h] at h2
        cases h2

theorem cmpB_lt : ∀ a b : List UInt8, decide (Lib.compareBytes a b < 0) = Op.bytesLess a b
  | [], [] => by simp [Lib.compareBytes, Op.bytesLess]
  | [], _ :: _ => by simp [Lib.compareBytes, Op.bytesLess]
  | _ :: _, [] => by simp [Lib.compareBytes, Op.bytesLess]
  | a :: x, b :: y => by
    rw [Lib.compareBytes, Op.bytesLess, ← cmpB_lt x y]
    by_cases h1 : a < b
    · simp [h1]
    · by_cases h2 : b < a
      · have h3 : ¬ a = b := fun e => by subst e; exact h1 h2
        simp [h1, h2, h3]
      · have h3 : a = b := UInt8.le_antisymm (UInt8.not_lt.1 h2) (UInt8.not_lt.1 h1)
        simp [h3]
/-- The strict order of labels: tau first. -/
def lessL (a b : List UInt8) : Bool := !(a == b) && (a == tauB || (!(b == tauB) && Op.bytesLess a b))
theorem ltOf_cmpL : ltOf cmpL = lessL := by
  funext a b
  unfold ltOf cmpL lessL
  cases h1 : (a == b)
  · cases h2 : (a == tauB)
    · cases h3 : (b == tauB)
      · simp [cmpB_lt]
      · simp
    · simp
  · simp
theorem lessL_iff (a b : List UInt8) : lessL a b = true ↔ a ≠ b ∧ (a = tauB ∨ (b ≠ tauB ∧ a < b)) := by
  unfold lessL
  rw [less_lt]
  simp
theorem lessL_irrefl (a : List UInt8) : lessL a a = false := by unfold lessL; simp
theorem lessL_trans (a b c : List UInt8) (h : lessL a b = true) (k : lessL b c = true) : lessL a c = true := by
  rw [lessL_iff] at *
  obtain ⟨h1, h2⟩ := h
  obtain ⟨k1, k2⟩ := k
  rcases h2 with h2 | ⟨h2, h3⟩
  · refine ⟨fun e => ?_, .inl h2⟩
    rcases k2 with k2 | ⟨k2, k3⟩
    · exact h1 (by rw [h2, k2])
    · exact k2 (by rw [← e, h2])
  · rcases k2 with k2 | ⟨k2, k3⟩
    · exact absurd k2 h2
    · exact ⟨fun e => List.lt_irrefl a (by rw [e] at h3 ⊢; exact List.lt_trans h3 k3), .inr ⟨k2, List.lt_trans h3 k3⟩⟩
theorem lessL_tri (a b : List UInt8) (h : lessL a b = false) (k : lessL b a = false) : a = b := by
  by_cases e : a = b
  · exact e
  · exfalso
    have h1 := fun x => (Bool.eq_false_iff.1 h) ((lessL_iff a b).2 x)
    have k1 := fun x => (Bool.eq_false_iff.1 k) ((lessL_iff b a).2 x)
    by_cases ta : a = tauB
    · exact h1 ⟨e, .inl ta⟩
    · by_cases tb : b = tauB
      · exact k1 ⟨fun x => e x.symm, .inl tb⟩
      · have h2 : ¬ a < b := fun x => h1 ⟨e, .inr ⟨tb, x⟩⟩
        have h3 : ¬ b < a := fun x => k1 ⟨fun x => e x.symm, .inr ⟨ta, x⟩⟩
        exact e (List.le_antisymm (List.not_lt.1 h3) (List.not_lt.1 h2))
theorem swoL : Go.Sort.SWO (ltOf cmpL) := by rw [ltOf_cmpL]; exact swo_of_total lessL_irrefl lessL_trans lessL_tri

theorem ltOf_cmpE : ltOf cmpE = edgeLess := by
  funext a b
  unfold ltOf
  have h := cmpE_less a b
  cases h2 : edgeLess a b with
  | true => rw [h2] at h; simp only [Bool.not_true, decide_eq_false_iff_not] at h; rw [decide_eq_true_eq]; omega
  | false => rw [h2] at h; simp only [Bool.not_false, decide_eq_true_eq] at h; rw [decide_eq_false_iff_not]; omega
theorem edgeLess_iff (a b : Edge) : edgeLess a b = true ↔ (a.src < b.src ∨ (a.src = b.src ∧ (a.lab < b.lab ∨ (a.lab = b.lab ∧ a.dst < b.dst)))) := by
  unfold edgeLess
  split
  · rw [decide_eq_true_eq]; omega
  · split
    · rw [decide_eq_true_eq]; omega
    · rw [decide_eq_true_eq]; omega
theorem edgeLess_irrefl (a : Edge) : edgeLess a a = false := by rw [Bool.eq_false_iff]; intro h; rw [edgeLess_iff] at h; omega
theorem edgeLess_trans (a b c : Edge) (h : edgeLess a b = true) (k : edgeLess b c = true) : edgeLess a c = true := by rw [edgeLess_iff] at *; omega
theorem edgeLess_tri (a b : Edge) (h : edgeLess a b = false) (k : edgeLess b a = false) : a = b := by
  rw [Bool.eq_false_iff] at h k
  have h1 := mt (edgeLess_iff a b).2 h
  have k1 := mt (edgeLess_iff b a).2 k
  have e1 : a.src = b.src := by omega
  have e2 : a.lab = b.lab := by omega
  have e3 : a.dst = b.dst := by omega
  cases a; cases b
  simp only at e1 e2 e3
  subst e1 e2 e3
  rfl
theorem swoE : Go.Sort.SWO (ltOf cmpE) := by rw [ltOf_cmpE]; exact swo_of_total edgeLess_irrefl edgeLess_trans edgeLess_tri

end Go.Proofs.YtbbffbnfppbibaaGreatDoor
