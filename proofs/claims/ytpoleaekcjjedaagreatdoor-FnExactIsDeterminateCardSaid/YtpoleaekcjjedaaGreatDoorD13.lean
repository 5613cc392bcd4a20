/-
  What the explorer's find computes: the place of a set among the rows, a new row for a new set.
  The program's search for the first trace: plain bounds, and how its queue lies in memory.
  A set of keys in a map whose values are true.
  Maps whose keys are pairs of numbers.
  The library's Concat at two lists of texts.
  The library's Clone at lists of texts.
-/
import Derived.Test.YtpoleaekcjjedaaGreatDoorD12
import Derived.Test.YtpoleaekcjjedaaGreatDoorD10
import Derived.Test.YtpoleaekcjjedaaGreatDoorD11
import Derived.Test.YtpoleaekcjjedaaGreatDoorD8
import Derived.Test.YtpoleaekcjjedaaGreatDoorD1
import Derived.Maps.OwnOps
import Derived.Test.YtpoleaekcjjedaaGreatDoorRows
import Derived.DeepKeys4
import Derived.MapViews
import Derived.Test.YtpoleaekcjjedaaGreatDoorD7
import Derived.Maps.AppendAt
namespace Go.Proofs.YtpoleaekcjjedaaGreatDoor
open Go Go.RowKit

theorem blk_map_ne' {w : World} {b : Nat} {cs : List Value} {t : TypeId} (h : Blk w b cs t) {m : Nat} {es : Array MapEntry} {c : Nat} (hm : w.heap[m]? = some (.map es c)) : b ≠ m := by
  intro e
  subst e
  unfold Blk at h
  rw [h] at hm
  cases hm
theorem blk_own_ne' {w : World} {b : Nat} {cs : List Value} {t : TypeId} (h : Blk w b cs t) {base e size n : Nat} {v : Value} {xs : List Value} (ho : w.ownsRow base e size v n xs) (he : e ≠ t) : some b ≠ v.ownBlock := by
  rcases own_type_ne ho (show w.heap[b]? = some (.cells cs.toArray t (0, 0)) from h) he with h | h
  · rw [h]; simp
  · exact fun e => h e.symm
theorem blk_blk_ne {w : World} {b c : Nat} {cs ds : List Value} {t u : TypeId} (h : Blk w b cs t) (k : Blk w c ds u) (he : t ≠ u) : b ≠ c := by
  intro e
  subst e
  unfold Blk at h k
  rw [h] at k
  simp only [Option.some.injEq, Obj.cells.injEq] at k
  exact he k.2.1

/-- A set that can be a row: not empty, its numbers small. -/
structure RowOk (r : List Int) : Prop where
  ne : r ≠ []
  len : r.length ≤ 40
  low : ∀ x ∈ r, 0 ≤ x ∧ x < 40
theorem RowOk.i64 {r : List Int} (h : RowOk r) : ∀ x ∈ r, -9223372036854775808 ≤ x ∧ x ≤ 9223372036854775807 := fun x hx => by have := h.low x hx; omega
theorem RowOk.size {r : List Int} (h : RowOk r) : (keyT r).size ≤ 1048576 := by have := keyT_size h.i64; have := h.len; omega
theorem RowOk.key {r : List Int} (h : RowOk r) : ∃ l, keyOf Tryz.prog 9 (keyV r) = some l := keyOfS _ h.size
theorem RowOk.inj {a b : List Int} (ha : RowOk a) (hb : RowOk b) (h : keyV a = keyV b) : a = b :=
  keyT_inj ha.ne hb.ne (fun x hx => (ha.low x hx).1) (fun x hx => (hb.low x hx).1) (by unfold keyV at h; exact Value.string.inj h)
theorem keysV_nodup {rows : List (List Int)} (hd : rows.Nodup) (ho : ∀ r ∈ rows, RowOk r) : (rows.map keyV).Nodup := by
  rw [List.nodup_iff_pairwise_ne, List.pairwise_map]
  refine List.Pairwise.imp_of_mem ?_ (List.nodup_iff_pairwise_ne.1 hd)
  intro a b ha hb hne e
  exact hne ((ho a ha).inj (ho b hb) e)

theorem keyfn_any (lo : Nat) (rv : Value) (r : List Int) (w : World) (hr : RowOk r) (hs : SliceK 1 encI lo w rv r) (g : Glob w) :
    Calls Tryz.prog 149 #[rv] w fun e w' => e = .returned (keyV r) ∧ Below w.heap.size w w' := by
  have HJ := Lib.hid (joined_any rv ⟨#[44]⟩ lo r w (by have := hr.len; omega) (fun i hi => hr.i64 _ (List.getElem_mem hi)) hs g (by
    have h1 := keyT_len hr.i64
    have h2 := hr.len
    show (Lib.join ((wordsOf r).map (·.data.toList)) [44]).length ≤ 1073741824
    omega))
  clear hs g
  go_enter Tryz.func149, Tryz.ntmps149
  go_wp2_with fail
  refine Calls.mono HJ.out ?_
  rintro e w1 ⟨rfl, hb⟩
  have HB := Lib.hid hb
  clear hb HJ
  go_wp2
  go_ret
  exact ⟨rfl, HB.out⟩

/-- After the map and the list have grown. -/
theorem ExpAt.grow {on : Bool} {B xb mb pb ib rb i B2 : Nat} {t : Lts} {st : DNet} {sv av sv' rv : Value} {vs : List Value} {r : List Int} {w1 w2 w3 w4 : World} (h : ExpAt B xb mb pb ib rb on i t st sv av vs w1) (hg2 : w1.grownBy w2 (some mb)) (hm2 : NumMap .i64 w2 mb (st.rows.map keyV ++ [keyV r]))
    (hb3 : Below w2.heap.size w2 w3) (hg4 : w3.grownBy w4 sv.ownBlock) (ho4 : w4.ownsRow B 83 1 sv' (vs.length + 1) (vs ++ [rv])) (hlow : ∀ (i : Nat) (h : i < vs.length) b, vs[i].ownBlock = some b → b < B2) (hB2 : B ≤ B2)
    (hr : w1.ownsRow B2 2 1 rv r.length (r.map (Value.int .i64))) :
    ExpAt B xb mb pb ib rb on i t ⟨st.rows ++ [r], st.edges⟩ sv' av (vs ++ [rv]) (w4.setCell ⟨xb, 0, none⟩ sv') := by
  have mblk : w1.heap[mb]? = some (.map (((st.rows.map keyV).mapIdx fun i k => (⟨k, .int .i64 i, i⟩ : MapEntry)).toArray) (st.rows.map keyV).length) := h.map
  have X2 := (h.box.below (Below.refl _ _)) 
  have X2 : Blk w2 xb _ _ := (hg2.block xb h.box.lt (fun e => blk_map_ne' h.box mblk (Option.some.inj e))).trans h.box
  have P2 : Blk w2 pb _ _ := (hg2.block pb h.ptr.lt (fun e => blk_map_ne' h.ptr mblk (Option.some.inj e))).trans h.ptr
  have I2 := fun (ho : on = true) => (show Blk w2 ib [.int .i64 i] 3 from (hg2.block ib (h.idx ho).lt (fun e => blk_map_ne' (h.idx ho) mblk (Option.some.inj e))).trans (h.idx ho))
  have S2 : Blk w2 rb _ _ := (hg2.block rb h.res.lt (fun e => blk_map_ne' h.res mblk (Option.some.inj e))).trans h.res
  have R2 := h.rows.kept hg2 (own_map_ne h.rows.2.1 mblk) (fun j hj => own_map_ne (h.rows.2.2.1 j hj (by rw [← h.rows.1]; exact hj)) mblk)
  have A2 := h.arcs.kept hg2 (own_map_ne h.arcs mblk)
  have V2 := hr.kept hg2 (own_map_ne hr mblk)
  have X3 := X2.below hb3
  have P3 := P2.below hb3
  have I3 := fun ho => (I2 ho).below hb3
  have S3 := S2.below hb3
  have R3 := R2.below hb3
  have A3 := owns_below A2 hb3
  have V3 := owns_below V2 hb3
  have M3 := hm2.below hb3
  have X4 : Blk w4 xb _ _ := (hg4.block xb X3.lt (blk_own_ne' X3 R3.2.1 (by decide))).trans X3
  have P4 : Blk w4 pb _ _ := (hg4.block pb P3.lt (blk_own_ne' P3 R3.2.1 (by decide))).trans P3
  have I4 := fun (ho : on = true) => (show Blk w4 ib [.int .i64 i] 3 from (hg4.block ib (I3 ho).lt (blk_own_ne' (I3 ho) R3.2.1 (by decide))).trans (I3 ho))
  have S4 : Blk w4 rb _ _ := (hg4.block rb S3.lt (blk_own_ne' S3 R3.2.1 (by decide))).trans S3
  have M4 := M3.kept hg4 (fun e => by
    rcases own_map_ne R3.2.1 M3 with h | h
    · rw [h] at e; cases e
    · exact h e.symm)
  have A4 := A3.kept hg4 (own_types A3 R3.2.1 (by decide))
  have R4 := OwnIntss.pushB (by decide) R3 hlow V3 hB2 hg4 ho4
  have hs := grown_setCell w4 ⟨xb, 0, none⟩ sv'
  refine ⟨h.base, h.mbase, h.pbase, h.ibase, h.rbase, X4.set 0 sv', P4.setOther _ _ (blk_blk_ne P4 X4 (by decide)), (fun ho => (I4 ho).setOther _ _ (blk_blk_ne (I4 ho) X4 (by decide))), S4.setOther _ _ (blk_blk_ne S4 X4 (by decide)), ?_, ?_, ?_⟩
  · exact R4.kept hs (own_type_ne R4.2.1 X4 (by decide)) (fun j hj => own_type_ne (R4.2.2.1 j hj (by rw [← R4.1]; exact hj)) X4 (by decide))
  · have := M4.kept hs (fun e => blk_map_ne' X4 M4 (Option.some.inj e).symm)
    simpa using this
  · exact A4.kept hs (own_type_ne A4 X4 (by decide))

set_option maxRecDepth 100000 in
set_option maxHeartbeats 2000000 in
theorem findS_old (B xb mb pb ib rb : Nat) (on : Bool) (i B2 : Nat) (t : Lts) (st : DNet) (sv av rv : Value) (vs : List Value) (r : List Int) (w : World) (h : ExpAt B xb mb pb ib rb on i t st sv av vs w) (hd : st.rows.Nodup) (hok : ∀ r ∈ st.rows, RowOk r) (hr : RowOk r)
    (hv : w.ownsRow B2 2 1 rv r.length (r.map (Value.int .i64))) (hm : r ∈ st.rows) (g : Glob w) :
    Calls Tryz.prog 219 #[.pointer (some ⟨xb, 0, none⟩), rv] w fun e w' => e = .returned (.int .i64 (dplace st.rows r)) ∧ Below w.heap.size w w' := by
  have hpl := dplace_lt.2 hm
  have hpk : dplace st.rows r < (st.rows.map keyV).length := by rw [List.length_map]; exact hpl
  have HL := Lib.hid (fun (w' : World) (hm : NumMap .i64 w' mb (st.rows.map keyV)) => hm.found keyedS underMapS (fun v hv => by obtain ⟨q', hq', rfl⟩ := List.mem_map.1 hv; exact (hok q' hq').key) (keysV_nodup hd hok) hpk)
  have hk3 : (st.rows.map keyV)[dplace st.rows r] = keyV r := by rw [List.getElem_map, dplace_get hpl]
  rw [hk3] at HL
  obtain ⟨n, hn⟩ : ∃ n, n = dplace st.rows r := ⟨_, rfl⟩
  rw [← hn] at HL
  have HN := Lib.hid hn
  have HK := Lib.hid (keyfn_any B2 rv r w hr (SliceK.of_owns (enc := encI) encI_len rfl (by rw [flat_encI]; exact hv)) g)
  have HE := Lib.hid h
  have x3 := h.box.cell 3 rfl
  have hxl := h.box.lt
  clear h hd hok hr hv hm g hpl hpk hk3 hn
  go_enter Tryz.func219, Tryz.ntmps219
  go_wp2_with fail
  refine Calls.mono HK.out ?_
  rintro e w1 ⟨rfl, hb1⟩
  have HB1 := Lib.hid hb1
  have x1 := (HE.out.below hb1).box.cell 1 rfl
  have hlk := HL.out w1 (HE.out.map.below hb1)
  unfold keyV at hlk ⊢
  clear hb1 HK x3
  go_wp2
  go_ret
  exact ⟨by rw [← HN.out]; rfl, HB1.out⟩

theorem info_intsF : (Tryz.prog.info? 83).map (fun i => (i.zero, i.size, i.bytes)) = some (some (.slice none 0 0), 1, 24) := by kernel_rfl

set_option maxRecDepth 100000 in
set_option maxHeartbeats 4000000 in
theorem findS_new (B xb mb pb ib rb : Nat) (on : Bool) (i B2 : Nat) (t : Lts) (st : DNet) (sv av rv : Value) (vs : List Value) (r : List Int) (w : World) (hB : B ≤ w.heap.size) (h : ExpAt B xb mb pb ib rb on i t st sv av vs w) (_hd : st.rows.Nodup) (hok : ∀ r ∈ st.rows, RowOk r) (hr : RowOk r)
    (hlow : ∀ (i : Nat) (h : i < vs.length) b, vs[i].ownBlock = some b → b < B2) (hB2 : B ≤ B2) (hv : w.ownsRow B2 2 1 rv r.length (r.map (Value.int .i64))) (hm : r ∉ st.rows) (hfew : st.rows.length ≤ 1000) (g : Glob w) :
    Calls Tryz.prog 219 #[.pointer (some ⟨xb, 0, none⟩), rv] w fun e w' => e = .returned (.int .i64 st.rows.length) ∧ Below B w w' ∧ ∃ sv', ExpAt B xb mb pb ib rb on i t ⟨st.rows ++ [r], st.edges⟩ sv' av (vs ++ [rv]) w' := by
  have hks : ∀ v ∈ st.rows.map keyV, ∃ l, keyOf Tryz.prog 9 v = some l := fun v hv => by obtain ⟨q', hq', rfl⟩ := List.mem_map.1 hv; exact (hok q' hq').key
  obtain ⟨kl, hkl⟩ := hr.key
  have hkn : keyV r ∉ st.rows.map keyV := fun hmm => by obtain ⟨q', hq', e⟩ := List.mem_map.1 hmm; rw [(hok q' hq').inj hr e] at hq'; exact hm hq'
  have HL := Lib.hid (fun (w' : World) (hm : NumMap .i64 w' mb (st.rows.map keyV)) => hm.missing keyedS underMapS hks (zeroI64 w') hkl hkn)
  have HU := Lib.hid (fun (w' : World) (hm : NumMap .i64 w' mb (st.rows.map keyV)) => hm.store keyedS underMapS hks hkl hkn (by rw [List.length_map]; unfold maxLen; omega))
  rw [List.length_map] at HU
  have HK := Lib.hid (keyfn_any B2 rv r w hr (SliceK.of_owns (enc := encI) encI_len rfl (by rw [flat_encI]; exact hv)) g)
  have HE := Lib.hid h
  have HV := Lib.hid hv
  have HLOW := Lib.hid hlow
  have x3 := h.box.cell 3 rfl
  have hxl := h.box.lt
  have hvl : vs.length = st.rows.length := h.rows.1
  obtain ⟨a0, c0, rfl, -, -⟩ := owns_slice h.rows.2.1
  obtain ⟨ar, cr, rfl, -, -⟩ := owns_slice hv
  obtain ⟨N, hN⟩ : ∃ N, N = st.rows.length := ⟨_, rfl⟩
  rw [← hN] at HU hfew hvl
  rw [hvl] at HE
  have HNN := Lib.hid hN
  obtain ⟨RL, hRL⟩ : ∃ RL, RL = r.length := ⟨_, rfl⟩
  rw [← hRL] at HV HK
  rw [← hRL]
  have HRL := Lib.hid hRL
  have HBB := Lib.hid hB
  obtain ⟨i0, hi, hz0, hz1, hz2⟩ := info_parts info_intsF
  clear h _hd hok hr hv hm g hN hks hkl hkn hlow hRL hB
  go_enter Tryz.func219, Tryz.ntmps219
  go_wp2_with fail
  refine Calls.mono HK.out ?_
  rintro e w1 ⟨rfl, hb1⟩
  have HB1 := Lib.hid (Below.mono hb1 HBB.out)
  have HE1 := Lib.hid (HE.out.below hb1)
  have HV1 := Lib.hid (owns_below HV.out hb1)
  have x1 := HE1.out.box.cell 1 rfl
  have x0 := HE1.out.box.cell 0 rfl
  have hlk := HL.out w1 HE1.out.map
  obtain ⟨w2, hup, hm2, hg2⟩ := HU.out w1 HE1.out.map
  unfold keyV at hlk hup ⊢
  have hs1 : B ≤ w1.heap.size := Nat.le_trans HBB.out hb1.size
  clear hb1 HK x3 HE HV
  have mblk : w1.heap[mb]? = some (.map (((st.rows.map keyV).mapIdx fun i k => (⟨k, .int .i64 i, i⟩ : MapEntry)).toArray) (st.rows.map keyV).length) := HE1.out.map
  have X2 : Hid (Blk w2 xb _ _) := (hg2.block xb HE1.out.box.lt (fun e => blk_map_ne' HE1.out.box mblk (Option.some.inj e))).trans HE1.out.box
  have R2 := Lib.hid (HE1.out.rows.2.1.kept hg2 (own_map_ne HE1.out.rows.2.1 mblk))
  rw [hvl] at R2
  have HG2 := Lib.hid hg2
  have HM2 := Lib.hid hm2
  have HB2 := Lib.hid (HB1.out.grown hg2 hs1 (fun k e => by cases e; exact HE1.out.mbase))
  have y0 := X2.out.cell 0 rfl
  have hs2 : B ≤ w2.heap.size := Nat.le_trans hs1 hg2.size
  have hx2 := X2.out.lt
  clear hg2 hm2 mblk
  go_wp2_with (at_builtin; refine wpList_append_own_at _ rfl _ _ 54 rfl B 83 i0 (.slice none 0 0) 1 24 Tryz.underlying54 hi hz0 hz1 hz2 rfl (by decide) _ _ _ rfl (R2.out.alloc _) ⟨w2.heap.size, 0, none⟩ 1 1 [.slice ar RL cr] rfl rfl ?c1 ?c2 ?c3 ?c4 ?c5 ?_)
  case c1 => exact (cell_one_new _ _ _)
  case c2 => first | rfl | (intro u hu; simp at hu; subst hu; rfl)
  case c3 => first | omega | (simp [maxLen]; omega)
  case c4 => first | omega | (simp; omega)
  case c5 => first | omega | (simp; omega)
  intro v4 w4 ho4 hg4 _ _
  obtain ⟨a4, c4, rfl, -, -⟩ := owns_slice ho4
  have hal : Below w2.heap.size w2 (w2.alloc (.cells #[.slice ar RL cr] 83)) := (Below.refl _ _).alloc (Nat.le_refl _) _
  have HF := Lib.hid (ExpAt.grow (B2 := B2) (r := r) HE1.out HG2.out HM2.out hal hg4 (by rw [hvl]; exact ho4) HLOW.out hB2 (by rw [← HRL.out]; exact HV1.out))
  have hne : some xb ≠ (Value.slice a0 N c0).ownBlock := blk_own_ne' X2.out R2.out (by decide)
  have hsv : w4.heap.size ≥ w2.heap.size := by have h1 := hal.size; have h2 := hg4.size; omega
  have z0 : w4.cell? ⟨xb, 0, none⟩ = some (.slice a0 N c0) := (hg4.cell_far ⟨xb, 0, none⟩ (by simp; omega) hne).trans (keeps hal hx2 y0)
  have z1 : w4.frozen? ⟨xb, 0, none⟩ = false := (hg4.frozen_far ⟨xb, 0, none⟩ (by simp; omega) hne).trans ((hal.frozen (p := ⟨xb, 0, none⟩) hx2).trans (X2.out.frozen 0))
  have HB4 : Hid (Below B w w4) := (HB2.out.trans (hal.mono hs2)).grown hg4 (by simp; omega) (fun b e => (R2.out.lt b e).1)
  clear ho4 hg4 hal hup y0 x0 x1 hlk
  go_wp2
  go_ret
  refine ⟨by rw [← HNN.out]; rfl, HB4.out.setCell HE1.out.base _, _, HF.out⟩

end Go.Proofs.YtpoleaekcjjedaaGreatDoor

namespace Go.Proofs.YtpoleaekcjjedaaGreatDoor
open Go Go.RowKit

/-- What the program passes over. -/
def deadB (p : Int × Int) : Prop := p.1 < 0 ∧ p.2 < 0
theorem deadB_step (x y : Lts) (L : List ByteArray) (s : Int × Int) (a : Nat) (h : deadB s) : deadB (goBoth x y L s a) := by
  refine ⟨?_, ?_⟩
  · show goTo x s.1 _ < 0
    rw [goTo_neg h.1]; decide
  · show goTo y s.2 _ < 0
    rw [goTo_neg h.2]; decide
/-- What is looked for, at a state that is not passed over. -/
def liveF (F : Int × Int → Prop) (p : Int × Int) : Prop := ¬ deadB p ∧ F p
theorem liveF_not {F : Int × Int → Prop} (s : Int × Int) (h : deadB s) : ¬ liveF F s := fun k => k.1 h

/-- A pair's place among the pairs. -/
def pairNo (p : Int × Int) : Nat := ((p.1 + 1) * 41 + (p.2 + 1)).toNat
theorem QSt.few {x y : Lts} {L : List ByteArray} {m : Nat} {F : Int × Int → Prop} {N Q : List (List Nat)} (hx : Valid x) (hy : Valid y) (h : QSt ((0 : Int), (0 : Int)) (goBoth x y L) m deadB F N Q) : N.length ≤ 1681 := by
  have hp : ∀ u, (-1 ≤ (difS x y L u).1 ∧ (difS x y L u).1 < 40) ∧ -1 ≤ (difS x y L u).2 ∧ (difS x y L u).2 < 40 := fun u => by
    have h2 := difS_range hx hy L u
    have h3 := hx.st1
    have h4 := hy.st1
    exact ⟨⟨h2.1.2, by omega⟩, h2.2.2, by omega⟩
  have h1 : (N.map fun u => pairNo (difS x y L u)).Nodup := by
    have hn := h.nodup
    rw [List.nodup_iff_pairwise_ne, List.pairwise_map] at hn ⊢
    refine hn.imp ?_
    intro a b hne e
    have h1 := hp a
    have h2 := hp b
    refine hne ?_
    show difS x y L a = difS x y L b
    unfold pairNo at e
    have e1 : (difS x y L a).1 = (difS x y L b).1 := by omega
    have e2 : (difS x y L a).2 = (difS x y L b).2 := by omega
    exact Prod.ext e1 e2
  have := nodup_lt 1681 _ h1 (fun z hz => by
    obtain ⟨u, hu, rfl⟩ := List.mem_map.1 hz
    have := hp u
    unfold pairNo
    omega)
  rwa [List.length_map] at this

/-- The queue, plainly: words of what is seen, words to come; none longer than there are seen. -/
structure FSt (x y : Lts) (L : List ByteArray) (m : Nat) (F : Int × Int → Prop) (seen Q : List (List Nat)) : Prop where
  st : QSt ((0 : Int), (0 : Int)) (goBoth x y L) m deadB (liveF F) seen Q
  long : ∀ u ∈ Q, u.length ≤ seen.length
  few : Q.length ≤ 1 + m * seen.length
theorem FSt.start (x y : Lts) (L : List ByteArray) (m : Nat) (F : Int × Int → Prop) : FSt x y L m F [] [[]] :=
  ⟨QSt.start _ _, fun u hu => by rw [List.mem_singleton] at hu; subst hu; simp, by simp⟩
theorem FSt.skip {x y : Lts} {L : List ByteArray} {m : Nat} {F : Int × Int → Prop} {seen Q : List (List Nat)} {u : List Nat} (h : FSt x y L m F seen (u :: Q)) (hu : deadB (difS x y L u) ∨ ∃ v ∈ seen, difS x y L v = difS x y L u) : FSt x y L m F seen Q :=
  ⟨h.st.skip hu, fun v hv => h.long v (List.mem_cons_of_mem _ hv), by have := h.few; simp only [List.length_cons] at this; omega⟩
theorem FSt.take {x y : Lts} {L : List ByteArray} {m : Nat} {F : Int × Int → Prop} {seen Q : List (List Nat)} {u : List Nat} (h : FSt x y L m F seen (u :: Q)) (ha : ¬ deadB (difS x y L u)) (hn : ∀ v ∈ seen, difS x y L v ≠ difS x y L u) (hF : ¬ F (difS x y L u)) :
    FSt x y L m F (seen ++ [u]) (Q ++ (List.range m).map (· :: u)) := by
  refine ⟨h.st.take ha hn (fun k => hF k.2), fun v hv => ?_, ?_⟩
  · rw [List.length_append, List.length_singleton]
    rcases List.mem_append.1 hv with hv | hv
    · have := h.long v (List.mem_cons_of_mem _ hv); omega
    · obtain ⟨a, -, rfl⟩ := List.mem_map.1 hv
      have := h.long u (by simp)
      rw [List.length_cons]; omega
  · have := h.few
    rw [List.length_append, List.length_append, List.length_map, List.length_range, List.length_singleton, Nat.mul_add, Nat.mul_one]
    simp only [List.length_cons] at this
    omega

/-- What is returned: the first word's trace, and whether there is one. -/
def FirstIs (x y : Lts) (L : List ByteArray) (F : Int × Int → Prop) (r : Bool) (xs : List ByteArray) : Prop :=
  xs.length ≤ 2000 ∧ ((NoWord ((0 : Int), (0 : Int)) (goBoth x y L) (L.length - 1) (liveF F) ∧ r = false ∧ xs = []) ∨ ∃ u, Least ((0 : Int), (0 : Int)) (goBoth x y L) (L.length - 1) (liveF F) u ∧ r = true ∧ xs = txtsOf L u)
theorem FSt.least {x y : Lts} {L : List ByteArray} {F : Int × Int → Prop} {seen Q : List (List Nat)} {u : List Nat} (hx : Valid x) (hy : Valid y) (h : FSt x y L (L.length - 1) F seen (u :: Q)) (ha : ¬ deadB (difS x y L u)) (hF : F (difS x y L u)) : FirstIs x y L F true (txtsOf L u) := by
  refine ⟨?_, .inr ⟨u, h.st.least (deadB_step x y L) liveF_not ⟨ha, hF⟩, rfl, rfl⟩⟩
  have h1 := h.st.few hx hy
  have h2 := h.long u (by simp)
  simp only [txtsOf, List.length_map, List.length_reverse]
  omega
theorem FSt.none {x y : Lts} {L : List ByteArray} {F : Int × Int → Prop} {seen : List (List Nat)} (h : FSt x y L (L.length - 1) F seen []) : FirstIs x y L F false [] :=
  ⟨by simp, .inl ⟨h.st.none (deadB_step x y L) liveF_not, rfl, rfl⟩⟩

/-- A word of the queue: its two states, its trace. -/
def encQ (x y : Lts) (L : List ByteArray) (p : List Nat × Value) : List Value := [.int .i64 (difS x y L p.1).1, .int .i64 (difS x y L p.1).2, p.2]
theorem encQ_len (x y : Lts) (L : List ByteArray) (p : List Nat × Value) : (encQ x y L p).length = 3 := rfl
theorem flat_len3 (x y : Lts) (L : List ByteArray) (ns : List (List Nat × Value)) : (ns.flatMap (encQ x y L)).length = ns.length * 3 := by
  induction ns with
  | nil => rfl
  | cons a r ih => rw [List.flatMap_cons, List.length_append, ih, encQ_len, List.length_cons]; omega
structure OwnQ (B : Nat) (w : World) (x y : Lts) (L : List ByteArray) (v : Value) (ns : List (List Nat × Value)) : Prop where
  all : TailK w B 200 3 v ns.length (ns.flatMap (encQ x y L))
  rows : ∀ p ∈ ns, w.ownsRow B 9 1 p.2 p.1.length (txts (txtsOf L p.1))
theorem OwnQ.below {B : Nat} {w w' : World} {x y : Lts} {L : List ByteArray} {v : Value} {ns : List (List Nat × Value)} (h : OwnQ B w x y L v ns) (hb : Below w.heap.size w w') : OwnQ B w' x y L v ns :=
  ⟨h.all.below hb, fun p hp => owns_below (h.rows p hp) hb⟩
theorem TailK.type_far {w : World} {base base2 size size2 e e2 n n2 : Nat} {v v2 : Value} {xs xs2 : List Value} (h : TailK w base e size v n xs) (ho : w.ownsRow base2 e2 size2 v2 n2 xs2) (he : e2 ≠ e) : v2.ownBlock = none ∨ v2.ownBlock ≠ v.ownBlock := by
  rcases h.2 with ⟨rfl, -⟩ | ⟨g, o, cap, cur, rfl, -, hg, -⟩
  · cases hb : v2.ownBlock with
    | none => exact .inl rfl
    | some b => exact .inr (by simp [Value.ownBlock])
  · exact own_type_far ho hg he
theorem TailK.blk_far {w : World} {base size e n b t : Nat} {v : Value} {xs cs : List Value} (h : TailK w base e size v n xs) (hb : Blk w b cs t) (he : t ≠ e) : some b ≠ v.ownBlock := by
  rcases h.2 with ⟨rfl, -⟩ | ⟨g, o, cap, cur, rfl, -, hg, -⟩
  · simp [Value.ownBlock]
  · intro e1
    simp only [Value.ownBlock, Option.some.injEq] at e1
    subst e1
    have := hb
    unfold Blk at this
    rw [this] at hg
    simp only [Option.some.injEq, Obj.cells.injEq] at hg
    exact he hg.2.1
theorem TailK.map_far {w : World} {base size e n b c : Nat} {v : Value} {xs : List Value} {es : Array MapEntry} (h : TailK w base e size v n xs) (hb : w.heap[b]? = some (.map es c)) : some b ≠ v.ownBlock := by
  rcases h.2 with ⟨rfl, -⟩ | ⟨g, o, cap, cur, rfl, -, hg, -⟩
  · simp [Value.ownBlock]
  · intro e1
    simp only [Value.ownBlock, Option.some.injEq] at e1
    subst e1
    rw [hb] at hg
    cases hg
/-- The queue's first word, in the cells. -/
theorem OwnQ.head {B : Nat} {w : World} {x y : Lts} {L : List ByteArray} {v : Value} {p : List Nat × Value} {ns : List (List Nat × Value)} (h : OwnQ B w x y L v (p :: ns)) :
    ∃ g o cap, v = .slice (some ⟨g, o, none⟩) (ns.length + 1) cap ∧ B ≤ g ∧ g < w.heap.size ∧ ns.length + 1 ≤ cap ∧ cap ≤ maxLen ∧ w.cell? ⟨g, o, none⟩ = some (.int .i64 (difS x y L p.1).1) ∧ w.cell? ⟨g, o + 1, none⟩ = some (.int .i64 (difS x y L p.1).2) ∧ w.cell? ⟨g, o + 2, none⟩ = some p.2
      ∧ OwnQ B w x y L (.slice (some ⟨g, o + 3, none⟩) ns.length (cap - 1)) ns ∧ (cap = 1 → OwnQ B w x y L (.slice (some ⟨g, o, none⟩) ns.length 0) ns) := by
  have ha := h.all
  rw [List.length_cons] at ha
  obtain ⟨g, o, cap, rfl, h1, h2, h3, h4, h5⟩ := ha.head
  have hl : 3 ≤ ((p :: ns).flatMap (encQ x y L)).length := by rw [flat_len3, List.length_cons]; omega
  have c0 := h5 0 (by omega)
  have c1 := h5 1 (by omega)
  have c2 := h5 2 (by omega)
  have hp := ha.pop
  rw [List.flatMap_cons, List.drop_left' (encQ_len x y L p)] at hp
  refine ⟨g, o, cap, rfl, h1, h2, h3, h4, by first | (have h := c0; rw [List.flatMap_cons] at h; exact h) | exact c0, by first | (have h := c1; rw [List.flatMap_cons] at h; exact h) | exact c1, by first | (have h := c2; rw [List.flatMap_cons] at h; exact h) | exact c2, ⟨hp, fun q hq => h.rows q (List.mem_cons_of_mem _ hq)⟩, fun hc => ?_⟩
  have hn : ns = [] := List.eq_nil_of_length_eq_zero (by omega)
  subst hn
  exact ⟨hp.empty o (by omega), fun q hq => by cases hq⟩
theorem OwnQ.form {B : Nat} {w : World} {x y : Lts} {L : List ByteArray} {v : Value} {ns : List (List Nat × Value)} (h : OwnQ B w x y L v ns) : ∃ a c, v = .slice a ns.length c := by
  rcases h.all.2 with ⟨rfl, e⟩ | ⟨g, o, cap, cur, rfl, -⟩
  · exact ⟨none, 0, by rw [e]⟩
  · exact ⟨_, _, rfl⟩
/-- Another row was written. -/
theorem OwnQ.kept {B : Nat} {w w' : World} {x y : Lts} {L : List ByteArray} {v : Value} {ns : List (List Nat × Value)} {row : Option Nat} (h : OwnQ B w x y L v ns) (hg : w.grownBy w' row) (h1 : v.ownBlock = none ∨ v.ownBlock ≠ row) (h2 : ∀ p ∈ ns, p.2.ownBlock = none ∨ p.2.ownBlock ≠ row) : OwnQ B w' x y L v ns :=
  ⟨h.all.kept hg h1, fun p hp => (h.rows p hp).kept hg (h2 p hp)⟩
/-- The map was written. -/
theorem OwnQ.map {B : Nat} {w w' : World} {x y : Lts} {L : List ByteArray} {v : Value} {ns : List (List Nat × Value)} {b c : Nat} {es : Array MapEntry} (h : OwnQ B w x y L v ns) (hb : w.heap[b]? = some (.map es c)) (hg : w.grownBy w' (some b)) : OwnQ B w' x y L v ns := by
  refine h.kept hg ?_ fun p hp => own_map_ne (h.rows p hp) hb
  cases hv : v.ownBlock with
  | none => exact .inl rfl
  | some g => exact .inr fun e => h.all.map_far hb (by rw [hv, e])
/-- One word more. -/
theorem OwnQ.push {B : Nat} {w wA w6 : World} {x y : Lts} {L : List ByteArray} {v v' tv : Value} {ns : List (List Nat × Value)} {u : List Nat} {k : Nat} (h : OwnQ B w x y L v ns) (hb : Below w.heap.size w wA)
    (hr : wA.ownsRow B 9 1 tv (k :: u).length (txts (txtsOf L (k :: u)))) (hg : wA.grownBy w6 v.ownBlock)
    (ho : TailK w6 B 200 3 v' (ns.length + 1) (ns.flatMap (encQ x y L) ++ [.int .i64 (goTo x (difS x y L u).1 (labK L k)), .int .i64 (goTo y (difS x y L u).2 (labK L k)), tv])) : OwnQ B w6 x y L v' (ns ++ [(k :: u, tv)]) := by
  have hA := h.below hb
  refine ⟨?_, fun p hp => ?_⟩
  · rw [List.length_append, List.flatMap_append]
    simpa [encQ, difS_cons] using ho
  · rcases List.mem_append.1 hp with hp | hp
    · exact (hA.rows p hp).kept hg (hA.all.type_far (hA.rows p hp) (by decide))
    · rw [List.mem_singleton] at hp
      subst hp
      exact hr.kept hg (hA.all.type_far hr (by decide))

end Go.Proofs.YtpoleaekcjjedaaGreatDoor

namespace Go.Proofs.YtpoleaekcjjedaaGreatDoor
open Go Go.RowKit Go.ChangeMaps Go.MapKept
open Go.Maps (Keyed)

def trueAt (ks : List Value) : List MapEntry := ks.mapIdx fun i k => (⟨k, .bool true, i⟩ : MapEntry)
/-- The block of a map whose keys lead to true. -/
def SetMap (w : World) (b : Nat) (ks : List Value) : Prop := w.heap[b]? = some (.map (trueAt ks).toArray ks.length)

theorem SetMap.made (w : World) : SetMap (w.alloc (.map #[] 0)) w.heap.size [] := (MapKept.heap_alloc w _).1
theorem SetMap.lt {w : World} {b : Nat} {ks : List Value} (h : SetMap w b ks) : b < w.heap.size := (Array.getElem?_eq_some_iff.1 h).1
theorem SetMap.kept {w w' : World} {b : Nat} {ks : List Value} {row : Option Nat} (h : SetMap w b ks) (hg : w.grownBy w' row) (hne : some b ≠ row) : SetMap w' b ks :=
  (hg.block b (Array.getElem?_eq_some_iff.1 h).1 hne).trans h
theorem SetMap.below {w w' : World} {b : Nat} {ks : List Value} (h : SetMap w b ks) (hb : Below w.heap.size w w') : SetMap w' b ks :=
  (hb.block b (Array.getElem?_eq_some_iff.1 h).1).trans h

theorem trueAt_key {ks : List Value} {e : MapEntry} (h : e ∈ (trueAt ks).toArray.toList) : e.key ∈ ks := by
  simp only [trueAt, List.mem_mapIdx] at h
  obtain ⟨i, hi, rfl⟩ := h
  exact List.getElem_mem hi
theorem trueAt_val {ks : List Value} {e : MapEntry} (h : e ∈ (trueAt ks).toArray.toList) : e.val = .bool true := by
  simp only [trueAt, List.mem_mapIdx] at h
  obtain ⟨i, hi, rfl⟩ := h
  rfl

section
variable {P : Program} {k t e : TypeId} {w : World} {b : Nat} {ks : List Value}

theorem SetMap.found (h : SetMap w b ks) (K : Keyed P k) (ht : P.underlying t = some (.map k e)) (hks : ∀ v ∈ ks, ∃ l, keyOf P k v = some l) {key : Value} (hin : key ∈ ks) :
    (Instr.lookup t (.map (some b)) key false).run P w = .ok (.bool true) w := by
  obtain ⟨kl, hkey⟩ := hks _ hin
  rcases K.find w hkey (trueAt ks).toArray.toList (fun x hx => hks _ (trueAt_key hx)) with ⟨_, h2⟩ | ⟨j, e0, h1, h2, h3⟩
  · exfalso
    obtain ⟨i, hi, rfl⟩ := List.mem_iff_getElem.1 hin
    refine h2 ⟨ks[i], .bool true, i⟩ ?_ rfl
    simp only [trueAt, List.mem_mapIdx]
    exact ⟨i, hi, rfl⟩
  · have hb : w.heap[b]? = some (.map (trueAt ks).toArray ks.length) := h
    have hv := trueAt_val (List.mem_of_getElem? h2)
    have h2' : (trueAt ks)[j]? = some e0 := by simpa using h2
    obtain ⟨hj, h2''⟩ := List.getElem?_eq_some_iff.1 h2'
    simp only at h1
    simp [Instr.lookup, run_underlying ht, MapKept.run_getObj_map hb, K.check w _ hkey, h1, hv, Result.andThen]

theorem SetMap.missing (h : SetMap w b ks) (K : Keyed P k) (ht : P.underlying t = some (.map k e)) (hks : ∀ v ∈ ks, ∃ l, keyOf P k v = some l) (hz : (zeroValue e).run P w = .ok (.bool false) w) {key : Value} {kl : Lit} (hkey : keyOf P k key = some kl) (hn : key ∉ ks) :
    (Instr.lookup t (.map (some b)) key false).run P w = .ok (.bool false) w := by
  rcases K.find w hkey (trueAt ks).toArray.toList (fun x hx => hks _ (trueAt_key hx)) with ⟨h1, _⟩ | ⟨j, e0, _, h2, h3⟩
  · have hb : w.heap[b]? = some (.map (trueAt ks).toArray ks.length) := h
    simp only at h1
    simp [Instr.lookup, run_underlying ht, MapKept.run_getObj_map hb, K.check w _ hkey, h1, hz, Result.andThen]
  · exact absurd (h3 ▸ trueAt_key (List.mem_of_getElem? h2)) hn

theorem SetMap.store (h : SetMap w b ks) (K : Keyed P k) (ht : P.underlying t = some (.map k e)) (hks : ∀ v ∈ ks, ∃ l, keyOf P k v = some l) {key : Value} {kl : Lit} (hkey : keyOf P k key = some kl) (hn : key ∉ ks) (hroom : ks.length < maxLen) :
    ∃ w', (Instr.mapUpdate t (.map (some b)) key (.bool true)).run P w = .ok () w' ∧ SetMap w' b (ks ++ [key]) ∧ w.grownBy w' (some b) := by
  have hb : w.heap[b]? = some (.map (trueAt ks).toArray ks.length) := h
  have e1 : (trueAt (ks ++ [key])).toArray = (trueAt ks).toArray.push ⟨key, .bool true, ks.length⟩ := by
    unfold trueAt
    rw [List.mapIdx_append]
    simp
  rcases K.find w hkey (trueAt ks).toArray.toList (fun x hx => hks _ (trueAt_key hx)) with ⟨h1, _⟩ | ⟨j, e0, _, h2, h3⟩
  · refine ⟨setBlock w b (.map ((trueAt ks).toArray.push ⟨key, .bool true, ks.length⟩) (ks.length + 1)), ?_, ?_, ?_⟩
    · simp only at h1
      have hr : ks.length < 9223372036854775807 := hroom
      simp [Instr.mapUpdate, run_underlying ht, MapKept.run_getObj_map hb, K.check w false hkey, h1, MapKept.run_setObj_map _ hb, Result.andThen, setBlock]
    · unfold SetMap
      rw [e1, List.length_append, List.length_singleton]
      exact heap_setBlock_same hb _
    · exact ⟨rfl, rfl, rfl, by simp [setBlock], fun i _ hi => heap_setBlock_other hb _ (fun e => hi (by rw [e]))⟩
  · exact absurd (h3 ▸ trueAt_key (List.mem_of_getElem? h2)) hn

end
end Go.Proofs.YtpoleaekcjjedaaGreatDoor

namespace Go.Proofs.YtpoleaekcjjedaaGreatDoor
open Go Go.RowKit
open Go.Maps (Keyed)

def key2 (p : Int × Int) : Value := .agg #[.int .i64 p.1, .int .i64 p.2]
theorem key2_inj {a b : Int × Int} (h : key2 a = key2 b) : a = b := by
  obtain ⟨x, y⟩ := a
  obtain ⟨u, v⟩ := b
  simpa [key2] using h
theorem underMap2 : Tryz.prog.underlying 117 = some (.map 181 4) := Tryz.underlying117
theorem laidOut2 : laidOutB Tryz.prog = true := by kernel_rfl
theorem row2Ok : (181 : TypeId) < Tryz.prog.types.size := of_decide_eq_true (by kernel_rfl)
theorem wide2 : (match Tryz.prog.underlying 181 with | some (.array _ _) | some (.struct _) => true | _ => false) = true := by rw [Tryz.underlying181]
set_option maxRecDepth 100000 in
theorem law2 : WideMaps.KeyLaw Tryz.prog 181 := deep_law_laid laidOut2 (m := 2) (by omega) row2Ok (by kernel_rfl) wide2
theorem keyed2 : Keyed Tryz.prog 181 := Keyed.of_law law2
theorem cells2Ok : Tryz.prog.cellsOf 181 = 2 := by kernel_rfl
theorem cellsI2 : Tryz.prog.cellsOf 2 = 1 := by kernel_rfl
theorem keyType2 : Tryz.prog.keyType 181 = true := by kernel_rfl
theorem zeroBool2 (w : World) : (zeroValue 4).run Tryz.prog w = .ok (.bool false) w := by kernel_rfl
theorem wf_small2 {n : Int} (h0 : -1 ≤ n) (h1 : n < 1000000) : (Lit.int .i64 n).wf = true := by
  have h2 : IntKind.i64.min = -9223372036854775808 := by decide
  have h3 : IntKind.i64.max = 9223372036854775807 := by decide
  show (decide (IntKind.i64.min ≤ n) && decide (n ≤ IntKind.i64.max)) = true
  rw [h2, h3, decide_eq_true (by omega), decide_eq_true (by omega)]
  rfl
set_option maxRecDepth 100000 in
theorem keyOf2 {q : Int × Int} (h : (-1 ≤ q.1 ∧ q.1 < 1000000) ∧ -1 ≤ q.2 ∧ q.2 < 1000000) : ∃ l, keyOf Tryz.prog 181 (key2 q) = some l := by
  obtain ⟨⟨a0, a1⟩, b0, b1⟩ := h
  have wa := wf_small2 a0 a1
  have wb := wf_small2 b0 b1
  obtain ⟨m, hm⟩ : ∃ m, Tryz.prog.types.size = m + 1 := ⟨_, Nat.succ_pred_eq_of_pos (Nat.lt_of_le_of_lt (Nat.zero_le _) row2Ok) |>.symm⟩
  refine ⟨.string (keyBytes [.int .i64 q.1, .int .i64 q.2]), ?_⟩
  unfold keyOf key2
  simp only [Tryz.underlying181]
  rw [if_pos (by simp [keyType2, Value.formed, Tryz.underlying181, cells2Ok]), hm]
  unfold Program.keyLits
  simp only [Tryz.underlying181, Value.cells]
  rw [if_pos (by rw [cells2Ok]; rfl), show List.range 2 = [0, 1] from rfl, List.mapM_cons, List.mapM_cons, List.mapM_nil]
  simp [cellsI2, Program.keyLits, Tryz.underlying2, wa, wb]

end Go.Proofs.YtpoleaekcjjedaaGreatDoor

namespace Go.Proofs.YtpoleaekcjjedaaGreatDoor
open Go Go.RowKit

theorem info_strG : (Tryz.prog.info? 9).map (fun i => (i.zero, i.size, i.bytes)) = some (some (.string ⟨#[]⟩), 1, 16) := by kernel_rfl

theorem GrowS_none (n : Nat) (w : World) (h0 : 0 < n) (h1 : n ≤ 2000) :
    Calls Tryz.prog 214 #[.slice none 0 0, .int .i64 n] w fun e w' => ∃ v, e = .returned v ∧ Below w.heap.size w w' ∧ w'.ownsRow w.heap.size 9 1 v 0 [] := by
  obtain ⟨i0, hi, hz0, hz1, hz2⟩ := info_parts info_strG
  refine (Tryz.slices_Grow_string i0 (.string ⟨#[]⟩) hi hz0 (by omega) none 0 0 n [] w (Nat.le_refl _) (by omega) (by rw [hz2]; omega) (by omega) (by simp) (fun _ => rfl) (fun a h => by cases h)).mono ?_
  rintro e w' ⟨rfl, rfl⟩
  refine ⟨_, rfl, ?_, rfl, .inr ⟨w.heap.size, _, _, rfl, Nat.le_refl _, heap_alloc_new w.drew _, Nat.zero_le _, grownCap_le_maxLen w (0 + n) 0 _ (by simp [maxLen]; omega), ?_, by simp⟩⟩
  · exact (Below.refl _ w).drew.alloc (Nat.le_refl _) _
  · have hge := grownCap_ge w (0 + n) 0 9
    simp only [Array.size_append, List.size_toArray, List.length_nil, size_zeroCells, show (Value.string ⟨#[]⟩).cells.size = 1 from rfl]
    omega

theorem src_cells {lo : Nat} {w : World} {a : Option Addr} {xs : List ByteArray} (h : RowK 1 encS lo w a xs) (hp : 0 < xs.length) : ∃ b o, a = some ⟨b, o, none⟩ ∧ b < w.heap.size ∧ ∀ j u, (txts xs)[j]? = some u → w.cell? ((⟨b, o, none⟩ : Addr).add j) = some u := by
  rcases h with h | ⟨b, o, rfl, -, hb, hc⟩
  · omega
  · refine ⟨b, o, rfl, hb, fun j u hj => ?_⟩
    unfold txts at hj
    rw [List.getElem?_map] at hj
    obtain ⟨x, hx, rfl⟩ := Option.map_eq_some_iff.1 hj
    obtain ⟨hlt, rfl⟩ := List.getElem?_eq_some_iff.1 hx
    have := hc j hlt 0 (by omega)
    rw [Addr.add_lit]
    simpa [encS] using this
theorem src_below {b o : Nat} {w w' : World} {us : List Value} (hb : b < w.heap.size) (h : ∀ j u, us[j]? = some u → w.cell? ((⟨b, o, none⟩ : Addr).add j) = some u) (hw : Below w.heap.size w w') : ∀ j u, us[j]? = some u → w'.cell? ((⟨b, o, none⟩ : Addr).add j) = some u := fun j u hj => by
  have := h j u hj
  rw [Addr.add_lit] at this ⊢
  exact keeps hw hb this

def upTo2 (xs ys : List ByteArray) (k : Nat) : List ByteArray := if k = 0 then [] else if k = 1 then xs else xs ++ ys

set_option maxRecDepth 100000 in
set_option maxHeartbeats 4000000 in
theorem ConcatS_two (lo : Nat) (lx ly : Value) (xs ys : List ByteArray) (w : World) (hx : SliceK 1 encS lo w lx xs) (hy : SliceK 1 encS lo w ly ys) (hxp : 0 < xs.length) (hyp : 0 < ys.length) (hn : xs.length + ys.length ≤ 1000)
    (b : Nat) (hb : Blk w b [lx, ly] 22) :
    Calls Tryz.prog 143 #[.slice (some ⟨b, 0, none⟩) 2 2] w fun e w' => ∃ v', e = .returned v' ∧ Below w.heap.size w w' ∧ OwnStrs w.heap.size w' v' (xs ++ ys) := by
  obtain ⟨ax, cx, rfl, hxc, hxm, hxr⟩ := hx
  obtain ⟨ay, cy, rfl, hyc, hym, hyr⟩ := hy
  obtain ⟨bx, ox, rfl, hbx, hcx⟩ := src_cells hxr hxp
  obtain ⟨by_, oy, rfl, hby, hcy⟩ := src_cells hyr hyp
  obtain ⟨n1, hn1⟩ : ∃ n1, n1 = xs.length := ⟨_, rfl⟩
  obtain ⟨n2, hn2⟩ : ∃ n2, n2 = ys.length := ⟨_, rfl⟩
  rw [← hn1] at hxp hn hxc hb
  rw [← hn2] at hyp hn hyc hb
  have HG := Lib.hid (fun w' => GrowS_none (n1 + n2) w' (by omega) (by omega))
  have HCX := Lib.hid hcx
  have HCY := Lib.hid hcy
  have HB := Lib.hid hb
  have HN1 := Lib.hid hn1
  have HN2 := Lib.hid hn2
  have c0 := hb.cell 0 rfl
  have c1 := hb.cell 1 rfl
  have hbl := hb.lt
  obtain ⟨i0, hi, hz0, hz1, hz2⟩ := info_parts info_strG
  clear hcx hcy hb hn1 hn2 hxr hyr
  go_enter Tryz.func143, Tryz.ntmps143
  go_wp2_with fail
  go_loopw [3, 11] (fun v3 v11 wr => wr = w ∧ ((v11 = .int .i64 0 ∧ v3 = .int .i64 0) ∨ (v11 = .int .i64 1 ∧ v3 = .int .i64 n1) ∨ (v11 = .int .i64 2 ∧ v3 = .int .i64 ((n1 + n2 : Nat) : Int)))) (fun _ v11 _ => 2 - (intOf v11).toNat)
  case atStart => exact ⟨rfl, .inl ⟨rfl, rfl⟩⟩
  case round =>
    obtain ⟨hww, ⟨rfl, rfl⟩ | ⟨rfl, rfl⟩ | ⟨rfl, rfl⟩⟩ := hrel
    all_goals (have hww2 := hww.symm; subst hww2; clear hww)
    · go_wp2_with fail
      go_roundw
      case rel => exact ⟨by first | rfl | trivial, .inr (.inl ⟨by go_num, by go_num⟩)⟩
      case measure => simp [intOf]
    · go_wp2_with fail
      go_roundw
      case rel => exact ⟨by first | rfl | trivial, .inr (.inr ⟨by go_num, by go_num⟩)⟩
      case measure => simp [intOf]
    · clear c0 c1
      go_wp2_with fail
      refine Calls.mono (HG.out _) ?_
      rintro e w1 ⟨v, rfl, hb1, ho1⟩
      have HB1 := Lib.hid hb1
      have HO1 := Lib.hid ho1
      have hs1 := hb1.size
      clear hb1 ho1
      go_wp2_with fail
      go_loopw [6, 27] (fun v6 v27 wr => ∃ k : Nat, v27 = .int .i64 k ∧ k ≤ 2 ∧ Below w.heap.size w wr ∧ wr.ownsRow w.heap.size 9 1 v6 (upTo2 xs ys k).length (txts (upTo2 xs ys k))) (fun _ v27 _ => 2 - (intOf v27).toNat)
      case atStart => exact ⟨0, rfl, by omega, HB1.out, HO1.out⟩
      case round =>
        obtain ⟨k, rfl, hk, hbr, hor⟩ := hrel
        have HBR := Lib.hid hbr
        have HOR := Lib.hid hor
        have hsr := hbr.size
        rcases (show k = 0 ∨ k = 1 ∨ k = 2 by omega) with rfl | rfl | rfl
        · have c0 := (HB.out.below hbr).cell 0 rfl
          have hsrc := Lib.hid (src_below hbx HCX.out hbr)
          clear hbr hor
          go_wp2_with (at_builtin; refine wpList_append_own_at _ rfl _ _ 22 rfl w.heap.size 9 i0 (.string ⟨#[]⟩) 1 16 Tryz.underlying22 hi hz0 hz1 hz2 rfl (by decide) _ _ _ rfl HOR.out ⟨bx, ox, none⟩ n1 cx (txts xs) rfl ?c1 hsrc.out ?c2 ?c3 ?c4 ?c5 ?_)
          case c1 => rw [txts_len, HN1.out]; omega
          case c2 => intro u hu; simp only [txts, List.mem_map] at hu; obtain ⟨x, -, rfl⟩ := hu; rfl
          case c3 => simp [upTo2, maxLen]; omega
          case c4 => simp [upTo2]; omega
          case c5 => omega
          intro v' w' ho' hg' _ _
          have HB' : Hid (Below w.heap.size w w') := HBR.out.grown hg' hsr (fun b e => (HOR.out.lt b e).1)
          have HO' : Hid (w'.ownsRow w.heap.size 9 1 v' (upTo2 xs ys 1).length (txts (upTo2 xs ys 1))) := by
            have h := ho'
            simp only [upTo2, if_true, List.length_nil, Nat.zero_add, txts, List.map_nil, List.nil_append] at h ⊢
            rw [HN1.out] at h
            exact h
          clear ho' hg'
          go_wp2
          go_roundw
          case rel => exact ⟨1, by go_num, by omega, HB'.out, HO'.out⟩
          case measure => simp [intOf]
        · have c1 := (HB.out.below hbr).cell 1 rfl
          have hsrc := Lib.hid (src_below hby HCY.out hbr)
          clear hbr hor
          go_wp2_with (at_builtin; refine wpList_append_own_at _ rfl _ _ 22 rfl w.heap.size 9 i0 (.string ⟨#[]⟩) 1 16 Tryz.underlying22 hi hz0 hz1 hz2 rfl (by decide) _ _ _ rfl HOR.out ⟨by_, oy, none⟩ n2 cy (txts ys) rfl ?c1 hsrc.out ?c2 ?c3 ?c4 ?c5 ?_)
          case c1 => rw [txts_len, HN2.out]; omega
          case c2 => intro u hu; simp only [txts, List.mem_map] at hu; obtain ⟨x, -, rfl⟩ := hu; rfl
          case c3 => simp [upTo2, maxLen]; have := HN1.out; omega
          case c4 => simp [upTo2]; have := HN1.out; omega
          case c5 => omega
          intro v' w' ho' hg' _ _
          have HB' : Hid (Below w.heap.size w w') := HBR.out.grown hg' hsr (fun b e => (HOR.out.lt b e).1)
          have HO' : Hid (w'.ownsRow w.heap.size 9 1 v' (upTo2 xs ys 2).length (txts (upTo2 xs ys 2))) := by
            have h := ho'
            simp only [upTo2, if_true, if_neg (show ¬ (1 : Nat) = 0 by omega), if_neg (show ¬ (2 : Nat) = 0 by omega), if_neg (show ¬ (2 : Nat) = 1 by omega)] at h ⊢
            rw [HN2.out] at h
            unfold Hid
            rw [List.length_append]
            simpa [txts] using h
          clear ho' hg'
          go_wp2
          go_roundw
          case rel => exact ⟨2, by go_num, by omega, HB'.out, HO'.out⟩
          case measure => simp [intOf]
        · clear hbr hor
          go_wp2
          go_ret
          exact ⟨_, rfl, HBR.out, HOR.out⟩

end Go.Proofs.YtpoleaekcjjedaaGreatDoor

namespace Go.Proofs.YtpoleaekcjjedaaGreatDoor
open Go Go.RowKit

theorem CloneS_own (lo : Nat) (v : Value) (xs : List ByteArray) (w : World) (hv : SliceK 1 encS lo w v xs) (hz : xs.length ≤ 1048576) :
    Calls Tryz.prog 189 #[v] w fun e w' => ∃ v', e = .returned v' ∧ w'.ownsRow w.heap.size 9 1 v' xs.length (xs.map Value.string) ∧ Below w.heap.size w w' := by
  obtain ⟨a, c, rfl, hn, hc, hrow⟩ := hv
  cases a with
  | none =>
    have h0 : xs.length = 0 := by
      rcases hrow with h | ⟨b, o, h, -⟩
      · exact h
      · cases h
    have hx : xs = [] := List.eq_nil_of_length_eq_zero h0
    subst hx
    refine (Tryz.slices_Clone_string_nil _ _ w).mono ?_
    rintro e w' ⟨rfl, rfl⟩
    exact ⟨_, rfl, World.ownsRow_nil _ _ _ _, Below.refl _ _⟩
  | some a =>
    rcases hrow with h0 | ⟨b, o, h, -, hb, hcell⟩
    · have hx : xs = [] := List.eq_nil_of_length_eq_zero h0
      subst hx
      refine (Tryz.slices_Clone_string_zero a c w).mono ?_
      rintro e w' ⟨v', rfl, ho, -, hb⟩
      exact ⟨v', rfl, ho, hb⟩
    · cases h
      refine (Tryz.slices_Clone_string b o xs.length c xs w (Nat.le_refl _) (by omega) (fun j hj => ?_)).mono ?_
      · have := hcell j hj 0 (by omega)
        rw [List.getD_eq_getElem?_getD, List.getElem?_eq_getElem hj]
        simpa [encS] using this
      · rintro e w' ⟨v', rfl, ho, -, hb2⟩
        rw [List.take_length] at ho
        exact ⟨v', rfl, ho, hb2⟩

end Go.Proofs.YtpoleaekcjjedaaGreatDoor
