/-
  The reference's l12Differ: the first trace on which two deterministic systems differ.
-/
import Derived.Test.YtpoleaekcjjedaaGreatDoorF11
import Derived.Test.YtpoleaekcjjedaaGreatDoorF24
import Derived.Test.YtpoleaekcjjedaaGreatDoorF22
import Derived.Test.YtpoleaekcjjedaaGreatDoorF25
import Derived.Test.YtpoleaekcjjedaaGreatDoorF9
import Derived.Test.YtpoleaekcjjedaaGreatDoorF7
namespace Go.Proofs.YtpoleaekcjjedaaGreatDoor
open Go Go.RowKit

theorem info_intD : (Tryz.prog.info? 2).map (fun i => (i.zero, i.size, i.bytes)) = some (some (.int .i64 0), 1, 8) := by kernel_rfl
theorem info_intsD : (Tryz.prog.info? 3).map (fun i => (i.zero, i.size, i.bytes)) = some (some (.int .i64 0), 1, 8) := by kernel_rfl
theorem info_strD : (Tryz.prog.info? 9).map (fun i => (i.zero, i.size, i.bytes)) = some (some (.string ⟨#[]⟩), 1, 16) := by kernel_rfl
theorem own_some {w : World} {base e size n : Nat} {v : Value} {xs : List Value} (h : w.ownsRow base e size v n xs) (hn : 0 < n) : ∃ g c, v = .slice (some ⟨g, 0, none⟩) n c ∧ base ≤ g ∧ g < w.heap.size := by
 rcases h.2 with ⟨h1, h0⟩ | ⟨g, cap, cur, h1, h2, hg, -⟩
 ·omega
 ·exact ⟨g, cap, h1, h2, (Array.getElem?_eq_some_iff.1 hg).1⟩
def hitTo (ls rs : List Int) (X Y : Int) (m : Nat) : Bool := ((ls.zip rs).take m).any (· == (X, Y))
theorem hitTo_zero (ls rs : List Int) (X Y : Int) : hitTo ls rs X Y 0 = false := rfl
theorem hitTo_succ {ls rs : List Int} {X Y : Int} {m : Nat} (h1 : m < ls.length) (h2 : m < rs.length) : hitTo ls rs X Y (m + 1) = (hitTo ls rs X Y m || (ls.getD m 0 == X && rs.getD m 0 == Y)) := by
 unfold hitTo
 have h3 : m < (ls.zip rs).length := by simp; omega
 rw [List.take_succ_eq_append_getElem h3, List.any_append]
 simp only [List.any_cons, List.any_nil, Bool.or_false, List.getElem_zip, List.getD_eq_getElem?_getD, List.getElem?_eq_getElem h1, List.getElem?_eq_getElem h2, Option.getD_some]
 rfl
theorem hitTo_words {x y : Lts} {L : List ByteArray} {N : List (List Nat)} {X Y : Int} : hitTo (N.map fun u => (difS x y L u).1) (N.map fun u => (difS x y L u).2) X Y N.length = true ↔ ∃ u ∈ N, difS x y L u = (X, Y) := by
 unfold hitTo
 rw [List.zip_map', List.take_of_length_le (by simp), List.any_map, List.any_eq_true]
 constructor
 ·rintro ⟨u, hu, h⟩
  exact ⟨u, hu, by simpa [Prod.ext_iff] using h⟩
 ·rintro ⟨u, hu, h⟩
  exact ⟨u, hu, by simpa [Prod.ext_iff] using h⟩
theorem labSet_few (x y : Lts) : (bothL x y).length ≤ (x.labels ++ y.labels).length + 1 := by
 unfold bothL labSet
 rw [List.length_map]
 refine Nat.le_trans (Lib.compact_length_le _) ?_
 rw [List.length_mergeSort, List.length_map]
 exact Nat.le_refl _
/-- The words' states, at one place. -/
theorem word_at {x y : Lts} {L : List ByteArray} {N : List (List Nat)} {i : Nat} {u : List Nat} (h : N[i]? = some u) : (N.map fun u => (difS x y L u).1).getD i 0 = (difS x y L u).1 ∧ (N.map fun u => (difS x y L u).2).getD i 0 = (difS x y L u).2 := by
 simp [List.getD_eq_getElem?_getD, h]
/-- What the search returns. -/
def RetDif (x y : Lts) (both : Bool) (w : World) (e : Ending) (w' : World) : Prop :=
 Below w.heap.size w w' ∧ ∃ (r : Bool) (v : Value) (xs : List ByteArray), e = .returned (.tuple #[v, .bool r]) ∧ w'.ownsRow w.heap.size 9 1 v xs.length (xs.map .string) ∧ xs.length ≤ 2000
  ∧ ((r = false ∧ xs = [] ∧ NoWord ((0 : Int), (0 : Int)) (goBoth x y (bothL x y)) ((bothL x y).length - 1) (apart both))
   ∨ (r = true ∧ ∃ u, Least ((0 : Int), (0 : Int)) (goBoth x y (bothL x y)) ((bothL x y).length - 1) (apart both) u ∧ xs = txtsOf (bothL x y) u))
def DSt (x y : Lts) (both : Bool) (N : List (List Nat)) (i k : Nat) : Prop := NSt ((0 : Int), (0 : Int)) (goBoth x y (bothL x y)) ((bothL x y).length - 1) (deadP both) (apart both) N i k

theorem DSt.pass {x y : Lts} {both : Bool} {N : List (List Nat)} {i k : Nat} {L : List ByteArray} {u : List Nat} {X Y : Int} (hL : L = bothL x y) (h : DSt x y both N i k) (hu : N[i]? = some u) (he : difS x y L (k :: u) = (X, Y)) (hd : deadP both (X, Y) ∨ ∃ v ∈ N, difS x y L v = (X, Y)) : DSt x y both N i (k + 1) := by
 subst hL
 refine NSt.pass h hu ?_
 rcases hd with hd | ⟨v, hv, e⟩
 ·exact .inl (by show deadP both (difS x y _ (k :: u)); rw [he]; exact hd)
 ·exact .inr ⟨v, hv, e.trans he.symm⟩
theorem DSt.meet {x y : Lts} {both : Bool} {N : List (List Nat)} {i k : Nat} {L : List ByteArray} {u : List Nat} {X Y : Int} (hL : L = bothL x y) (h : DSt x y both N i k) (hu : N[i]? = some u) (hk : k < L.length - 1) (he : difS x y L (k :: u) = (X, Y)) (h1 : ¬ deadP both (X, Y)) (h2 : ¬ apart both (X, Y)) (h3 : ¬ ∃ v ∈ N, difS x y L v = (X, Y)) : DSt x y both (N ++ [k :: u]) i (k + 1) := by
 subst hL
 refine NSt.meet h hu hk ?_ ?_ fun v hv e => h3 ⟨v, hv, ?_⟩
 ·show ¬ deadP both (difS x y _ (k :: u)); rw [he]; exact h1
 ·show ¬ apart both (difS x y _ (k :: u)); rw [he]; exact h2
 ·exact (show difS x y _ v = difS x y _ (k :: u) from e).trans he
theorem DSt.found {x y : Lts} {both : Bool} {N : List (List Nat)} {i k : Nat} {L : List ByteArray} {u : List Nat} {X Y : Int} (hL : L = bothL x y) (h : DSt x y both N i k) (hu : N[i]? = some u) (hk : k < L.length - 1) (he : difS x y L (k :: u) = (X, Y)) (h1 : apart both (X, Y)) : Least ((0 : Int), (0 : Int)) (goBoth x y (bothL x y)) ((bothL x y).length - 1) (apart both) (k :: u) := by
 subst hL
 refine NSt.least (deadP_step both x y _) (deadP_not both) h hu hk ?_
 show apart both (difS x y _ (k :: u)); rw [he]; exact h1

set_option maxRecDepth 100000 in
set_option maxHeartbeats 8000000 in
theorem l12Differ_any (pa pb lo : Nat) (x y : Lts) (both : Bool) (w : World) (hx : Valid x) (hy : Valid y) (hpa : LtsPtr lo w pa x) (hpb : LtsPtr lo w pb y) :
  Calls Tryz.prog 55 #[.pointer (some ⟨pa, 0, none⟩), .pointer (some ⟨pb, 0, none⟩), .bool both] w (RetDif x y both w) := by
 have HX := Lib.hid hx
 have HY := Lib.hid hy
 have HPA := Lib.hid hpa
 have HPB := Lib.hid hpb
 obtain ⟨lva, eva, hpla, -, -, qa, -, hla, -⟩ := hpa
 obtain ⟨lvb, evb, hplb, -, -, qb, -, hlb, -⟩ := hpb
 obtain ⟨aa, ca, rfl, -, -, ra⟩ := hla
 obtain ⟨ab, cb, rfl, -, -, rb⟩ := hlb
 obtain ⟨NA, hNA⟩ : ∃ NA, NA = x.labels.length := ⟨_, rfl⟩
 obtain ⟨NB, hNB⟩ : ∃ NB, NB = y.labels.length := ⟨_, rfl⟩
 have hna := hx.labels.pos
 have hnb := hy.labels.pos
 have hna2 := hx.labels.most
 have hnb2 := hy.labels.most
 rw [← hNA] at hna hna2 qa
 rw [← hNB] at hnb hnb2 qb
 obtain ⟨ba, oa, rfl, hbaw, hca⟩ : ∃ bl ol, aa = some ⟨bl, ol, none⟩ ∧ bl < w.heap.size ∧ ∀ i (h : i < x.labels.length) j, j < 1 → w.cell? ⟨bl, ol + i * 1 + j, none⟩ = (encS x.labels[i])[j]? := by
  rcases ra with h | ⟨bl, ol, h1, -, h3, h4⟩
  ·omega
  ·exact ⟨bl, ol, h1, h3, h4⟩
 obtain ⟨bb, ob, rfl, hbbw, hcb⟩ : ∃ bl ol, ab = some ⟨bl, ol, none⟩ ∧ bl < w.heap.size ∧ ∀ i (h : i < y.labels.length) j, j < 1 → w.cell? ⟨bl, ol + i * 1 + j, none⟩ = (encS y.labels[i])[j]? := by
  rcases rb with h | ⟨bl, ol, h1, -, h3, h4⟩
  ·omega
  ·exact ⟨bl, ol, h1, h3, h4⟩
 have HCA : Hid (∀ w', Below w.heap.size w w' → ∀ j u, (x.labels.map Value.string)[j]? = some u → w'.cell? ((⟨ba, oa, none⟩ : Addr).add j) = some u) := fun w' hb j u hu =>
  (hb.cell (p := (⟨ba, oa, none⟩ : Addr).add j) (by rw [add_block]; exact hbaw)).trans (row_news hca j u hu)
 have HCB : Hid (∀ w', Below w.heap.size w w' → ∀ j u, (y.labels.map Value.string)[j]? = some u → w'.cell? ((⟨bb, ob, none⟩ : Addr).add j) = some u) := fun w' hb j u hu =>
  (hb.cell (p := (⟨bb, ob, none⟩ : Addr).add j) (by rw [add_block]; exact hbbw)).trans (row_news hcb j u hu)
 have HSW : Hid (∀ w', Below w.heap.size w w' → w'.cell? ⟨pa, 2, none⟩ = some (.slice (some ⟨ba, oa, none⟩) NA ca) ∧ w'.cell? ⟨pb, 2, none⟩ = some (.slice (some ⟨bb, ob, none⟩) NB cb)) := fun w' hb => ⟨keeps hb hpla qa, keeps hb hplb qb⟩
 have HLA : Hid (NA = (x.labels.map Value.string).length) := by unfold Hid; rw [List.length_map]; exact hNA
 have HLB : Hid (NB = (y.labels.map Value.string).length) := by unfold Hid; rw [List.length_map]; exact hNB
 have HLEN : Hid (NA + NB = (x.labels ++ y.labels).length) := by unfold Hid; rw [List.length_append, hNA, hNB]
 obtain ⟨i1, hi1, hz10, hz11, hz12⟩ := info_parts info_intD
 obtain ⟨i2, hi2, hz20, hz21, hz22⟩ := info_parts info_intsD
 obtain ⟨i3, hi3, hz30, hz31, hz32⟩ := info_parts info_strD
 have HDR : Hid (Below w.heap.size w (w.drew.alloc (.cells #[] 9))) := ((Below.refl _ _).drew).alloc (by simp) _
 have HO0 : Hid ((w.drew.alloc (.cells #[] 9)).ownsRow w.heap.size 9 1 (.slice (some ⟨w.heap.size, 0, none⟩) 0 0) 0 []) := by
  exact World.ownsRow_lit (base := w.heap.size) (e := 9) (size := 1) w.drew #[] 0 (by simp) (by decide) rfl
 clear hx hy hca hcb ra rb hNA hNB hpla hplb hbaw hbbw
 go_enter Tryz.func55, Tryz.ntmps55
 go_wp2
 go_region_held3 (fun w' => w'.cell? ⟨pa, 2, none⟩ = some (.slice (some ⟨ba, oa, none⟩) NA ca) ∧ w'.cell? ⟨pb, 2, none⟩ = some (.slice (some ⟨bb, ob, none⟩) NB cb))
  (first
   | exact HSW.out _ HDR.out
   | exact HSW.out _ hq1
   | exact HSW.out _ hq2
   | exact HSW.out _ hq3
   | go_keep)
  (first
   | (go_at_call 112; refine Calls.mono (l11Join_any w.heap.size _ (x.labels ++ y.labels) _ (SliceK.of_owns (enc := encS) (e := 9) encS_len HLEN.out (by rw [flat_encS, List.map_append]; exact hown2)) (by rw [← HLEN.out]; omega)) ?_; rintro e w3 ⟨v3, rfl, hb3, ho3⟩; have hq3 : Below w.heap.size w w3 := hq2.trans (hb3.mono hs2))
   | (refine step_append_lies _ (by rfl) _ _ 22 (by rfl) w.heap.size 9 i3 _ 1 16 Tryz.underlying22 hi3 hz30 hz31 hz32 rfl (by omega) (.slice (some ⟨w.heap.size, 0, none⟩) 0 0) 0 [] (by rfl) HO0.out ⟨ba, oa, none⟩ NA ca (x.labels.map .string) (by rfl) (by rw [Nat.mul_one]; exact HLA.out.symm) (HCA.out _ HDR.out) (by intro u hu; obtain ⟨x, -, rfl⟩ := List.mem_map.1 hu; rfl) (by omega) (by simp [maxLen]; omega) (by omega) (by simp) _ (by rfl) ?_; intro gg1 cap1 w1 hown1 hgrow1 hat1 hlt1; have hq1 : Below w.heap.size w w1 := HDR.out.grown hgrow1 (by simp) (fun b e => by cases e; exact Nat.le_refl _); have hs1 := hq1.size; rw [List.nil_append] at hown1; rw [Nat.zero_add] at hown1 ⊢)
   | (refine step_append_lies _ (by rfl) _ _ 22 (by rfl) w.heap.size 9 i3 _ 1 16 Tryz.underlying22 hi3 hz30 hz31 hz32 rfl (by omega) _ NA _ (by rfl) hown1 ⟨bb, ob, none⟩ NB cb (y.labels.map .string) (by rfl) (by rw [Nat.mul_one]; exact HLB.out.symm) (HCB.out _ hq1) (by intro u hu; obtain ⟨x, -, rfl⟩ := List.mem_map.1 hu; rfl) (by omega) (by simp [maxLen]; omega) (by omega) (by omega) _ (by rfl) ?_; intro gg2 cap2 w2 hown2 hgrow2 hat2 hlt2; have hq2 : Below w.heap.size w w2 := hq1.grown hgrow2 hs1 (fun b e => (hown1.lt b e).1); have hs2 := hq2.size))
 -- the four slices' first members
 obtain ⟨LL, hLL⟩ : ∃ LL, LL = bothL x y := ⟨_, rfl⟩
 have hLe : labSet (tauT :: (x.labels ++ y.labels)) = LL := by rw [hLL]; rfl
 rw [hLe] at ho3
 obtain ⟨NL, hNL⟩ : ∃ NL, NL = LL.length := ⟨_, rfl⟩
 have hINO : InOrd LL := by rw [hLL]; exact InOrd.set _
 have hNL1 : 1 ≤ NL := by rw [hNL]; exact hINO.pos
 have hNL26 : NL ≤ 1001 := by
  rw [hNL, hLL]
  exact Nat.le_trans (labSet_few x y) (by rw [← HLEN.out]; omega)
 rw [← hNL] at ho3
 obtain ⟨gl, cl, rfl, hglB, hgl3⟩ := own_some ho3 hNL1
 obtain ⟨B, hB⟩ : ∃ B, B = w.heap.size := ⟨_, rfl⟩
 have HOL : Hid (w3.ownsRow B 9 1 (.slice (some ⟨gl, 0, none⟩) NL cl) NL (LL.map .string)) := by
  unfold Hid; rw [hB]; exact own_lower ho3 hs2
 have HB3 : Hid (Below B w w3) := by unfold Hid; rw [hB]; exact hq3
 have hB3 : B ≤ w3.heap.size := by rw [hB]; exact hq3.size
 have HBB := Lib.hid hB
 have HGL3 : Hid (gl < w3.heap.size) := hgl3
 have HNL := Lib.hid hNL
 have HLL := Lib.hid hLL
 obtain ⟨W4, hW4⟩ : ∃ W4, W4 = (((w3.alloc (.cells #[.int .i64 0] 2)).alloc (.cells #[.int .i64 0] 2)).alloc (.cells #[.int .i64 (-1)] 3)).alloc (.cells #[.string ⟨#[]⟩] 9) := ⟨_, rfl⟩
 obtain ⟨G, hG⟩ : ∃ G, G = w3.heap.size := ⟨_, rfl⟩
 have hb34 : Below G w3 W4 := by rw [hW4, hG]; exact ((((Below.refl _ _).alloc (Nat.le_refl _) _).alloc (by simp) _).alloc (by simp; omega) _).alloc (by simp; omega) _
 have HOD4 : Hid (OwnD B W4 (.slice (some ⟨G, 0, none⟩) 1 1) (.slice (some ⟨G + 1, 0, none⟩) 1 1) (.slice (some ⟨G + 1 + 1, 0, none⟩) 1 1) (.slice (some ⟨G + 1 + 1 + 1, 0, none⟩) 1 1) [0] [0] [-1] [⟨#[]⟩]) := by
  have r1 := World.ownsRow_lit (base := B) (e := 2) (size := 1) w3 #[.int .i64 0] 1 hB3 (by decide) rfl
  have r2 := World.ownsRow_lit (base := B) (e := 2) (size := 1) (w3.alloc (.cells #[.int .i64 0] 2)) #[.int .i64 0] 1 (by simp; omega) (by decide) rfl
  have r3 := World.ownsRow_lit (base := B) (e := 3) (size := 1) ((w3.alloc (.cells #[.int .i64 0] 2)).alloc (.cells #[.int .i64 0] 2)) #[.int .i64 (-1)] 1 (by simp; omega) (by decide) rfl
  have r4 := World.ownsRow_lit (base := B) (e := 9) (size := 1) (((w3.alloc (.cells #[.int .i64 0] 2)).alloc (.cells #[.int .i64 0] 2)).alloc (.cells #[.int .i64 (-1)] 3)) #[.string ⟨#[]⟩] 1 (by simp; omega) (by decide) rfl
  simp only [World.size_alloc] at r2 r3 r4
  unfold Hid
  rw [hW4, hG]
  exact ⟨((r1.alloc _).alloc _).alloc _, (r2.alloc _).alloc _, r3.alloc _, r4, by simp [Value.ownBlock], by simp [Value.ownBlock]⟩
 have HOL4 : Hid (W4.ownsRow B 9 1 (.slice (some ⟨gl, 0, none⟩) NL cl) NL (LL.map .string)) := owns_below HOL.out (by rw [← hG]; exact hb34)
 have hB4 : B ≤ W4.heap.size := Nat.le_trans hB3 hb34.size
 have HB4 : Hid (Below B w W4) := HB3.out.trans (hb34.mono (by rw [hG]; exact hB3))
 have hgl4 : gl < W4.heap.size := (HOL4.out.lt gl rfl).2
 have HBL4 : Hid (B ≤ gl) := by unfold Hid; rw [hB]; omega
 have hst : DSt x y both [[]] 0 0 := by
  refine NSt.start ?_ ?_
  ·rintro ⟨h1, -⟩; exact absurd h1 (by decide)
  ·rintro (⟨h1, -⟩ | ⟨-, -, h1⟩) <;> exact absurd h1 (by decide)
 have HST := Lib.hid hst
 have HW4 := Lib.hid hW4
 have HG := Lib.hid hG
 clear hst hLe ho3 hINO hglB hgl3 hB hNL hLL hW4 hG hb34 hB3 hb3 hq3 hq2 hq1 hs1 hs2 hown1 hown2 hgrow1 hgrow2 hat1 hat2 hlt1 hlt2
 go_wp2
 rw [← HG.out]
 try rw [← HG.out] at HW4
 try rw [← HW4.out]
 go_loopw [9, 10, 11, 12, 13] (fun v9 v10 v11 v12 v13 wr => ∃ (i : Nat) (N : List (List Nat)) (bs : List Int) (ys : List ByteArray), v13 = .int .i64 i ∧ i ≤ N.length ∧ DSt x y both N i 0 ∧ BackOk LL N bs ys ∧ Below B w wr ∧ (wr.ownsRow B 9 1 (.slice (some ⟨gl, 0, none⟩) NL cl) NL (LL.map .string) ∧ v12.ownBlock ≠ some gl) ∧ OwnD B wr v9 v10 v11 v12 (N.map fun u => (difS x y LL u).1) (N.map fun u => (difS x y LL u).2) bs ys) (fun _ _ _ _ v13 _ => 2000 - (intOf v13).toNat)
 case atStart => exact ⟨0, [[]], [-1], [⟨#[]⟩], rfl, by simp, HST.out, BackOk.one LL, HB4.out, ⟨HOL4.out, by have := HGL3.out; have := HG.out; simp [Value.ownBlock]; omega⟩, HOD4.out⟩
 case round =>
  clear HOD4 HB4 HST HOL
  obtain ⟨i, N, bs, ys, rfl, hiN, hst, hbk, hbl, hbl4, hod⟩ := hrel
  obtain ⟨wC, rfl⟩ : ∃ wC : World, wC = wr := ⟨_, rfl⟩
  have HSTC := Lib.hid hst
  have HBK := Lib.hid hbk
  have HBL := Lib.hid hbl
  have HOD := Lib.hid hod
  have hN16 : N.length ≤ 1600 := NSt.few HX.out HY.out hst
  have hBC : B ≤ wC.heap.size := by have := hbl.size; have := HBB.out; omega
  have HOLC := Lib.hid hbl4
  obtain ⟨la, lc, rfl, -, -⟩ := owns_slice hod.left
  rw [List.length_map] at HOD ⊢
  by_cases hlt : i < N.length
  ·obtain ⟨u, hu⟩ : ∃ u, N[i]? = some u := ⟨_, List.getElem?_eq_getElem hlt⟩
   have HU := Lib.hid hu
   clear hst hbk hbl hbl4 hod hu
   go_wp2
   go_loopw [9, 10, 11, 12, 14] (fun v9 v10 v11 v12 v14 wr => ∃ (j k : Nat) (N : List (List Nat)) (bs : List Int) (ys : List ByteArray), v14 = .int .i64 j ∧ j = k + 1 ∧ j ≤ NL ∧ DSt x y both N i k ∧ N[i]? = some u ∧ BackOk LL N bs ys ∧ Below B w wr ∧ (wr.ownsRow B 9 1 (.slice (some ⟨gl, 0, none⟩) NL cl) NL (LL.map .string) ∧ v12.ownBlock ≠ some gl) ∧ OwnD B wr v9 v10 v11 v12 (N.map fun u => (difS x y LL u).1) (N.map fun u => (difS x y LL u).2) bs ys) (fun _ _ _ _ v14 _ => 2000 - (intOf v14).toNat)
   case atStart => exact ⟨1, 0, N, bs, ys, by go_num, rfl, hNL1, HSTC.out, HU.out, HBK.out, HBL.out, HOLC.out, by have := HOD.out; exact this⟩
   case round =>
    clear HOD HOLC HSTC HBK HBL hN16 hlt hiN hBC
    obtain ⟨j, k, N, bs, ys, rfl, hjk, hkN, hst, hu2, hbk, hbl, hbl4, hod⟩ := hrel
    obtain ⟨wC, rfl⟩ : ∃ wC : World, wC = wr := ⟨_, rfl⟩
    have HSTC := Lib.hid hst
    have HBK := Lib.hid hbk
    have HBL := Lib.hid hbl
    have hN16 : N.length ≤ 1600 := NSt.few HX.out HY.out hst
    have hBC : B ≤ wC.heap.size := by have := hbl.size; have := HBB.out; omega
    have HOLC := Lib.hid hbl4
    have hiN : i < N.length := (List.getElem?_eq_some_iff.1 hu2).1
    have HU2 := Lib.hid hu2
    by_cases hkL : j < NL
    ·have hjL : j < LL.length := by rw [← HNL.out]; exact hkL
     obtain ⟨M, hM⟩ : ∃ M, M = N.length := ⟨_, rfl⟩
     obtain ⟨ls, hls⟩ : ∃ ls, ls = N.map fun u => (difS x y LL u).1 := ⟨_, rfl⟩
     obtain ⟨rs, hrs⟩ : ∃ rs, rs = N.map fun u => (difS x y LL u).2 := ⟨_, rfl⟩
     have hlsM : ls.length = M := by rw [hls, List.length_map, hM]
     have hrsM : rs.length = M := by rw [hrs, List.length_map, hM]
     have hbsM : bs.length = M := by rw [hbk.1, hM]
     have hysM : ys.length = M := by rw [hbk.2.1, hM]
     rw [← hls, ← hrs] at hod
     rw [← hM] at hN16 hiN
     have hM0 : 0 < M := by omega
     obtain ⟨gA, cA, rfl, hgA, hgAw⟩ := own_some hod.left (by omega)
     obtain ⟨gB, cB, rfl, hgB, hgBw⟩ := own_some hod.right (by omega)
     obtain ⟨gC, cC, rfl, hgC, hgCw⟩ := own_some hod.before (by omega)
     obtain ⟨gD, cD, rfl, hgD, hgDw⟩ := own_some hod.by_ (by omega)
     rw [hlsM, hrsM, hbsM, hysM] at hod ⊢
     rw [hysM] at hbl4 HOLC
     have hl1 := hod.left
     have hr1 := hod.right
     rw [hlsM] at hl1
     rw [hrsM] at hr1
     have cA1 := cell_num hl1 hiN
     have cB1 := cell_num hr1 hiN
     rw [hls, (word_at hu2).1] at cA1
     rw [hrs, (word_at hu2).2] at cB1
     have cl0 := hbl4.1.cellAt j (by omega)
     rw [List.getElem?_map, List.getElem?_eq_getElem hjL, Option.map_some] at cl0
     obtain ⟨l, hl⟩ : ∃ l, l = labK LL k := ⟨_, rfl⟩
     have hlk : LL[j] = l := by
      rw [hl]; unfold labK
      rw [← hjk, List.getD_eq_getElem?_getD, List.getElem?_eq_getElem hjL, Option.getD_some]
     rw [hlk] at cl0
     obtain ⟨p1, hp1⟩ : ∃ p1, p1 = (difS x y LL u).1 := ⟨_, rfl⟩
     obtain ⟨p2, hp2⟩ : ∃ p2, p2 = (difS x y LL u).2 := ⟨_, rfl⟩
     rw [← hp1] at cA1
     rw [← hp2] at cB1
     obtain ⟨X, hXX⟩ : ∃ X, X = goTo x p1 l := ⟨_, rfl⟩
     obtain ⟨Y, hYY⟩ : ∃ Y, Y = goTo y p2 l := ⟨_, rfl⟩
     have HDS : Hid (difS x y LL (k :: u) = (X, Y)) := by
      unfold Hid
      rw [difS_cons, ← hp1, ← hp2, ← hl, ← hXX, ← hYY]
     have HBW : Hid (∀ w', Below wC.heap.size wC w' → Below w.heap.size w w') := fun w' hb => by
      have h := hbl
      rw [HBB.out] at h
      exact h.trans (hb.mono h.size)
     have HGX : Hid (∀ w', Below wC.heap.size wC w' → Calls Tryz.prog 72 #[.pointer (some ⟨pa, 0, none⟩), .int .i64 p1, .string l] w' fun e w'' => e = .returned (.int .i64 X) ∧ Below w'.heap.size w' w'') := fun w' hb => by
      rw [hXX]; exact l12Go_any pa lo x p1 l w' HX.out.edge (HPA.out.below (HBW.out _ hb))
     have HGY : Hid (∀ w', Below wC.heap.size wC w' → Calls Tryz.prog 72 #[.pointer (some ⟨pb, 0, none⟩), .int .i64 p2, .string l] w' fun e w'' => e = .returned (.int .i64 Y) ∧ Below w'.heap.size w' w'') := fun w' hb => by
      rw [hYY]; exact l12Go_any pb lo y p2 l w' HY.out.edge (HPB.out.below (HBW.out _ hb))
     have hgLw : gl < wC.heap.size := (hbl4.1.lt gl rfl).2
     have HOD := Lib.hid hod
     have HLS := Lib.hid hls
     have HRS := Lib.hid hrs
     have HLSM := Lib.hid hlsM
     have HRSM := Lib.hid hrsM
     have HBSM := Lib.hid hbsM
     have HYSM := Lib.hid hysM
     have HM := Lib.hid hM
     have HLK : Hid (l = labK LL k) := hl
     have HJK := Lib.hid hjk
     have HKK : Hid (k < LL.length - 1) := by unfold Hid; omega
     have HCB : Hid (wC.cell? ⟨gB, i, none⟩ = some (.int .i64 p2)) := cB1
     have HCL : Hid (wC.cell? ⟨gl, j, none⟩ = some (.string l)) := cl0
     have lA := later_cell hgAw cA1
     have lL := later_cell hgLw cl0
     clear hst hbk hbl hbl4 hod hu2 hls hrs hl1 hr1 cA1 cB1 cl0 hlk hl hp1 hp2 hXX hYY hM hlsM hrsM hbsM hysM hjL hjk
     go_wp2
     refine wp_region_later (by kernel_rfl) (by kernel_rfl) ?_
     repeat (go_big_quiet_step ((go_at_call 72; exact later_call (HGX.out _ (Later.h _)))))
     refine wpQuiet_nil ?_
     intro _ hw9
     obtain ⟨nl, hw8⟩ := hw9
     subst hw8
     obtain ⟨w5, hw5⟩ : ∃ w5, w5 = nl.w := ⟨_, rfl⟩
     have hb5 : Below wC.heap.size wC w5 := by rw [hw5]; exact nl.h
     rw [← hw5]
     have HB5 := Lib.hid hb5
     have hs5 := hb5.size
     have lB := later_cell (Nat.lt_of_lt_of_le hgBw hs5) (keeps hb5 hgBw HCB.out)
     have lL5 := later_cell (Nat.lt_of_lt_of_le hgLw hs5) (keeps hb5 hgLw HCL.out)
     clear lA lL hw5 hb5
     clear nl
     go_wp2
     refine wp_region_later (by kernel_rfl) (by kernel_rfl) ?_
     repeat (go_big_quiet_step ((go_at_call 72; exact later_call (HGY.out _ (HB5.out.trans ((Later.h _).mono hs5))))))
     refine wpQuiet_nil ?_
     intro _ hw9
     obtain ⟨nl, hw8⟩ := hw9
     subst hw8
     obtain ⟨w6, hw6⟩ : ∃ w6, w6 = nl.w := ⟨_, rfl⟩
     have hb6 : Below wC.heap.size wC w6 := by rw [hw6]; exact HB5.out.trans (nl.h.mono hs5)
     rw [← hw6]
     have HB6 := Lib.hid hb6
     have hs6 := hb6.size
     have HOD6 := Lib.hid (HOD.out.below hb6)
     have HOL6 : Hid (w6.ownsRow B 9 1 (.slice (some ⟨gl, 0, none⟩) NL cl) NL (LL.map .string)) := owns_below HOLC.out.1 hb6
     have HCL6 : Hid (w6.cell? ⟨gl, j, none⟩ = some (.string l)) := keeps hb6 hgLw HCL.out
     have HBW6 : Hid (Below B w w6) := by unfold Hid; rw [HBB.out]; exact HBW.out _ hb6
     have HNE6 : Hid (some gD ≠ some gl) := by unfold Hid; have := HOLC.out.2; simpa [Value.ownBlock] using this
     clear lB lL5 hw6 hb6
     clear nl
     by_cases hdead : deadP both (X, Y)
     ·have HPS : Hid (DSt x y both N i (k + 1)) := DSt.pass HLL.out HSTC.out HU2.out HDS.out (.inl hdead)
      have hc : (Y < 0 ∧ X < 0) ∨ (Y < 0 ∧ ¬ X < 0 ∧ both = false) := by
       have h1 : Y < 0 := hdead.1
       by_cases h2 : X < 0
       ·exact .inl ⟨h1, h2⟩
       ·exact .inr ⟨h1, h2, by cases both with | false => rfl | true => exact absurd (hdead.2 rfl) h2⟩
      clear hdead
      rcases hc with ⟨hY, hX⟩ | ⟨hY, hX, rfl⟩
      all_goals (
       go_wp2
       go_roundw
       case rel => exact ⟨j + 1, k + 1, N, bs, ys, by go_num, by have := HJK.out; omega, by omega, HPS.out, HU2.out, HBK.out, HBW6.out, ⟨HOL6.out, by have := HNE6.out; simpa [Value.ownBlock] using this⟩, by have := HOD6.out; rw [HLS.out, HRS.out] at this; exact this⟩
       case measure => simp [intOf]; omega)
     ·by_cases hap : apart both (X, Y)
      ·have HLE := Lib.hid (DSt.found HLL.out HSTC.out HU2.out HKK.out HDS.out hap)
       have hc : (Y < 0 ∧ ¬ X < 0 ∧ both = true) ∨ (¬ Y < 0 ∧ X < 0) := by
        rcases hap with ⟨h1, h2⟩ | ⟨h1, h2, h3⟩
        ·simp only at h1 h2
         exact .inr ⟨by omega, h1⟩
        ·simp only at h2 h3
         exact .inl ⟨h3, by omega, h1⟩
       clear hdead hap
       rcases hc with ⟨hY, hX, rfl⟩ | ⟨hY, hX⟩
       all_goals (
        have c16 := HCL6.out
        obtain ⟨W7, hW7⟩ : ∃ W7, W7 = w6.alloc (.cells #[.string l] 9) := ⟨_, rfl⟩
        have HB7 : Hid (Below w6.heap.size w6 W7) := by unfold Hid; rw [hW7]; exact (Below.refl _ _).alloc (Nat.le_refl _) _
        have HT7 : Hid (W7.ownsRow w6.heap.size 9 1 (.slice (some ⟨w6.heap.size, 0, none⟩) 1 1) 1 ([l].map .string)) := by
         unfold Hid; rw [hW7]
         exact World.ownsRow_lit (base := w6.heap.size) (e := 9) (size := 1) w6 #[.string l] 1 (Nat.le_refl _) (by decide) rfl
        have HW7 := Lib.hid hW7
        have HB6S : Hid (w.heap.size ≤ w6.heap.size ∧ gD < w6.heap.size ∧ gC < w6.heap.size) := by unfold Hid; have := HBB.out; omega
        have HIW : Hid (∀ a z, N[a]? = some z → 0 < a → ∃ (s : ByteArray) (p : Nat) (v : List Nat), p < a ∧ N[p]? = some v ∧ txtsOf LL v ++ [s] = txtsOf LL z ∧ a < M ∧ w6.cell? ⟨gD, a, none⟩ = some (.string s) ∧ w6.cell? ⟨gC, a, none⟩ = some (.int .i64 p)) := by
         intro a z hz ha
         obtain ⟨c, v, p, e1, e2, e3, e4, e5⟩ := HBK.out.2.2 a z hz ha
         have haM : a < M := by rw [HM.out]; exact (List.getElem?_eq_some_iff.1 hz).1
         refine ⟨labK LL c, p, v, e2, e3, by rw [e1, txtsOf_cons], haM, ?_, ?_⟩
         ·have h1 := HOD6.out.by_
          rw [HYSM.out] at h1
          have h2 := h1.cellAt a (by omega)
          rw [List.getElem?_map, e5] at h2
          exact h2
         ·have h1 := HOD6.out.before
          rw [HBSM.out] at h1
          have h2 := h1.cellAt a (by omega)
          rw [List.getElem?_map, e4] at h2
          exact h2
        have HIM : Hid (i ≤ 1600) := by unfold Hid; omega
        have HIMM : Hid ((i : Nat) < M) := by unfold Hid; omega
        clear hW7
        go_wp2
        rw [← HW7.out]
        clear c16
        go_loopw [17, 18] (fun v17 v18 wr => ∃ (a : Nat) (z : List Nat) (T : List ByteArray), v18 = .int .i64 a ∧ N[a]? = some z ∧ T.length + a ≤ i + 1 ∧ 0 < T.length ∧ txtsOf LL z ++ T = txtsOf LL (k :: u) ∧ Below w6.heap.size w6 wr ∧ wr.ownsRow w6.heap.size 9 1 v17 T.length (T.map .string)) (fun _ v18 _ => (intOf v18).toNat)
        case atStart => exact ⟨i, u, [l], rfl, HU2.out, by simp; omega, by simp, by rw [txtsOf_cons, HLK.out], HB7.out, HT7.out⟩
        case round =>
         clear HB7 HT7
         obtain ⟨a, z, T, rfl, hNa, hTa, hT0, hTX, hb7, hoT⟩ := hrel
         obtain ⟨w7, rfl⟩ : ∃ w7 : World, w7 = wr := ⟨_, rfl⟩
         have hs7 := hb7.size
         obtain ⟨TL, hTL⟩ : ∃ TL, TL = T.length := ⟨_, rfl⟩
         rw [← hTL] at hoT hTa hT0
         obtain ⟨gT, cT, rfl, hgT, hgTw⟩ := own_some hoT hT0
         have HTX := Lib.hid hTX
         have HB7 := Lib.hid hb7
         have HOT := Lib.hid hoT
         have HTL := Lib.hid hTL
         by_cases ha0 : 0 < a
         ·obtain ⟨sx, p, v, hpa, hNp, hsx, haM, cD, cC⟩ := HIW.out a z hNa ha0
          have cD7 := keeps hb7 HB6S.out.2.1 cD
          have HCC : Hid (w6.cell? ⟨gC, a, none⟩ = some (.int .i64 p)) := cC
          have HNP := Lib.hid hNp
          have HSX := Lib.hid hsx
          have HFR : Hid ((w7.alloc (.cells #[.string sx] 9)).ownsRow w6.heap.size 9 1 (.slice (some ⟨w7.heap.size, 0, none⟩) 1 1) 1 [.string sx]) :=
           World.ownsRow_lit (base := w6.heap.size) (e := 9) (size := 1) w7 #[.string sx] 1 hs7 (by decide) rfl
          have HTC : Hid (∀ j u, (T.map Value.string)[j]? = some u → (w7.alloc (.cells #[.string sx] 9)).cell? ((⟨gT, 0, none⟩ : Addr).add j) = some u) := (hoT.alloc _).cells rfl
          have hi16 := HIM.out
          clear hNa hTX hb7 hoT hTL hNp hsx cD cC
          go_wp2_with (at_builtin; refine wpList_append_own _ rfl _ _ 22 rfl w6.heap.size 9 i3 (.string ⟨#[]⟩) 1 16 Tryz.underlying22 hi3 hz30 hz31 hz32 rfl (by decide) _ 1 [.string sx] rfl HFR.out ⟨gT, 0, none⟩ TL cT (T.map .string) rfl ?c0 HTC.out ?c2 ?c3 ?c4 ?c5 ?_)
          case c0 => rw [List.length_map, HTL.out, Nat.mul_one]
          case c2 => intro u hu; obtain ⟨x, -, rfl⟩ := List.mem_map.1 hu; rfl
          case c3 => simp [maxLen]; omega
          case c4 => omega
          case c5 => simp; omega
          intro v8 w8 ho8 hg8 _
          have hb8 : Below w6.heap.size w6 w8 := ((HB7.out.alloc hs7 _).grown hg8 (by simp; omega) (fun b e => by cases e; exact hs7))
          have HB8 := Lib.hid hb8
          have cC8 := keeps hb8 HB6S.out.2.2 HCC.out
          have HO8 : Hid (w8.ownsRow w6.heap.size 9 1 v8 (sx :: T).length ((sx :: T).map .string)) := by
           unfold Hid
           rw [List.length_cons, ← HTL.out, Nat.add_comm TL 1]
           exact ho8
          obtain ⟨a8, c8, rfl, -, -⟩ := owns_slice HO8.out
          clear ho8 hg8 hb8
          go_wp2
          go_roundw
          case rel => exact ⟨p, v, sx :: T, by go_num, HNP.out, by rw [List.length_cons, ← HTL.out]; omega, by simp, by rw [← HTX.out, ← HSX.out]; simp, HB8.out, HO8.out⟩
          case measure => simp [intOf]; omega
         ·have ha1 : a = 0 := by omega
          have hz0 : z = [] := by
           have h := HSTC.out.first
           rw [ha1, h] at hNa
           cases hNa
           rfl
          have HTE : Hid (T = txtsOf (bothL x y) (k :: u)) := by
           unfold Hid
           rw [← HLL.out, ← hTX, hz0]
           rfl
          have HBF : Hid (Below w.heap.size w w7) := by
           have h := HBW6.out
           rw [HBB.out] at h
           exact h.trans (hb7.mono HB6S.out.1)
          have HOF : Hid (w7.ownsRow w.heap.size 9 1 (.slice (some ⟨gT, 0, none⟩) TL cT) T.length (T.map .string)) := by
           unfold Hid
           rw [← hTL]
           exact own_lower hoT HB6S.out.1
          have HTF : Hid (T.length ≤ 2000) := by unfold Hid; have := HIM.out; omega
          clear hNa hTX hb7 hoT hTL hz0
          go_wp2
          go_ret2
          exact ⟨HBF.out, true, _, T, rfl, HOF.out, HTF.out, .inr ⟨rfl, _, HLE.out, HTE.out⟩⟩)
      ·have hXY : ¬ X < 0 ∧ ¬ Y < 0 := by
        have := in_both hdead hap
        simp only at this
        omega
       have HDE := Lib.hid hdead
       have HAP := Lib.hid hap
       obtain ⟨hX, hY⟩ := hXY
       clear hdead hap
       go_wp2
       go_loop [19, 20] (fun v19 v20 => ∃ m : Nat, m ≤ M ∧ v20 = .int .i64 m ∧ v19 = .bool (hitTo ls rs X Y m)) (fun _ v20 => M - (intOf v20).toNat)
       case atStart => exact ⟨0, Nat.zero_le _, rfl, by rw [hitTo_zero]⟩
       case round =>
        obtain ⟨m, hm, rfl, rfl⟩ := hrel
        by_cases hmM : m < M
        ·have hl1 := HOD6.out.left
         rw [HLSM.out] at hl1
         have hr1 := HOD6.out.right
         rw [HRSM.out] at hr1
         have cm := cell_num hl1 hmM
         have dm := cell_num hr1 hmM
         have HS := Lib.hid (hitTo_succ (X := X) (Y := Y) (show m < ls.length by rw [HLSM.out]; exact hmM) (show m < rs.length by rw [HRSM.out]; exact hmM))
         obtain ⟨a, ha⟩ : ∃ a, a = ls.getD m 0 := ⟨_, rfl⟩
         obtain ⟨b, hb⟩ : ∃ b, b = rs.getD m 0 := ⟨_, rfl⟩
         rw [← ha] at cm HS
         rw [← hb] at dm HS
         clear hl1 hr1 ha hb
         cases hh : hitTo ls rs X Y m with
         | true =>
          rw [hh] at HS
          go_wp2
          go_round
          case rel => exact ⟨m + 1, by omega, by go_num, by rw [HS.out]; rfl⟩
          case measure => simp [intOf]; omega
         | false =>
          rw [hh] at HS
          cases hxb : (a == X) with
          | false =>
           rw [hxb] at HS
           go_wp2
           go_round
           case rel => exact ⟨m + 1, by omega, by go_num, by rw [HS.out]; rfl⟩
           case measure => simp [intOf]; omega
          | true =>
           rw [hxb] at HS
           cases hyb : (b == Y) with
           | false =>
            rw [hyb] at HS
            go_wp2
            go_round
            case rel => exact ⟨m + 1, by omega, by go_num, by rw [HS.out]; rfl⟩
            case measure => simp [intOf]; omega
           | true =>
            rw [hyb] at HS
            go_wp2
            go_round
            case rel => exact ⟨m + 1, by omega, by go_num, by rw [HS.out]; rfl⟩
            case measure => simp [intOf]; omega
        ·have hmM2 : m = M := by omega
         cases hh : hitTo ls rs X Y m with
         | true =>
          have HPS : Hid (DSt x y both N i (k + 1)) := by
           rw [hmM2, HM.out, HLS.out, HRS.out] at hh
           exact DSt.pass HLL.out HSTC.out HU2.out HDS.out (.inr (hitTo_words.1 hh))
          clear hmM2
          go_wp2
          go_roundw
          case rel => exact ⟨j + 1, k + 1, N, bs, ys, by go_num, by have := HJK.out; omega, by omega, HPS.out, HU2.out, HBK.out, HBW6.out, ⟨HOL6.out, by have := HNE6.out; simpa [Value.ownBlock] using this⟩, by have := HOD6.out; rw [HLS.out, HRS.out] at this; exact this⟩
          case measure => simp [intOf]; omega
         | false =>
          have HMT : Hid (DSt x y both (N ++ [k :: u]) i (k + 1)) := by
           rw [hmM2, HM.out, HLS.out, HRS.out] at hh
           exact DSt.meet HLL.out HSTC.out HU2.out HKK.out HDS.out HDE.out HAP.out (fun h => by rw [hitTo_words.2 h] at hh; cases hh)
          have HBKN : Hid (BackOk LL (N ++ [k :: u]) (bs ++ [(i : Int)]) (ys ++ [l])) := by unfold Hid; rw [HLK.out]; exact HBK.out.push HU2.out
          have hB6 : B ≤ w6.heap.size := Nat.le_trans hBC hs6
          have HL1 : Hid ((w6.alloc (.cells #[.int .i64 X] 2)).ownsRow B 2 1 (.slice (some ⟨gA, 0, none⟩) M cA) M (ls.map (Value.int .i64))) := by
           have h := HOD6.out.left
           rw [HLSM.out] at h
           exact h.alloc _
          clear hmM2
          go_wp2_with (at_builtin; refine wpList_append_own_at _ rfl _ _ 83 rfl B 2 i1 (.int .i64 0) 1 8 Tryz.underlying83 hi1 hz10 hz11 hz12 rfl (by decide) _ M _ rfl HL1.out ⟨w6.heap.size, 0, none⟩ 1 1 [.int .i64 X] rfl rfl (World.news_of_block (cs := #[.int .i64 X]) (t := 2) (fr := (0, 0)) (heap_alloc_new _ _)) ?k2 ?k3 ?k4 ?k5 ?_)
          case k2 => first | (intro u hu; simp at hu; subst hu; rfl) | rfl
          case k3 => first | (simp [maxLen]; omega) | omega
          case k4 => omega
          case k5 => first | omega | (simp; omega)
          intro v7 w7 ho7 hg7 _ ha7
          have HB7 : Hid (Below B w w7) := (HBW6.out.alloc (by have := HBB.out; omega) _).grown hg7 (by simp; omega) (fun b e => (HL1.out.lt b e).1)
          have HOD7 : Hid (OwnD B w7 v7 (.slice (some ⟨gB, 0, none⟩) M cB) (.slice (some ⟨gC, 0, none⟩) M cC) (.slice (some ⟨gD, 0, none⟩) M cD) (ls ++ [X]) rs bs ys) := HOD6.out.pushL hg7 (by rw [HLSM.out]; exact ho7) (by simpa using ha7)
          have HOL7 : Hid (w7.ownsRow B 9 1 (.slice (some ⟨gl, 0, none⟩) NL cl) NL (LL.map .string)) := (HOL6.out.alloc _).kept hg7 (own_types (HOL6.out.alloc _) HL1.out (by decide))
          have hs7 : w6.heap.size ≤ w7.heap.size := by have := hg7.size; simp at this; omega
          obtain ⟨a7, c7, rfl, -, -⟩ := owns_slice ho7
          clear ho7 hg7 ha7 HL1
          have HL2 : Hid ((w7.alloc (.cells #[.int .i64 Y] 2)).ownsRow B 2 1 (.slice (some ⟨gB, 0, none⟩) M cB) M (rs.map (Value.int .i64))) := by
           have h := HOD7.out.right
           rw [HRSM.out] at h
           exact h.alloc _
          go_wp2_with (at_builtin; refine wpList_append_own_at _ rfl _ _ 83 rfl B 2 i1 (.int .i64 0) 1 8 Tryz.underlying83 hi1 hz10 hz11 hz12 rfl (by decide) _ M _ rfl HL2.out ⟨w7.heap.size, 0, none⟩ 1 1 [.int .i64 Y] rfl rfl (World.news_of_block (cs := #[.int .i64 Y]) (t := 2) (fr := (0, 0)) (heap_alloc_new _ _)) ?k2 ?k3 ?k4 ?k5 ?_)
          case k2 => first | (intro u hu; simp at hu; subst hu; rfl) | rfl
          case k3 => first | (simp [maxLen]; omega) | omega
          case k4 => omega
          case k5 => first | omega | (simp; omega)
          intro v8 w8 ho8 hg8 _ ha8
          have HB8 : Hid (Below B w w8) := (HB7.out.alloc (by have := HBB.out; omega) _).grown hg8 (by simp; omega) (fun b e => (HL2.out.lt b e).1)
          have HOD8 : Hid (OwnD B w8 (.slice a7 (M + 1) c7) v8 (.slice (some ⟨gC, 0, none⟩) M cC) (.slice (some ⟨gD, 0, none⟩) M cD) (ls ++ [X]) (rs ++ [Y]) bs ys) := HOD7.out.pushR hg8 (by rw [HRSM.out]; exact ho8) (by simpa using ha8)
          have HOL8 : Hid (w8.ownsRow B 9 1 (.slice (some ⟨gl, 0, none⟩) NL cl) NL (LL.map .string)) := (HOL7.out.alloc _).kept hg8 (own_types (HOL7.out.alloc _) HL2.out (by decide))
          have hs8 : w7.heap.size ≤ w8.heap.size := by have := hg8.size; simp at this; omega
          obtain ⟨a8, c8, rfl, -, -⟩ := owns_slice ho8
          clear ho8 hg8 ha8 HL2 HOD7 HOL7 HB7
          have HL3 : Hid ((w8.alloc (.cells #[.int .i64 i] 3)).ownsRow B 3 1 (.slice (some ⟨gC, 0, none⟩) M cC) M (bs.map (Value.int .i64))) := by
           have h := HOD8.out.before
           rw [HBSM.out] at h
           exact h.alloc _
          go_wp2_with (at_builtin; refine wpList_append_own_at _ rfl _ _ 138 rfl B 3 i2 (.int .i64 0) 1 8 Tryz.underlying138 hi2 hz20 hz21 hz22 rfl (by decide) _ M _ rfl HL3.out ⟨w8.heap.size, 0, none⟩ 1 1 [.int .i64 i] rfl rfl (World.news_of_block (cs := #[.int .i64 i]) (t := 3) (fr := (0, 0)) (heap_alloc_new _ _)) ?k2 ?k3 ?k4 ?k5 ?_)
          case k2 => first | (intro u hu; simp at hu; subst hu; rfl) | rfl
          case k3 => first | (simp [maxLen]; omega) | omega
          case k4 => omega
          case k5 => first | omega | (simp; omega)
          intro v9 w9 ho9 hg9 _ ha9
          have HB9 : Hid (Below B w w9) := (HB8.out.alloc (by have := HBB.out; omega) _).grown hg9 (by simp; omega) (fun b e => (HL3.out.lt b e).1)
          have HOD9 : Hid (OwnD B w9 (.slice a7 (M + 1) c7) (.slice a8 (M + 1) c8) v9 (.slice (some ⟨gD, 0, none⟩) M cD) (ls ++ [X]) (rs ++ [Y]) (bs ++ [(i : Int)]) ys) := HOD8.out.pushB hg9 (by rw [HBSM.out]; exact ho9)
          have HOL9 : Hid (w9.ownsRow B 9 1 (.slice (some ⟨gl, 0, none⟩) NL cl) NL (LL.map .string)) := (HOL8.out.alloc _).kept hg9 (own_types (HOL8.out.alloc _) HL3.out (by decide))
          have hs9 : w8.heap.size ≤ w9.heap.size := by have := hg9.size; simp at this; omega
          obtain ⟨a9, c9, rfl, -, -⟩ := owns_slice ho9
          have c99 : w9.cell? ⟨gl, j, none⟩ = some (.string l) := by
           have h1 := HOL9.out.cellAt j (by omega)
           have h2 := HOL6.out.cellAt j (by omega)
           rw [h1, ← h2]
           exact HCL6.out
          clear ho9 hg9 ha9 HL3 HOD8 HOL8 HB8
          have HL4 : Hid ((w9.alloc (.cells #[.string l] 9)).ownsRow B 9 1 (.slice (some ⟨gD, 0, none⟩) M cD) M (ys.map .string)) := by
           have h := HOD9.out.by_
           rw [HYSM.out] at h
           exact h.alloc _
          go_wp2_with (at_builtin; refine wpList_append_own_at _ rfl _ _ 22 rfl B 9 i3 (.string ⟨#[]⟩) 1 16 Tryz.underlying22 hi3 hz30 hz31 hz32 rfl (by decide) _ M _ rfl HL4.out ⟨w9.heap.size, 0, none⟩ 1 1 [.string l] rfl rfl (World.news_of_block (cs := #[.string l]) (t := 9) (fr := (0, 0)) (heap_alloc_new _ _)) ?k2 ?k3 ?k4 ?k5 ?_)
          case k2 => first | (intro u hu; simp at hu; subst hu; rfl) | rfl
          case k3 => first | (simp [maxLen]; omega) | omega
          case k4 => omega
          case k5 => first | omega | (simp; omega)
          intro v10 w10 ho10 hg10 _ ha10
          have HB10 : Hid (Below B w w10) := (HB9.out.alloc (by have := HBB.out; omega) _).grown hg10 (by simp; omega) (fun b e => (HL4.out.lt b e).1)
          have HOD10 : Hid (OwnD B w10 (.slice a7 (M + 1) c7) (.slice a8 (M + 1) c8) (.slice a9 (M + 1) c9) v10 (ls ++ [X]) (rs ++ [Y]) (bs ++ [(i : Int)]) (ys ++ [l])) := HOD9.out.pushY hg10 (by rw [HYSM.out]; exact ho10)
          have HOL10 : Hid (w10.ownsRow B 9 1 (.slice (some ⟨gl, 0, none⟩) NL cl) NL (LL.map .string)) := (HOL9.out.alloc _).kept hg10 (.inr fun e => HNE6.out e.symm)
          have HNE10 : Hid (v10.ownBlock ≠ some gl) := by
           unfold Hid
           rcases (show v10.ownBlock = some gD ∨ v10.ownBlock = some (w9.heap.size + 1) by simpa [Value.ownBlock] using ha10) with h | h <;> rw [h]
           ·exact HNE6.out
           ·have := (HOL9.out.lt gl rfl).2
            simp
            omega
          obtain ⟨a10, c10, rfl, -, -⟩ := owns_slice ho10
          have HE1 : Hid ((N ++ [k :: u]).map (fun u => (difS x y LL u).1) = ls ++ [X]) := by unfold Hid; rw [List.map_append, ← HLS.out, List.map_singleton, HDS.out]
          have HE2 : Hid ((N ++ [k :: u]).map (fun u => (difS x y LL u).2) = rs ++ [Y]) := by unfold Hid; rw [List.map_append, ← HRS.out, List.map_singleton, HDS.out]
          have HUN : Hid ((N ++ [k :: u])[i]? = some u) := by unfold Hid; rw [List.getElem?_append_left (by rw [← HM.out]; exact hiN)]; exact HU2.out
          clear ho10 hg10 ha10 HL4 HOD9 HOL9 HB9 c99
          go_wp2
          go_roundw
          case rel => exact ⟨j + 1, k + 1, N ++ [k :: u], bs ++ [(i : Int)], ys ++ [l], by go_num, by have := HJK.out; omega, by omega, HMT.out, HUN.out, HBKN.out, HB10.out, ⟨HOL10.out, HNE10.out⟩, by rw [HE1.out, HE2.out]; exact HOD10.out⟩
          case measure => simp [intOf]; omega
    ·have hk2 : k = NL - 1 := by omega
     have HNX : Hid (DSt x y both N (i + 1) 0) := by
      have h := HSTC.out
      unfold DSt at h ⊢
      rw [hk2, HNL.out, HLL.out] at h
      exact h.next
     have HOD := Lib.hid hod
     clear hst hu2 hbk hbl hbl4 hod
     go_wp2
     go_roundw
     case rel => exact ⟨i + 1, N, bs, ys, by go_num, hiN, HNX.out, HBK.out, HBL.out, HOLC.out, HOD.out⟩
     case measure => simp [intOf]; omega
  ·have HNO : Hid (NoWord ((0 : Int), (0 : Int)) (goBoth x y (bothL x y)) ((bothL x y).length - 1) (apart both)) :=
    NSt.none (deadP_step both x y (bothL x y)) (deadP_not both) HSTC.out (by omega)
   clear hst hbk hbl hbl4 hod
   go_wp2
   go_ret2
   refine ⟨by rw [← HBB.out]; exact HBL.out, false, .slice none 0 0, [], rfl, ⟨rfl, .inl ⟨rfl, rfl⟩⟩, Nat.zero_le _, .inl ⟨rfl, rfl, HNO.out⟩⟩

end Go.Proofs.YtpoleaekcjjedaaGreatDoor
