/-
  For all arguments the law FnDeterminate answers true.
-/
import Derived.Test.YthofaoabgbgbdaaGreatDoorG14
import Derived.Test.YthofaoabgbgbdaaGreatDoorG17
import Derived.Test.YthofaoabgbgbdaaGreatDoorG23
import Derived.Test.YthofaoabgbgbdaaGreatDoorG24
import Derived.Test.YthofaoabgbgbdaaGreatDoorG25
import Derived.Test.YthofaoabgbgbdaaGreatDoorG9
import Derived.Deep.Cut
namespace Go.Proofs.YthofaoabgbgbdaaGreatDoor
open Go Go.RowKit


/-- The codes of both determinizations, and what follows. -/
theorem det_codes {t d : Lts} {r : Bool} {xs : List ByteArray} {s : ByteArray} {xss : List (List Int)} {one two : Int} (hv : Valid t) (h1 : DetmIs t r xs s one) (h2 : DetIs t d xss two) :
  (one = 5 ∧ two = 5 ∧ DFull t) ∨ (one = 0 ∧ two = 0 ∧ ∃ st, DOk t st ∧ d = dSys t st ∧ ((r = true ∧ NoWord ((0 : Int), (0 : Int)) (goBoth (dSys t st) (dSys t st) t.labels) (t.labels.length - 1) (liveF fun p => undetL t (setOf st p.1) ≠ ByteArray.empty))
   ∨ (r = false ∧ Undet t xs s ∧ (aftL t xs).length ≤ 40))) := by
 rcases h1 with ⟨h, -⟩ | ⟨-, hf, -, -, -, h5⟩ | ⟨-, st, hok, h0, h3⟩
 ·exact absurd hv h
 ·rcases h2 with ⟨k, -⟩ | ⟨-, -, -, -, k5⟩ | ⟨-, st, hok, -⟩
  ·exact absurd hv k
  ·exact .inl ⟨h5, k5, hf⟩
  ·exact absurd hf hok.not_full
 ·rcases h2 with ⟨k, -⟩ | ⟨-, hf, -⟩ | ⟨-, st', hok', hd, -, k0⟩
  ·exact absurd hv k
  ·exact absurd hf hok.not_full
  ·have e := hok.1.unique hok'.1
   subst e
   refine .inr ⟨h0, k0, st, hok, hd, ?_⟩
   rcases h3 with ⟨hn, hr, -, -⟩ | ⟨u, hl, hr, rfl, rfl⟩
   ·exact .inl ⟨hr, hn⟩
   ·refine .inr ⟨hr, undet_is hv hok hl, ?_⟩
    rw [(aft_word hv hv hok hok (in_ord hv) u hl.1).1]
    have hq := word_low hv hok u
    have hG := dok_good hv hok
    obtain ⟨q, hqq⟩ : ∃ q, q = (difS (dSys t st) (dSys t st) t.labels u).1 := ⟨_, rfl⟩
    rw [← hqq] at hq ⊢
    by_cases h0 : q < 0
    ·rw [setOf_neg h0]; exact Nat.zero_le _
    ·have e0 : q = ((q.toNat : Nat) : Int) := by omega
     rw [e0, setOf_at (List.getElem?_eq_getElem (show q.toNat < st.rows.length by omega))]
     have hr := hG.rows _ (List.getElem_mem (show q.toNat < st.rows.length by omega))
     have h40 := hv.st1
     exact asc_few 40 _ hr.2.1 fun x hx => by have := hr.1 x hx; omega
theorem full_code {t d : Lts} {xss : List (List Int)} {c : Int} (hv : Valid t) (hf : DFull t) (h : DetIs t d xss c) : c = 5 := by
 rcases h with ⟨k, -⟩ | ⟨-, -, -, -, k5⟩ | ⟨-, st, hok, -⟩
 ·exact absurd hv k
 ·exact k5
 ·exact absurd hf hok.not_full
theorem div_code {t : Lts} {st : DNet} {xs : List ByteArray} {c : Int} (hv : Valid t) (hok : DOk t st) (h : DivIs t xs c) : c = 0 ∨ (c = 3 ∧ NoWord ((0 : Int), (0 : Int)) (goBoth (dSys t st) (dSys t st) t.labels) (t.labels.length - 1) (liveF fun p => divIn t st p.1)) := by
 rcases h with ⟨k, -⟩ | ⟨-, hf, -⟩ | ⟨-, st', hok', ⟨hn, -, h3⟩ | ⟨u, -, -, h0⟩⟩
 ·exact absurd hv k
 ·exact absurd hf hok.not_full
 ·have e := hok.1.unique hok'.1
  subst e
  exact .inr ⟨h3, hn⟩
 ·exact .inl h0
theorem short_mem {ls ms : List ByteArray} (h : Short20 ms) (hm : ∀ l ∈ ls, l ∈ ms) : Short20 ls := fun i hi => by
 obtain ⟨j, hj, e⟩ := List.mem_iff_getElem.1 (hm _ (List.getElem_mem hi))
 rw [← e]
 exact h j hj

set_option maxRecDepth 100000 in
set_option maxHeartbeats 4000000 in
theorem lawDeterminate (a0 : Option Addr) (N c0 : Nat) (bs : List UInt8) (w : World) (hN : N = bs.length) (hc : N ≤ 1048576 → BytesIn w.heap.size w (.slice a0 N c0) bs) (g : Glob w) :
  Calls Tryz.prog 3 #[.slice a0 N c0] w fun e w' => e = .returned (.bool true) ∧ Below w.heap.size w w' := by
 have HLG := Lib.hid (b10Long_any a0 N c0 w)
 by_cases hlong : 1048576 < N
 ·have hd : decide (1048576 < N) = true := decide_eq_true hlong
  rw [hd] at HLG
  clear hd hN hc
  go_enter Tryz.func3, Tryz.ntmps3
  go_wp2_with fail
  refine Calls.mono HLG.out ?_
  rintro e w1 ⟨rfl, rfl⟩
  go_wp2
  go_ret
  exact ⟨rfl, Below.refl _ _⟩
 have hd : decide (1048576 < N) = false := decide_eq_false hlong
 rw [hd] at HLG
 obtain ⟨i1, hi1, hz10, hz11, hz12⟩ := info_parts info_strD
 have HTD := Lib.hid (b10Lts_any (.slice a0 N c0) bs w (hc (by omega)))
 have HG := Lib.hid g
 clear hd hN hc g
 go_enter Tryz.func3, Tryz.ntmps3
 go_wp2_with fail
 refine Calls.mono HLG.out ?_
 rintro e w1 ⟨rfl, rfl⟩
 clear HLG
 go_wp2_with fail
 refine Calls.mono HTD.out ?_
 rintro e w1 ⟨hb1, t, lv, ev, rfl, hown, hv, hsh⟩
 obtain ⟨la, lc, rfl, -, -⟩ := owns_slice hown.1
 obtain ⟨ea, ec, rfl, -, -⟩ := owns_slice hown.2
 obtain ⟨tb, htb⟩ : ∃ tb, tb = w1.heap.size := ⟨_, rfl⟩
 obtain ⟨W2, hW2⟩ : ∃ W2, W2 = w1.alloc (.cells #[.int .i64 t.states, .int .i64 t.initial, .slice la t.labels.length lc, .slice ea t.edges.length ec] 27) := ⟨_, rfl⟩
 have hb2 : Below w1.heap.size w1 W2 := by rw [hW2]; exact (Below.refl _ _).alloc (Nat.le_refl _) _
 have hT : Blk W2 tb [.int .i64 t.states, .int .i64 t.initial, .slice la t.labels.length lc, .slice ea t.edges.length ec] 27 := by rw [hW2, htb]; exact Blk.new w1 _ _
 have hs1 : w.heap.size ≤ w1.heap.size := hb1.size
 have HB2 : Hid (Below w.heap.size w W2) := hb1.trans (hb2.mono hs1)
 have hs2 : w.heap.size ≤ W2.heap.size := HB2.out.size
 have HL := Lib.hid (SliceK.of_owns (enc := encS) (e := 9) encS_len rfl (by rw [flat_encS]; exact (hown.below hb2).1))
 have HE := Lib.hid (SliceK.of_owns (e := 68) encE_len rfl (hown.below hb2).2)
 have HT := Lib.hid hT
 have HV := Lib.hid hv
 have HSH := Lib.hid hsh
 have HG2 := Lib.hid (HG.out.below HB2.out)
 have HIM := Lib.hid (implIsDeterminate_any w.heap.size t _ _ W2 hsh HL.out HE.out HG2.out)
 have HW2 := Lib.hid hW2
 have HTB := Lib.hid htb
 have t0 := hT.cell 0 rfl
 have t1 := hT.cell 1 rfl
 have t2 := hT.cell 2 rfl
 have t3 := hT.cell 3 rfl
 clear hb1 hb2 hT hW2 htb hown hv hsh HTD HG
 go_upto_region 4 with fail
 rw [← HW2.out]
 try rw [← HTB.out]
 go_wp2_with fail
 refine Calls.mono HIM.out ?_
 rintro e w3 ⟨hb3, r, xs, s, one, xv, rfl, hans, hox⟩
 obtain ⟨xa, xc, rfl, -, -⟩ := owns_slice hox
 have HB3 := Lib.hid (HB2.out.trans (hb3.mono hs2))
 have hs3 : w.heap.size ≤ w3.heap.size := HB3.out.size
 have HT3 := Lib.hid (HT.out.below hb3)
 have HL3 := Lib.hid (HL.out.below hb3)
 have HE3 := Lib.hid (HE.out.below hb3)
 have HG3 := Lib.hid (HG2.out.below hb3)
 have HX3 := Lib.hid (hox.lower hs2)
 have HANS := Lib.hid hans
 have HDE := Lib.hid (implDeterminizeLts_any w.heap.size t _ _ w3 HSH.out HL3.out HE3.out HG3.out)
 clear hb3 hans hox HIM t0 t1 t2 t3 HT HL HE HG2
 have t0 := HT3.out.cell 0 rfl
 have t1 := HT3.out.cell 1 rfl
 have t2 := HT3.out.cell 2 rfl
 have t3 := HT3.out.cell 3 rfl
 go_wp2_with fail
 refine Calls.mono HDE.out ?_
 rintro e w4 ⟨hb4, d, xss, two, dl, de, dv, dvs, rfl, hdet, hod, -⟩
 obtain ⟨da, dc, rfl, -, -⟩ := owns_slice hod.1
 obtain ⟨dea, dec, rfl, -, -⟩ := owns_slice hod.2
 obtain ⟨db, hdb⟩ : ∃ db, db = w4.heap.size := ⟨_, rfl⟩
 obtain ⟨W5, hW5⟩ : ∃ W5, W5 = w4.alloc (.cells #[.int .i64 d.states, .int .i64 d.initial, .slice da d.labels.length dc, .slice dea d.edges.length dec] 27) := ⟨_, rfl⟩
 have hb5 : Below w4.heap.size w4 W5 := by rw [hW5]; exact (Below.refl _ _).alloc (Nat.le_refl _) _
 have hD : Blk W5 db [.int .i64 d.states, .int .i64 d.initial, .slice da d.labels.length dc, .slice dea d.edges.length dec] 27 := by rw [hW5, hdb]; exact Blk.new w4 _ _
 have hb35 : Below w3.heap.size w3 W5 := hb4.trans (hb5.mono hb4.size)
 have HB5 := Lib.hid (HB3.out.trans (hb35.mono hs3))
 have hs5 : w.heap.size ≤ W5.heap.size := HB5.out.size
 have HT5 := Lib.hid (HT3.out.below hb35)
 have HL5 := Lib.hid (HL3.out.below hb35)
 have HE5 := Lib.hid (HE3.out.below hb35)
 have HG5 := Lib.hid (HG3.out.below hb35)
 have HX5 := Lib.hid (OwnStrs.below HX3.out hb35)
 have HD5 := Lib.hid hD
 have HOD := Lib.hid ((hod.below hb5).lower hs3)
 have HDET := Lib.hid hdet
 have HW5 := Lib.hid hW5
 have HDB := Lib.hid hdb
 clear hb4 hb5 hb35 hD hW5 hdb hdet hod HDE t0 t1 t2 t3 HT3 HL3 HE3 HG3 HX3
 go_upto_region 6 with fail
 rw [← HW5.out]
 try rw [← HDB.out]
 have t0 := HT5.out.cell 0 rfl
 have t1 := HT5.out.cell 1 rfl
 have t2 := HT5.out.cell 2 rfl
 have t3 := HT5.out.cell 3 rfl
 rcases det_codes HV.out HANS.out.1 HDET.out with ⟨rfl, rfl, hf⟩ | ⟨rfl, rfl, st, hok, hdd, ⟨rfl, hno⟩ | ⟨rfl, hun, hfew⟩⟩
 ·have HSP := Lib.hid (specDeterminizeLts_any w.heap.size t _ _ W5 (fun i hi => Nat.le_trans (HSH.out i hi) (by decide)) HL5.out HE5.out)
  have HF := Lib.hid hf
  clear hf
  go_wp2_with fail
  refine Calls.mono HSP.out ?_
  rintro e w6 ⟨hb6, d3, xss3, c3, dl3, de3, dv3, dvs3, rfl, hdet3, hod3, -⟩
  obtain ⟨da3, dc3, rfl, -, -⟩ := owns_slice hod3.1
  obtain ⟨dea3, dec3, rfl, -, -⟩ := owns_slice hod3.2
  have h5 := full_code HV.out HF.out hdet3
  subst h5
  have HB6 := Lib.hid (HB5.out.trans (hb6.mono hs5))
  clear hb6 hdet3 hod3 HSP t0 t1 t2 t3
  go_wp2
  go_ret
  exact ⟨rfl, HB6.out.alloc HB6.out.size _⟩
 ·have HOK := Lib.hid hok
  have HNO := Lib.hid hno
  have HDD := Lib.hid hdd
  have HFD := Lib.hid (implFirstDivergence_any w.heap.size t _ _ W5 HSH.out HL5.out HE5.out HG5.out)
  clear hok hno hdd
  go_wp2_with fail
  refine Calls.mono HFD.out ?_
  rintro e w6 ⟨hb6, ys, c3, yv, rfl, hdiv, hoy⟩
  obtain ⟨ya, yc, rfl, -, -⟩ := owns_slice hoy
  have HB6 := Lib.hid (HB5.out.trans (hb6.mono hs5))
  have hs6 : w.heap.size ≤ w6.heap.size := HB6.out.size
  have HT6 := Lib.hid (HT5.out.below hb6)
  have HL6 := Lib.hid (HL5.out.below hb6)
  have HE6 := Lib.hid (HE5.out.below hb6)
  have HG6 := Lib.hid (HG5.out.below hb6)
  have HD6 := Lib.hid (HD5.out.below hb6)
  have HOD6 := Lib.hid (HOD.out.below hb6)
  have hcode := div_code HV.out HOK.out hdiv.1
  clear hb6 hdiv hoy HFD t0 t1 t2 t3
  rcases hcode with rfl | ⟨rfl, hnd⟩
  ·go_wp2
   go_ret
   exact ⟨rfl, HB6.out⟩
  ·have HND := Lib.hid hnd
   have hsd : Short20 d.labels := by rw [HDD.out]; exact HSH.out
   have HEQ := Lib.hid (implEqualFailures_any w.heap.size t _ _ d _ _ w6 HSH.out hsd HL6.out HE6.out (SliceK.of_owns (enc := encS) (e := 9) encS_len rfl (by rw [flat_encS]; exact HOD6.out.1)) (SliceK.of_owns (e := 68) encE_len rfl HOD6.out.2) HG6.out)
   have t0 := HT6.out.cell 0 rfl
   have t1 := HT6.out.cell 1 rfl
   have t2 := HT6.out.cell 2 rfl
   have t3 := HT6.out.cell 3 rfl
   have d0 := HD6.out.cell 0 rfl
   have d1 := HD6.out.cell 1 rfl
   have d2 := HD6.out.cell 2 rfl
   have d3 := HD6.out.cell 3 rfl
   clear hnd hsd
   go_wp2_with fail
   refine Calls.mono HEQ.out ?_
   rintro e w7 ⟨hb7, req, ceq, rfl, heq⟩
   rw [HDD.out] at heq
   obtain ⟨rfl, rfl⟩ := eqf_determinate HV.out HOK.out HNO.out HND.out heq
   have HB7 := Lib.hid (HB6.out.trans (hb7.mono hs6))
   clear hb7 heq HEQ t0 t1 t2 t3 d0 d1 d2 d3
   go_wp2
   go_ret
   exact ⟨rfl, HB7.out⟩
 ·have HUN := Lib.hid hun
  have hxl := HANS.out.2
  have HSX : Hid (Short20 xs) := short_mem HSH.out fun l hl => hun.mem l (List.mem_append.2 (.inl hl))
  have HSS : Hid (Short20 [s]) := short_mem HSH.out fun l hl => hun.mem l (List.mem_append.2 (.inr hl))
  have HSL : Hid (Short20 (xs ++ [s])) := short_mem HSH.out hun.mem
  have HE0 : Hid ((W5.alloc (.cells #[] 9)).ownsRow W5.heap.size 9 1 (.slice (some ⟨W5.heap.size, 0, none⟩) 0 0) 0 []) := World.ownsRow_lit (base := W5.heap.size) (e := 9) (size := 1) W5 #[] 0 (Nat.le_refl _) (by decide) rfl
  have HSR : Hid (SrcS (W5.alloc (.cells #[] 9)) (.slice xa xs.length xc) xs) := SrcS.below (SrcS.of_own HX5.out) ((Below.refl _ _).alloc (Nat.le_refl _) _)
  clear hun
  go_wp2_with (at_builtin; refine append_src rfl _ _ 24 rfl W5.heap.size 9 i1 (.string ⟨#[]⟩) 16 Tryz.underlying24 hi1 hz10 hz11 hz12 rfl _ 0 _ rfl HE0.out xs HSR.out ?c3 ?c4 ?c5 ?_)
  case c3 => simp [maxLen]; omega
  case c4 => omega
  case c5 => simp
  intro v1 wM ho1 hg1
  have HBM5 : Hid (Below W5.heap.size W5 wM) := ((Below.refl _ _).alloc (Nat.le_refl _) _).grown hg1 (by simp) (fun b e => by cases e; exact Nat.le_refl _)
  obtain ⟨va1, vc1, rfl, -, -⟩ := owns_slice ho1
  have HO1 := Lib.hid ho1
  have hsM : W5.heap.size ≤ wM.heap.size := HBM5.out.size
  clear ho1 hg1 HE0 HSR t0 t1 t2 t3
  go_wp2_with (at_builtin; refine wpList_append_own _ rfl _ _ 24 rfl W5.heap.size 9 i1 (.string ⟨#[]⟩) 1 16 Tryz.underlying24 hi1 hz10 hz11 hz12 rfl (by decide) _ _ _ rfl (HO1.out.alloc _) ⟨wM.heap.size, 0, none⟩ 1 1 [.string s] rfl rfl ?c1 ?c2 ?c3 ?c4 ?c5 ?_)
  case c1 => exact World.news_of_block (cs := #[.string s]) (t := 9) (fr := (0, 0)) (heap_alloc_new _ _)
  case c2 => intro u hu; simp at hu; subst hu; rfl
  case c3 => simp [maxLen]; omega
  case c4 => omega
  case c5 => simp; omega
  intro vB wB hoB hgB _
  have HBB5 : Hid (Below W5.heap.size W5 wB) := (HBM5.out.alloc HBM5.out.size _).grown hgB (by simp; omega) (fun b e => (HO1.out.lt b e).1)
  have HBB : Hid (Below w.heap.size w wB) := HB5.out.trans (HBB5.out.mono hs5)
  have HOB : Hid (OwnStrs w.heap.size wB vB (xs ++ [s])) := by
   refine OwnStrs.lower (lo := W5.heap.size) ?_ hs5
   unfold OwnStrs txts
   rw [List.map_append, List.length_append]
   simpa using hoB
  have hsB : w.heap.size ≤ wB.heap.size := HBB.out.size
  have HVL : Hid (visB (xs ++ [s]) = true) := HUN.out.longer
  have HML : Hid (aftL t (xs ++ [s]) ≠ []) := HUN.out.more
  have hlen : (xs ++ [s]).length ≤ 100000 := by simp; omega
  obtain ⟨ls, hls⟩ : ∃ ls, ls = xs ++ [s] := ⟨_, rfl⟩
  rw [← hls] at HOB HSL HVL HML hlen
  clear hls
  obtain ⟨vb, vbc, rfl, -, -⟩ := owns_slice HOB.out
  clear hoB hgB HBM5 HO1
  have HTB5 := Lib.hid (HT5.out.below HBB5.out)
  have HLB := Lib.hid (HL5.out.below HBB5.out)
  have HEB := Lib.hid (HE5.out.below HBB5.out)
  have HGB := Lib.hid (HG5.out.below HBB5.out)
  have HXB := Lib.hid (OwnStrs.below HX5.out HBB5.out)
  have HAT := Lib.hid (AfterTrace_yes w.heap.size w.heap.size t _ _ _ ls wB HV.out HVL.out HML.out HSH.out HSL.out hlen HLB.out HEB.out HOB.out.at HGB.out)
  have t0 := HTB5.out.cell 0 rfl
  have t1 := HTB5.out.cell 1 rfl
  have t2 := HTB5.out.cell 2 rfl
  have t3 := HTB5.out.cell 3 rfl
  go_wp2_with fail
  refine Calls.mono HAT.out ?_
  rintro e w6 ⟨av, rfl, hb6, hoa⟩
  obtain ⟨aa, ac, rfl, -, -⟩ := owns_slice hoa
  have HB6 := Lib.hid (HBB.out.trans (hb6.mono hsB))
  have hs6 : w.heap.size ≤ w6.heap.size := HB6.out.size
  obtain ⟨W7, hW7⟩ : ∃ W7, W7 = w6.alloc (.cells #[.string s] 9) := ⟨_, rfl⟩
  have hb7 : Below w6.heap.size w6 W7 := by rw [hW7]; exact (Below.refl _ _).alloc (Nat.le_refl _) _
  have hb67 : Below wB.heap.size wB W7 := hb6.trans (hb7.mono hb6.size)
  have HS7 : Hid (SliceK 1 encS w6.heap.size W7 (.slice (some ⟨w6.heap.size, 0, none⟩) 1 1) [s]) := by
   have h := strs_lit (w := w6) (xs := [s]) (cs := #[.string s]) rfl (by simp)
   unfold Hid
   rw [hW7]
   exact SliceK.of_owns (enc := encS) (e := 9) encS_len rfl (by rw [flat_encS]; exact h)
  have HB7 := Lib.hid (HBB.out.trans (hb67.mono hsB))
  have hs7 : w.heap.size ≤ W7.heap.size := HB7.out.size
  have HT7 := Lib.hid (HTB5.out.below hb67)
  have HRE := Lib.hid (Refuses_one w.heap.size w.heap.size w6.heap.size t _ _ _ _ xs s W7 HV.out HUN.out.tr HUN.out.one HUN.out.some HUN.out.ref HSH.out HSX.out HSS.out (by omega) (by omega) (HLB.out.below hb67) (HEB.out.below hb67) (OwnStrs.below HXB.out hb67).at HS7.out (HGB.out.below hb67))
  have HW7 := Lib.hid hW7
  have u0 := HT7.out.cell 0 rfl
  have u1 := HT7.out.cell 1 rfl
  have u2 := HT7.out.cell 2 rfl
  have u3 := HT7.out.cell 3 rfl
  have HT6 := Lib.hid (HTB5.out.below hb6)
  have q0 := HT6.out.cell 0 rfl
  have q1 := HT6.out.cell 1 rfl
  have q2 := HT6.out.cell 2 rfl
  have q3 := HT6.out.cell 3 rfl
  rw [hW7] at u0 u1 u2 u3
  clear hb6 hb7 hb67 hoa HAT hW7 t0 t1 t2 t3
  go_wp2_with fail
  rw [← HW7.out]
  refine Calls.mono HRE.out ?_
  rintro e w8 ⟨rfl, hb8⟩
  have HB8 := Lib.hid (HB7.out.trans (hb8.mono hs7))
  clear hb8 HRE
  go_wp2
  go_ret
  exact ⟨rfl, HB8.out⟩

end Go.Proofs.YthofaoabgbgbdaaGreatDoor
