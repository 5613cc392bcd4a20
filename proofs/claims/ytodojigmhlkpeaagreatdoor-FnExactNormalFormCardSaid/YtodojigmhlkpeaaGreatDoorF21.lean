/-
  The program's NormalForm.
  The functions of the laws that mark texts, edges, a system: what they turn.
  Lists of lists of lists of texts: compared where they are the same, marked, held.
  What a size that fits says of a system's parts.
  What the joining walks of the exact laws share: copies of systems, boxes, which blocks a mark can turn.
-/
import Derived.Test.YtodojigmhlkpeaaGreatDoorF17
import Derived.Test.YtodojigmhlkpeaaGreatDoorF20
import Derived.Test.YtodojigmhlkpeaaGreatDoorF15
import Derived.Test.YtodojigmhlkpeaaGreatDoorF16
namespace Go.Proofs.YtodojigmhlkpeaaGreatDoor
open Go Go.RowKit

theorem info_strssI : (Tryz.prog.info? 46).map (fun i => (i.zero, i.size, i.bytes)) = some (some (.slice none 0 0), 1, 24) := by kernel_rfl
theorem get_sameNfI {α : Type} {l : List α} {i j : Nat} (h : i = j) (hi : i < l.length) (hj : j < l.length) : l[i] = l[j] := by subst h; rfl
theorem OwnStrsss.set1I {lo b : Nat} {w : World} {v : Value} {vs : List Value} {vss : List (List Value)} {x : List (List (List ByteArray))} {cs : List Value} (h : OwnStrsss lo w v vs vss x) (hb : Blk w b cs 29) (i : Nat) (u : Value) : OwnStrsss lo (w.setCell ⟨b, i, Option.none⟩ u) v vs vss x :=
 ⟨h.out.kept (grown_setCell w ⟨b, i, Option.none⟩ u) (own_type_far h.out hb (by decide)), h.mid.set hb (by decide) i u, h.rows.set hb (by decide) i u, h.shape⟩
theorem inf_results {w : World} {b : Nat} {v0 v1 v2 v3 : Value} {tmps : Array Value} (hc : tmps.getD 2 undef = .pointer (some ⟨b, 0, none⟩)) (hb : Blk w b [v0, v1, v2, v3] 29) :
  (results Tryz.f7 tmps).run Tryz.prog w = .ok (.tuple #[.agg #[v0, v1, v2, v3], tmps.getD 3 undef, tmps.getD 4 undef]) w := by
 have h0 := hb.cell 0 rfl
 have h1 := hb.cell 1 rfl
 have h2 := hb.cell 2 rfl
 have h3 := hb.cell 3 rfl
 simp only [Array.getD_eq_getD_getElem?] at hc
 simp [results, Tryz.results7, go_sem, hc, h0, h1, h2, h3, Result.andThen]

set_option maxRecDepth 100000 in
set_option maxHeartbeats 8000000 in
theorem implNormalForm_any (lo : Nat) (t : Lts) (lv ev : Value) (w : World) (hsh : Short20 t.labels) (hl : SliceK 1 encS lo w lv t.labels) (he : SliceK 3 encE lo w ev t.edges) (g : Glob w) :
  Calls Tryz.prog 7 #[.agg #[.int .i64 t.states, .int .i64 t.initial, lv, ev]] w (RetNf t w) := by
 obtain ⟨tb, htb⟩ : ∃ tb, tb = w.heap.size := ⟨_, rfl⟩
 obtain ⟨wA, hwA⟩ : ∃ wA, wA = (w.alloc (.cells #[.int .i64 t.states, .int .i64 t.initial, lv, ev] 29)).alloc (.cells #[.int .i64 0, .int .i64 0, .slice none 0 0, .slice none 0 0] 29) := ⟨_, rfl⟩
 have hbA : Below w.heap.size w wA := by rw [hwA]; exact ((Below.refl _ _).alloc (Nat.le_refl _) _).alloc (by simp) _
 have hT : Blk wA tb [.int .i64 t.states, .int .i64 t.initial, lv, ev] 29 := by rw [hwA, htb]; exact (Blk.new w _ _).alloc _
 have hR : Blk wA (tb + 1) [.int .i64 0, .int .i64 0, .slice none 0 0, .slice none 0 0] 29 := by
  have := Blk.new (w.alloc (.cells #[.int .i64 t.states, .int .i64 t.initial, lv, ev] 29)) [.int .i64 0, .int .i64 0, .slice none 0 0, .slice none 0 0] 29
  rw [World.size_alloc, ← htb] at this
  rw [hwA]
  exact this
 have HD := Lib.hid (implDeterminizeLts_any lo t lv ev wA hsh (hl.below hbA) (he.below hbA) (g.below hbA))
 have HL := Lib.hid (hl.below hbA)
 have HE := Lib.hid (he.below hbA)
 have HBA := Lib.hid hbA
 have HT := Lib.hid hT
 have HR := Lib.hid hR
 have HWA := Lib.hid hwA
 have HTB := Lib.hid htb
 have hsW : w.heap.size ≤ wA.heap.size := hbA.size
 have hle : w.heap.size ≤ tb + 1 := by rw [htb]; omega
 obtain ⟨i3, hi3, hz30, hz31, hz32⟩ := info_parts info_strssI
 clear hsh hl he g hwA hbA hT hR htb
 go_enter Tryz.func7, Tryz.ntmps7
 go_wp2_with fail
 rw [← HWA.out]
 try rw [← HTB.out]
 refine Calls.mono HD.out ?_
 rintro e w3 ⟨hb3, d, xss, code, lv3, ev3, v3, vs, rfl, hdi, hod, hiv⟩
 obtain ⟨la, lc, rfl, -, -⟩ := owns_slice hod.1
 obtain ⟨ea, ec, rfl, -, -⟩ := owns_slice hod.2
 have hvr := hiv.1
 obtain ⟨ra, rc, rfl, -, -⟩ := owns_slice hiv.2.1
 obtain ⟨R, hRR⟩ : ∃ R, R = xss.length := ⟨_, rfl⟩
 obtain ⟨LN, hLN⟩ : ∃ LN, LN = d.labels.length := ⟨_, rfl⟩
 obtain ⟨EN, hEN⟩ : ∃ EN, EN = d.edges.length := ⟨_, rfl⟩
 obtain ⟨DS, hDS⟩ : ∃ DS, DS = d.states := ⟨_, rfl⟩
 obtain ⟨DI, hDI⟩ : ∃ DI, DI = d.initial := ⟨_, rfl⟩
 have hol := hod.1
 have hme := hod.2
 rw [← hLN] at hol
 rw [← hEN] at hme
 rw [hvr, ← hRR, ← hLN, ← hEN, ← hDS, ← hDI]
 have hsv : SliceK 1 encV wA.heap.size w3 (.slice ra R rc) vs := by
  have h : SliceK 1 encV wA.heap.size w3 (.slice ra vs.length rc) vs := SliceK.of_owns encV_len rfl (by rw [flat_encV]; exact hiv.2.1)
  rw [hvr, ← hRR] at h
  exact h
 obtain ⟨W3, hW3⟩ : ∃ W3, W3 = w3.alloc (.cells #[.int .i64 DS, .int .i64 DI, .slice la LN lc, .slice ea EN ec] 29) := ⟨_, rfl⟩
 obtain ⟨db, hdb⟩ : ∃ db, db = w3.heap.size := ⟨_, rfl⟩
 have hb4 : Below w3.heap.size w3 W3 := by rw [hW3]; exact (Below.refl _ _).alloc (Nat.le_refl _) _
 have hX : Blk W3 db [.int .i64 DS, .int .i64 DI, .slice la LN lc, .slice ea EN ec] 29 := by rw [hW3, hdb]; exact Blk.new _ _ _
 have HB4 := Lib.hid (hb3.trans (hb4.mono hb3.size))
 have hR4 := (HR.out.below hb3).below hb4
 have HR4 := Lib.hid hR4
 have HT4 := Lib.hid ((HT.out.below hb3).below hb4)
 have HX := Lib.hid hX
 have HME4 := Lib.hid (own_lower (owns_below hme hb4) hsW)
 have HML4 := Lib.hid (own_lower (owns_below hol hb4) hsW)
 have HSV4 := Lib.hid (hsv.below hb4)
 have HIV4 := Lib.hid (hiv.below hb4)
 have HW3 := Lib.hid hW3
 have HDB := Lib.hid hdb
 have HRR := Lib.hid hRR
 have HLN := Lib.hid hLN
 have HEN := Lib.hid hEN
 have HDS := Lib.hid hDS
 have HDI := Lib.hid hDI
 have HVR := Lib.hid hvr
 have HDT := Lib.hid hdi
 by_cases hcode : code = 0
 ·obtain ⟨HV, st, HOK, hde, hxe⟩ : Valid t ∧ ∃ st, DOk t st ∧ d = dSys t st ∧ xss = st.rows := by
   rcases hdi with ⟨-, -, -, h⟩ | ⟨-, -, -, -, h⟩ | ⟨h1, st, h2, h3, h4, -⟩
   ·omega
   ·omega
   ·exact ⟨h1, st, h2, h3, h4⟩
  have HV := Lib.hid HV
  have HOK := Lib.hid HOK
  have HXE := Lib.hid hxe
  have hR40 : R ≤ 40 := by rw [hRR, hxe]; exact HOK.out.2.1
  subst hcode
  clear hb3 hb4 hW3 hdb hme hiv hol hod hRR hLN hEN hDS hDI hX hsv hvr hdi hR4 hde hxe HD
  go_wp2
  rw [← HW3.out]
  try rw [← HDB.out]
  go_loopw [8, 23] (fun v8 v9 wr => ∃ (i : Nat) (us : List Value) (uss : List (List Value)) (x : List (List (List ByteArray))), i ≤ R ∧ v9 = .int .i64 i ∧ Below W3.heap.size W3 wr ∧ OwnStrsss W3.heap.size wr v8 us uss x ∧ x.length = i ∧ ∀ j (h : j < x.length) (h' : j < xss.length), leastIs (offersS t xss[j]) x[j]) (fun _ v9 _ => R - (intOf v9).toNat)
  case atStart => exact ⟨0, [], [], [], Nat.zero_le _, rfl, Below.refl _ _, OwnStrsss.none _ _, rfl, fun _ h => absurd h (Nat.not_lt_zero _)⟩
  case round =>
   obtain ⟨i, us, uss, x, hi, rfl, hbl, hox, hxl, hls⟩ := hrel
   obtain ⟨wC, rfl⟩ : ∃ wC : World, wC = wr := ⟨_, rfl⟩
   have HBL := Lib.hid hbl
   have HOX := Lib.hid hox
   have HLS := Lib.hid hls
   have hszC := hbl.size
   have hul : us.length = i := by rw [hox.len.1, hxl]
   have HXL := Lib.hid hxl
   have HUL := Lib.hid hul
   obtain ⟨oa, oc, rfl, -, -⟩ := owns_slice hox.out
   rw [hul]
   clear hls
   by_cases hlt : i < R
   ·have hir : i < xss.length := by rw [← HRR.out]; exact hlt
    have hiv2 : i < vs.length := by rw [HVR.out]; exact hir
    obtain ⟨a9, c9, e9, -, -, hrow⟩ := HSV4.out.below hbl
    simp only [Value.slice.injEq] at e9
    obtain ⟨rfl, -, -⟩ := e9
    obtain ⟨b, o, rfl, -, hbw, cx⟩ := hrow.one hiv2
    simp only [encV, List.getElem?_cons_zero] at cx
    have hrw := (OwnIntss.below HIV4.out hbl).2.2.1 i hiv2 hir
    have hsk : SliceK 1 encI wA.heap.size wC vs[i] xss[i] := SliceK.of_owns (e := 2) encI_len rfl (by rw [flat_encI]; exact hrw)
    have hsl : xss[i].length ≤ 1000 := by
     have hG := dok_good HV.out HOK.out
     have hs := HV.out.st1
     have h0 := HV.out.st0
     have hm : xss[i] ∈ st.rows := by rw [← HXE.out]; exact List.getElem_mem _
     have := asc_few 40 _ (hG.rows _ hm).2.1 (fun x hx => by have := (hG.rows _ hm).1 x hx; omega)
     omega
    have hTC := HT4.out.below hbl
    have y0 := hTC.cell 0 rfl
    have y1 := hTC.cell 1 rfl
    have y2 := hTC.cell 2 rfl
    have y3 := hTC.cell 3 rfl
    have hyl := hTC.lt
    have HL9 := Lib.hid (acceptances_any lo wA.heap.size t lv ev vs[i] xss[i] wC HV.out (HL.out.below (HB4.out.trans (hbl.mono HB4.out.size))) (HE.out.below (HB4.out.trans (hbl.mono HB4.out.size))) hsk hsl)
    obtain ⟨sv, hsv⟩ : ∃ sv, sv = vs[i] := ⟨_, rfl⟩
    rw [← hsv] at cx HL9
    obtain ⟨sa, sc, hse, -⟩ := id hsk
    obtain ⟨sn, hsn⟩ : ∃ sn, sn = xss[i].length := ⟨_, rfl⟩
    rw [← hsn] at hse
    rw [← hsv] at hse
    subst hse
    clear hbl hox hrow hrw hsk hsl hxl hul hsn hsv hTC
    go_wp2_with fail
    refine Calls.mono HL9.out ?_
    rintro e w5 ⟨v5, ys, L, rfl, hb5, ho5, hl5⟩
    obtain ⟨a5, c5, rfl, -, -⟩ := owns_slice ho5.out
    obtain ⟨n5, hn5⟩ : ∃ n5, n5 = ys.length := ⟨_, rfl⟩
    rw [← hn5]
    have HN5 := Lib.hid hn5
    have HB5 := Lib.hid hb5
    have HO5 := Lib.hid ho5
    have HL5 := Lib.hid hl5
    have HOW := Lib.hid (owns_below HOX.out.out hb5)
    rw [HUL.out] at HOW
    have hs5 := hb5.size
    have hsz5 : W3.heap.size ≤ w5.heap.size := Nat.le_trans hszC hs5
    clear hn5 hb5 ho5 hl5 cx HL9 y0 y1 y2 y3 hyl
    go_wp2_with (at_builtin; refine wpList_append_own _ rfl _ _ 30 rfl W3.heap.size 46 i3 (.slice none 0 0) 1 24 Tryz.underlying30 hi3 hz30 hz31 hz32 rfl (by decide) _ i _ rfl (HOW.out.alloc _) ⟨w5.heap.size, 0, none⟩ 1 1 [.slice a5 n5 c5] rfl rfl ?c1 ?c2 ?c3 ?c4 ?c5 ?_)
    case c1 => exact World.news_of_block (cs := #[.slice a5 n5 c5]) (t := 46) (fr := (0, 0)) (heap_alloc_new _ _)
    case c2 => intro u hu; simp at hu; subst hu; rfl
    case c3 => simp [maxLen]; omega
    case c4 => omega
    case c5 => simp; omega
    intro v7 w7 ho7 hg7 _
    have HP7 : Hid (OwnStrsss W3.heap.size w7 v7 (us ++ [.slice a5 n5 c5]) (uss ++ [ys]) (x ++ [L])) := by
     refine ownStrsss_push HOX.out (Nat.le_refl _) (HB5.out.alloc hs5 (.cells #[.slice a5 n5 c5] 46)) (by have h := HO5.out.below ((Below.refl _ _).alloc (Nat.le_refl _) (.cells #[.slice a5 n5 c5] 46)); rw [HN5.out]; rw [HN5.out] at h; exact h) hszC ?_ ?_
     ·rw [HUL.out]; exact hg7
     ·rw [HUL.out]; exact ho7
    have HB7 : Hid (Below W3.heap.size W3 w7) := ((HBL.out.trans (HB5.out.mono hszC)).alloc hsz5 _).grown hg7 (by simp; omega) (fun b e => (HOW.out.lt b e).1)
    clear ho7 hg7
    go_wp2
    go_roundw
    case rel => exact ⟨i + 1, _, _, x ++ [L], by omega, by go_num, HB7.out, HP7.out, by rw [List.length_append, HXL.out]; rfl, fun j h h' => by
     by_cases e : j < x.length
     ·rw [List.getElem_append_left e]
      exact HLS.out j e h'
     ·have e2 : j = x.length := by rw [List.length_append] at h; simp at h; omega
      subst e2
      rw [List.getElem_concat_length rfl]
      have e3 := get_sameNfI HXL.out h' hir
      rw [e3]
      exact HL5.out⟩
    case measure => simp [intOf]; omega
   ·obtain rfl : i = R := by omega
    have HB9 := Lib.hid (HB4.out.trans (hbl.mono HB4.out.size))
    have HR9 := Lib.hid (HR4.out.below hbl)
    have HX9 := HX.out.below hbl
    have HME9 := Lib.hid (owns_below HME4.out hbl)
    have HML9 := Lib.hid (owns_below HML4.out hbl)
    have hW3 : w.heap.size ≤ W3.heap.size := Nat.le_trans hsW HB4.out.size
    have HOX9 := Lib.hid (hox.lower hW3)
    have HFT : Hid (FarT (.slice la LN lc) uss) := FarT.later HML4.out hox.rows (Nat.le_refl _)
    have d0 := HX9.cell 0 rfl
    have d1 := HX9.cell 1 rfl
    have d2 := HX9.cell 2 rfl
    have d3 := HX9.cell 3 rfl
    have hdl := HX9.lt
    have r0 := HR9.out.cell 0 rfl
    have r1 := HR9.out.cell 1 rfl
    have r2 := HR9.out.cell 2 rfl
    have r3 := HR9.out.cell 3 rfl
    have s0 := HR9.out.frozen 0
    have s1 := HR9.out.frozen 1
    have s2 := HR9.out.frozen 2
    have s3 := HR9.out.frozen 3
    clear hbl hox HX9 hxl hul
    go_wp2
    refine bodyPost_ret (inf_results rfl ((((HR9.out.set 0 _).set 1 _).set 2 _).set 3 _)) rfl ?_
    refine ⟨((((HBA.out.trans (HB9.out.mono hsW)).setCell hle _).setCell hle _).setCell hle _).setCell hle _, d, x, 0, .slice la LN lc, .slice ea EN ec, .slice oa i oc, us, uss, by rw [HDS.out, HDI.out]; rfl, ⟨xss, HDT.out, by rw [HXL.out, HRR.out], HLS.out⟩, ⟨?_, ?_⟩, ?_, HFT.out⟩
    ·show World.ownsRow _ _ _ _ _ d.labels.length _
     rw [← HLN.out]; exact own4 HR9.out HML9.out (by decide)
    ·show World.ownsRow _ _ _ _ _ d.edges.length _
     rw [← HEN.out]; exact own4 HR9.out HME9.out (by decide)
    ·have h := (((HOX9.out.set1I HR9.out 0 (.int .i64 DS)).set1I (HR9.out.set 0 _) 1 (.int .i64 DI)).set1I ((HR9.out.set 0 _).set 1 _) 2 (.slice la LN lc)).set1I (((HR9.out.set 0 _).set 1 _).set 2 _) 3 (.slice ea EN ec)
     first | exact h | (rw [HUL.out] at h; exact h)
 ·have hnil : d = ⟨0, 0, [], []⟩ ∧ xss = [] := by
   rcases hdi with ⟨-, h1, h2, -⟩ | ⟨-, -, h1, h2, -⟩ | ⟨-, st, -, -, -, h⟩
   ·exact ⟨h1, h2⟩
   ·exact ⟨h1, h2⟩
   ·exact absurd h hcode
  have HNIL := Lib.hid hnil
  have r0 := hR4.cell 0 rfl
  have r1 := hR4.cell 1 rfl
  have r2 := hR4.cell 2 rfl
  have r3 := hR4.cell 3 rfl
  have s0 := hR4.frozen 0
  have s1 := hR4.frozen 1
  have s2 := hR4.frozen 2
  have s3 := hR4.frozen 3
  rw [hW3] at r0 r1 r2 r3 s0 s1 s2 s3
  clear hb3 hb4 hW3 hdb hme hiv hol hod hRR hLN hEN hDS hDI hX hsv hvr hdi hnil hR4 HD
  go_wp2
  rw [← HW3.out]
  refine bodyPost_ret (inf_results rfl ((((HR4.out.set 0 _).set 1 _).set 2 _).set 3 _)) rfl ?_
  exact nf_none (((((HBA.out.trans (HB4.out.mono hsW)).setCell hle _).setCell hle _).setCell hle _).setCell hle _) (by have h := HDT.out; rw [HNIL.out.1, HNIL.out.2] at h; exact h)

end Go.Proofs.YtodojigmhlkpeaaGreatDoor

namespace Go.Proofs.YtodojigmhlkpeaaGreatDoor
open Go Go.RowKit

set_option maxRecDepth 100000 in
set_option maxHeartbeats 400000 in
theorem markStringS_any (lo hi b n cap : Nat) (cs : List Value) (k : Int) (w : World) (h1 : 0 ≤ k) (h2 : k + n ≤ 1000000000) (hb1 : lo ≤ b) (hb2 : b < hi) (hv : w.ownsRow lo 9 1 (.slice (some ⟨b, 0, none⟩) n cap) n cs) :
  Calls Tryz.prog 26 #[.slice (some ⟨b, 0, none⟩) n cap, .int .i64 k] w (MarkedIn lo hi w (k + n)) := by
 have HV := Lib.hid hv
 clear hv
 go_enter Tryz.func26, Tryz.ntmps26
 go_wp2
 go_loopw [1, 5] (fun q i wr => ∃ (j : Nat) (cs : List Value), j ≤ n ∧ q = .int .i64 (k + j) ∧ i = .int .i64 j ∧ Turns lo hi w wr ∧ wr.ownsRow lo 9 1 (.slice (some ⟨b, 0, none⟩) n cap) n cs) (fun _ i _ => n - (intOf i).toNat)
 case atStart => exact ⟨0, cs, Nat.zero_le _, by simp, rfl, turns_refl _ _ _, HV.out⟩
 case round =>
  obtain ⟨j, cs, hj, rfl, rfl, hg, ho⟩ := hrel
  have HG := Lib.hid hg
  have HO := Lib.hid ho
  clear hg ho HV
  by_cases hlt : j < n
  ·go_wp2_with fail
   refine (markText_any _ _ (by omega) (by omega)).mono ?_
   rintro e w1 ⟨s, rfl, hb⟩
   have ho1 := owns_below HO.out hb
   obtain ⟨xc1, c1⟩ := own_cell ho1 (j) (by omega)
   have f1 := ho1.frozenAt j
   have HO2 := Lib.hid (ho1.stored j (.string s)).1
   have HB := Lib.hid hb
   clear ho1 hb
   go_wp2
   go_roundw
   case rel => exact ⟨j + 1, _, by omega, by go_num, by go_num, turns_trans (turns_trans HG.out (turns_below HB.out)) (turns_set _ _ _ hb1 hb2), HO2.out⟩
   case measure => simp [intOf]; omega
  ·go_wp2
   go_ret
   obtain rfl : j = n := by omega
   exact ⟨rfl, HG.out⟩

set_option maxRecDepth 100000 in
set_option maxHeartbeats 1000000 in
theorem markEdgeS_any (lo hi b n cap : Nat) (cs : List Value) (k : Int) (w : World) (h1 : 0 ≤ k) (h2 : k + 3 * n ≤ 1000000000) (hb1 : lo ≤ b) (hb2 : b < hi) (hv : w.ownsRow lo 62 3 (.slice (some ⟨b, 0, none⟩) n cap) n cs) :
  Calls Tryz.prog 27 #[.slice (some ⟨b, 0, none⟩) n cap, .int .i64 k] w (MarkedIn lo hi w (k + 3 * n)) := by
 have HV := Lib.hid hv
 clear hv
 go_enter Tryz.func27, Tryz.ntmps27
 go_wp2
 go_loopw [1, 5] (fun q i wr => ∃ (j : Nat) (cs : List Value), j ≤ n ∧ q = .int .i64 (k + 3 * j) ∧ i = .int .i64 j ∧ Turns lo hi w wr ∧ wr.ownsRow lo 62 3 (.slice (some ⟨b, 0, none⟩) n cap) n cs) (fun _ i _ => n - (intOf i).toNat)
 case atStart => exact ⟨0, cs, Nat.zero_le _, by simp, rfl, turns_refl _ _ _, HV.out⟩
 case round =>
  obtain ⟨j, cs, hj, rfl, rfl, hg, ho⟩ := hrel
  have HG := Lib.hid hg
  clear hg HV
  by_cases hlt : j < n
  ·obtain ⟨xc0, c0⟩ := own_cell ho (j * 3) (by omega)
   have s0 := (ho.stored (j * 3) (.int .i64 (k + 3 * j))).1
   obtain ⟨xc1, c1⟩ := own_cell s0 (j * 3 + 1) (by omega)
   have s1 := (s0.stored (j * 3 + 1) (.int .i64 (k + 3 * j + 1))).1
   obtain ⟨xc2, c2⟩ := own_cell s1 (j * 3 + 2) (by omega)
   have HO := Lib.hid (s1.stored (j * 3 + 2) (.int .i64 (k + 3 * j + 1 + 1))).1
   obtain ⟨xg1, g1⟩ := own_cell ho (j * 3 + 1) (by omega)
   obtain ⟨xg2, g2⟩ := own_cell ho (j * 3 + 2) (by omega)
   have f0 := ho.frozenAt (j * 3)
   have f1 := ho.frozenAt (j * 3 + 1)
   have f2 := ho.frozenAt (j * 3 + 2)
   clear ho s0 s1
   go_wp2
   go_roundw
   case rel => exact ⟨j + 1, _, by omega, by go_num, by go_num, turns_trans (turns_trans (turns_trans HG.out (turns_set _ _ _ hb1 hb2)) (turns_set _ _ _ hb1 hb2)) (turns_set _ _ _ hb1 hb2), HO.out⟩
   case measure => simp [intOf]; omega
  ·go_wp2
   go_ret
   obtain rfl : j = n := by omega
   exact ⟨rfl, HG.out⟩

set_option maxHeartbeats 1000000 in
theorem markLts_any (lo hi b1 b2 n1 n2 : Nat) (x y : Int) (cs1 cs2 : List Value) (k : Int) (w : World) (h1 : 0 ≤ k) (h2 : k + n1 + 3 * n2 ≤ 1000000000) (hb1 : lo ≤ b1) (hb2 : b1 < hi) (hb3 : lo ≤ b2) (hb4 : b2 < hi) (hhi : hi ≤ w.heap.size) (hne : b1 ≠ b2)
  (hv1 : w.ownsRow lo 9 1 (.slice (some ⟨b1, 0, none⟩) n1 n1) n1 cs1) (hv2 : w.ownsRow lo 62 3 (.slice (some ⟨b2, 0, none⟩) n2 n2) n2 cs2) :
  Calls Tryz.prog 10 #[.agg #[.int .i64 x, .int .i64 y, .slice (some ⟨b1, 0, none⟩) n1 n1, .slice (some ⟨b2, 0, none⟩) n2 n2], .int .i64 k] w (MarkedIn lo hi w (k + n1 + 3 * n2)) := by
 have V1 := Lib.hid hv1
 have V2 := Lib.hid hv2
 have HN := Lib.hid hne
 clear hv1 hv2 hne
 go_enter Tryz.func10, Tryz.ntmps10
 go_wp2_with fail
 refine (markStringS_any b1 (b1 + 1) b1 n1 n1 cs1 _ _ h1 (by omega) (Nat.le_refl _) (Nat.lt_succ_self _) ?_).mono ?_
 ·have := owns_below V1.out ((Below.refl _ w).alloc (Nat.le_refl _) (.cells #[.int .i64 x, .int .i64 y, .slice (some ⟨b1, 0, none⟩) n1 n1, .slice (some ⟨b2, 0, none⟩) n2 n2] 29))
  exact own_base this
 rintro e w1 ⟨rfl, ht1⟩
 have A := Lib.hid ((Blk.new w [.int .i64 x, .int .i64 y, .slice (some ⟨b1, 0, none⟩) n1 n1, .slice (some ⟨b2, 0, none⟩) n2 n2] 29).turns ht1 (by omega))
 have c3 := A.out.cell 3 rfl
 have T1 : Hid (Turns lo hi w w1) := turns_trans (turns_below ((Below.refl _ w).alloc (Nat.le_refl _) _)) (turns_wide ht1 (by omega) (by omega))
 have W2 := Lib.hid (owns_turns (owns_below V2.out ((Below.refl _ w).alloc (Nat.le_refl _) _)) ht1 (fun b e => by simp [Value.ownBlock] at e; have := HN.out; omega))
 clear ht1
 go_wp2_with fail
 refine (markEdgeS_any lo hi b2 n2 n2 cs2 _ _ (by omega) (by omega) hb3 hb4 W2.out).mono ?_
 rintro e w2 ⟨rfl, ht2⟩
 have T2 := Lib.hid ht2
 clear ht2
 go_wp2_with fail
 go_ret
 exact ⟨rfl, turns_trans T1.out T2.out⟩

end Go.Proofs.YtodojigmhlkpeaaGreatDoor

namespace Go.Proofs.YtodojigmhlkpeaaGreatDoor
open Go Go.RowKit

set_option maxHeartbeats 400000 in
theorem eqStringSSS_same (va vb : Value) (lo lo' : Nat) (x : List (List (List ByteArray))) (w : World) (hva : StrsssAt lo w va x) (hvb : StrsssAt lo' w vb x) :
  Calls Tryz.prog 9 #[va, vb] w fun e w' => e = .returned (.bool true) ∧ Below w.heap.size w w' := by
 obtain ⟨us, hu, ⟨a, ca, rfl, hna, hca, ha⟩, hus⟩ := hva
 obtain ⟨vs, hv, ⟨b, cb, rfl, hnb, hcb, hb⟩, hvs⟩ := hvb
 have HU := Lib.hid hus
 have HV := Lib.hid hvs
 have HL := Lib.hid hu
 have HM := Lib.hid hv
 have hl : us.length = vs.length := by omega
 rw [← hl] at hnb ⊢
 have HN := Lib.hid hl
 clear hu hv hus hvs hl
 go_enter Tryz.func9, Tryz.ntmps9
 go_wp2
 go_loopw [5] (fun i wr => ∃ k : Nat, k ≤ us.length ∧ i = .int .i64 k ∧ Below w.heap.size w wr) (fun i _ => us.length - (intOf i).toNat)
 case atStart => exact ⟨0, Nat.zero_le _, rfl, Below.refl _ _⟩
 case round =>
  obtain ⟨k, hk, rfl, hbl⟩ := hrel
  by_cases hlt : k < us.length
  ·have hlv : k < vs.length := by have := HN.out; omega
   have hlx : k < x.length := by have := HL.out; omega
   obtain ⟨b1, o1, rfl, -, h1, c1⟩ := (ha.below hbl).one hlt
   obtain ⟨b2, o2, rfl, -, h2, c2⟩ := (hb.below hbl).one hlv
   have s1 := (HU.out k hlt hlx).below hbl
   have s2 := (HV.out k hlv hlx).below hbl
   generalize us[k] = p1 at *
   generalize vs[k] = p2 at *
   generalize x[k] = ys at *
   have S1 := Lib.hid s1
   have S2 := Lib.hid s2
   obtain ⟨_, _, rfl⟩ := s1.form
   obtain ⟨_, _, rfl⟩ := s2.form
   clear s1 s2
   simp only [encV, List.getElem?_cons_zero] at c1 c2
   replace c1 := later_cell h1 c1
   replace c2 := later_cell h2 c2
   clear ha hb
   go_wp2
   refine wp_region_later (by kernel_rfl) (by kernel_rfl) ?_
   repeat (go_big_quiet_step ((go_at_call 25; exact later_call (eqStringSS_same _ _ _ _ _ _ (StrssAt.below S1.out (Later.h _)) (StrssAt.below S2.out (Later.h _))))))
   refine wpQuiet_nil ?_
   intro _ hw9
   obtain ⟨nl, hw8⟩ := hw9
   subst hw8
   go_wp2
   go_roundw
   case rel => exact ⟨k + 1, by omega, by go_num, hbl.trans (nl.h.mono hbl.size)⟩
   case measure => simp [intOf]; omega
  ·clear ha hb
   go_wp2
   go_ret
   exact ⟨rfl, hbl⟩

theorem renum_put {C X : List (List ByteArray)} {k : Int} {s j : Nat} (hj : j < X.length) (hs : s ≤ C.length) (hC : (C.drop s).take X.length = X) :
  (C.take s ++ renumS k (X.take j) ++ C.drop (s + j)).set (s + j) (mrkS (k + totalS (X.take j)) X[j].length) = C.take s ++ renumS k (X.take (j + 1)) ++ C.drop (s + (j + 1)) := by
 have hle : s + X.length ≤ C.length := by
  have := congrArg List.length hC
  simp only [List.length_take, List.length_drop] at this
  omega
 have h1 : (C.take s ++ renumS k (X.take j)).length = s + j := by
  rw [List.length_append, renumS_len, List.length_take, List.length_take]
  omega
 have h2 : C.drop (s + j) = C[s + j]'(by omega) :: C.drop (s + (j + 1)) := by rw [List.drop_eq_getElem_cons (by omega)]; rfl
 rw [List.set_append_right _ _ (by omega), h1, Nat.sub_self, h2, List.set_cons_zero, List.take_succ_eq_append_getElem hj, renumS_append]
 simp only [renumS, List.append_assoc, List.cons_append, List.nil_append]
theorem renum_here {C X : List (List ByteArray)} {k : Int} {s j : Nat} (hj : j < X.length) (hs : s ≤ C.length) (hC : (C.drop s).take X.length = X) : (C.take s ++ renumS k (X.take j) ++ C.drop (s + j))[s + j]? = some X[j] := by
 have hle : s + X.length ≤ C.length := by
  have := congrArg List.length hC
  simp only [List.length_take, List.length_drop] at this
  omega
 have h1 : (C.take s ++ renumS k (X.take j)).length = s + j := by
  rw [List.length_append, renumS_len, List.length_take, List.length_take]
  omega
 rw [List.getElem?_append_right (by omega), h1, Nat.sub_self, List.getElem?_drop, Nat.add_zero]
 have h3 : X[j]? = ((C.drop s).take X.length)[j]? := by rw [hC]
 rw [List.getElem?_take_of_lt hj, List.getElem?_drop, List.getElem?_eq_getElem hj] at h3
 exact h3.symm

set_option maxHeartbeats 1000000 in
theorem markStrss_sec (lo : Nat) (v : Value) (vs all : List Value) (C X : List (List ByteArray)) (s : Nat) (k : Int) (w : World) (h1 : 0 ≤ k) (h2 : k + (totalS X : Int) ≤ 1000000000) (hlo : lo ≤ w.heap.size) (ho : w.ownsRow lo 22 1 v vs.length vs) (hl : vs.length = X.length)
  (hvs : (all.drop s).take X.length = vs) (hC : (C.drop s).take X.length = X) (hs : s ≤ C.length) (hp : Pile 9 lo w all (C.map txts)) :
  Calls Tryz.prog 28 #[v, .int .i64 k] w fun e w' => e = .returned (.int .i64 (k + (totalS X : Int))) ∧ Below lo w w' ∧ Pile 9 lo w' all ((C.take s ++ renumS k X ++ C.drop (s + X.length)).map txts) ∧ Only [9] w w' ∧ KeptS all w w' := by
 have HV := Lib.hid ho
 have HP := Lib.hid hp
 have HC := Lib.hid hC
 have HVS := Lib.hid hvs
 have HS := Lib.hid hs
 have hal : all.length = C.length := by have := hp.len; simpa using this
 have HAL := Lib.hid hal
 rcases ho.2 with ⟨rfl, h0⟩ | ⟨g, cap, cur, rfl, -, -, hnc, hcm, -⟩
 ·have hx : X = [] := List.eq_nil_of_length_eq_zero (by rw [← hl]; exact h0)
  subst hx
  clear ho hp hC hvs hs hal
  go_enter Tryz.func28, Tryz.ntmps28
  go_wp2
  go_loop [1, 5] (fun q i => q = .int .i64 k ∧ i = .int .i64 0) (fun _ _ => 0)
  case atStart => exact ⟨rfl, rfl⟩
  case round =>
   obtain ⟨rfl, rfl⟩ := hrel
   go_wp2
   go_ret
   exact ⟨ret_int (by simp [totalS]), Below.refl _ _, by simpa [renumS] using HP.out, Only.refl _ _, KeptS.refl _ _⟩
 ·have HL := Lib.hid hl
  have hmx : vs.length ≤ 9223372036854775807 := by simp only [maxLen] at hcm; omega
  clear ho hp hC hvs hs hal hcm hnc hl
  go_enter Tryz.func28, Tryz.ntmps28
  go_wp2
  go_loopw [1, 5] (fun q i wr => ∃ j : Nat, j ≤ vs.length ∧ q = .int .i64 (k + totalS (X.take j)) ∧ i = .int .i64 j ∧ Below lo w wr ∧ Pile 9 lo wr all ((C.take s ++ renumS k (X.take j) ++ C.drop (s + j)).map txts) ∧ Only [9] w wr ∧ KeptS all w wr) (fun _ i _ => vs.length - (intOf i).toNat)
  case atStart => exact ⟨0, Nat.zero_le _, by simp [totalS], rfl, Below.refl _ _, by simpa [renumS] using HP.out, Only.refl _ _, KeptS.refl _ _⟩
  case round =>
   obtain ⟨j, hj, rfl, rfl, hb, ho, hon, hkp⟩ := hrel
   have HKP := Lib.hid hkp
   clear hkp
   have HON := Lib.hid hon
   have HB := Lib.hid hb
   have HO := Lib.hid ho
   have hsz := hb.size
   have HOW : Hid (wr.ownsRow lo 22 1 (.slice (some ⟨g, 0, none⟩) vs.length cap) vs.length vs) := hon.own HV.out (by decide)
   clear hb hon
   by_cases hlt : j < vs.length
   ·have hx : j < X.length := by rw [← HL.out]; exact hlt
    have c1 := HOW.out.cellAt j (by omega)
    rw [List.getElem?_eq_getElem hlt] at c1
    have hle9 : s + X.length ≤ C.length := by
     have := congrArg List.length HC.out
     simp only [List.length_take, List.length_drop] at this
     omega
    have hsa : s + j < all.length := by have := HAL.out; omega
    have hva : vs[j] = all[s + j] := by
     have h3 : ((all.drop s).take X.length)[j]? = vs[j]? := by rw [HVS.out]
     rw [List.getElem?_take_of_lt hx, List.getElem?_drop, List.getElem?_eq_getElem hsa, List.getElem?_eq_getElem hlt] at h3
     exact (Option.some.inj h3).symm
    have hrl := ho.len
    have hrow := ho.row (s + j) hsa (by rw [← hrl]; exact hsa)
    have hz : ((C.take s ++ renumS k (X.take j) ++ C.drop (s + j)).map txts)[s + j]'(by rw [← hrl]; exact hsa) = txts X[j] := by
     have h4 := renum_here (k := k) hx HS.out HC.out
     have h5 : ((C.take s ++ renumS k (X.take j) ++ C.drop (s + j)).map txts)[s + j]? = some (txts X[j]) := by rw [List.getElem?_map, h4]; rfl
     rw [List.getElem?_eq_getElem (by rw [← hrl]; exact hsa)] at h5
     exact Option.some.inj h5
    rw [hz, txts_len, ← hva] at hrow
    have ht := totalS_take X j hx
    have htl := totalS_take_le X (j + 1)
    have HT := Lib.hid ht
    have hle : k + totalS (X.take j) + (X[j].length : Int) ≤ 1000000000 := by omega
    have HR := Lib.hid hrow
    obtain ⟨p, hpe⟩ : ∃ p, p = vs[j] := ⟨_, rfl⟩
    rw [← hpe] at c1
    have HPE := Lib.hid hpe
    have HVA := Lib.hid hva
    have HM : Hid (OwnStrs lo wr p X[j]) := by rw [HPE.out]; exact HR.out
    have hlo2 : lo ≤ wr.heap.size := by omega
    clear hpe hva hrow ht htl ho hz hle9 hrl
    go_wp2_with fail
    refine (markStringS_is lo p (txts X[j]) _ _ (by omega) (by rw [txts_len]; exact hle) (by rw [txts_len]; exact HM.out)).mono ?_
    rintro e w1 ⟨rfl, hg, hq⟩
    rw [txts_len] at hq ⊢
    have hb2 : Below lo wr w1 := below_grown hg hlo2 (fun b e => (World.ownsRow.lt HM.out b e).1)
    have HO2 : Hid (Pile 9 lo w1 all ((C.take s ++ renumS k (X.take (j + 1)) ++ C.drop (s + (j + 1))).map txts)) := by
     have := HO.out.put (s + j) hsa (txts (mrkS (k + totalS (X.take j)) X[j].length)) (by rw [← HVA.out, ← HPE.out]; exact hg) (by rw [← HVA.out, ← HPE.out, txts_len, mrkS_len]; exact hq)
     rw [← List.map_set, renum_put hx HS.out HC.out] at this
     exact this
    have HB2 := Lib.hid hb2
    have HON2 : Hid (Only [9] w w1) := HON.out.step (Only.grown HM.out hg)
    have HKP2 : Hid (KeptS all w w1) := HKP.out.trans (KeptS.grown (u := p) (by rw [HPE.out, HVA.out]; exact List.getElem_mem _) hg)
    clear hg hq hb2 HO HR HM
    go_wp2_with fail
    go_roundw
    case rel => exact ⟨j + 1, by omega, by rw [HT.out]; go_num, by go_num, HB.out.trans HB2.out, HO2.out, HON2.out, HKP2.out⟩
    case measure => simp [intOf]; omega
   ·clear ho
    go_wp2
    go_ret
    obtain rfl : j = vs.length := by omega
    exact ⟨ret_int (by rw [HL.out]; simp), HB.out, by have h := HO.out; rw [HL.out, List.take_length] at h; exact h, HON.out, HKP.out⟩

theorem flat_take {α : Type} (x : List (List α)) (j : Nat) (h : j < x.length) : (x.take (j + 1)).flatten = (x.take j).flatten ++ x[j] := by
 rw [List.take_succ_eq_append_getElem h, List.flatten_append]; simp
theorem flat_drop {α : Type} (x : List (List α)) (j : Nat) (h : j < x.length) : (x.drop j).flatten = x[j] ++ (x.drop (j + 1)).flatten := by
 rw [List.drop_eq_getElem_cons h, List.flatten_cons]

set_option maxHeartbeats 1000000 in
theorem markStrsss_is (lo : Nat) (v : Value) (vs : List Value) (vss : List (List Value)) (x : List (List (List ByteArray))) (k : Int) (w : World) (h1 : 0 ≤ k) (h2 : k + (totalS x.flatten : Int) ≤ 1000000000) (hlo : lo ≤ w.heap.size) (hv : OwnStrsss lo w v vs vss x) :
  Calls Tryz.prog 11 #[v, .int .i64 k] w fun e w' => e = .returned (.int .i64 (k + (totalS x.flatten : Int))) ∧ Below lo w w' ∧ Pile 9 lo w' vss.flatten ((renumS k x.flatten).map txts) ∧ Only [9] w w' ∧ KeptS vss.flatten w w' := by
 have HV := Lib.hid hv
 have hl := hv.len.1
 rcases hv.out.2 with ⟨rfl, h0⟩ | ⟨g, cap, cur, rfl, -, -, hnc, hcm, -⟩
 ·have hx : x = [] := List.eq_nil_of_length_eq_zero (by rw [← hl]; exact h0)
  subst hx
  clear hv
  go_enter Tryz.func11, Tryz.ntmps11
  go_wp2
  go_loop [1, 5] (fun q i => q = .int .i64 k ∧ i = .int .i64 0) (fun _ _ => 0)
  case atStart => exact ⟨rfl, rfl⟩
  case round =>
   obtain ⟨rfl, rfl⟩ := hrel
   go_wp2
   go_ret
   exact ⟨ret_int (by simp [totalS]), Below.refl _ _, HV.out.rows, Only.refl _ _, KeptS.refl _ _⟩
 ·have HL := Lib.hid hl
  have hmx : vs.length ≤ 9223372036854775807 := by simp only [maxLen] at hcm; omega
  clear hv hcm hnc hl
  go_enter Tryz.func11, Tryz.ntmps11
  go_wp2
  go_loopw [1, 5] (fun q i wr => ∃ j : Nat, j ≤ vs.length ∧ q = .int .i64 (k + totalS (x.take j).flatten) ∧ i = .int .i64 j ∧ Below lo w wr ∧ Pile 9 lo wr vss.flatten ((renumS k (x.take j).flatten ++ (x.drop j).flatten).map txts) ∧ Only [9] w wr ∧ KeptS vss.flatten w wr) (fun _ i _ => vs.length - (intOf i).toNat)
  case atStart => exact ⟨0, Nat.zero_le _, by simp [totalS], rfl, Below.refl _ _, by simpa [renumS] using HV.out.rows, Only.refl _ _, KeptS.refl _ _⟩
  case round =>
   obtain ⟨j, hj, rfl, rfl, hb, ho, hon, hkp⟩ := hrel
   have HKP := Lib.hid hkp
   clear hkp
   have HON := Lib.hid hon
   have HB := Lib.hid hb
   have HO := Lib.hid ho
   have hsz := hb.size
   have hOW := hon.own HV.out.out (by decide)
   have hMD := hon.pile HV.out.mid (by decide)
   clear hb hon
   by_cases hlt : j < vs.length
   ·have hx : j < x.length := by rw [← HL.out]; exact hlt
    have hxv : j < vss.length := by rw [HV.out.len.2]; exact hx
    have c1 := hOW.cellAt j (by omega)
    rw [List.getElem?_eq_getElem hlt] at c1
    have HRW := Lib.hid (hMD.row j hlt hxv)
    have hrl := HV.out.row_len j hxv hx
    have htl := HV.out.take_len j
    have hf := flat_take x j hx
    have hd := flat_drop x j hx
    have HF := Lib.hid hf
    have HD := Lib.hid hd
    have htot : totalS (x.take (j + 1)).flatten = totalS (x.take j).flatten + totalS x[j] := by rw [hf, totalS_append]
    have htle : totalS (x.take (j + 1)).flatten ≤ totalS x.flatten := by
     have h9 : x.flatten = (x.take (j + 1)).flatten ++ (x.drop (j + 1)).flatten := by rw [← List.flatten_append, List.take_append_drop]
     rw [h9, totalS_append]
     omega
    have hle : k + totalS (x.take j).flatten + (totalS x[j] : Int) ≤ 1000000000 := by omega
    have hsl : (renumS k (x.take j).flatten).length = (x.take j).flatten.length := renumS_len _ _
    have hvs : ((vss.flatten).drop (x.take j).flatten.length).take x[j].length = vss[j] := by
     rw [← htl, ← hrl]
     exact take_flat vss j hxv
    have hC : ((renumS k (x.take j).flatten ++ (x.drop j).flatten).drop (x.take j).flatten.length).take x[j].length = x[j] := by
     rw [List.drop_append_of_le_length (by omega), List.drop_of_length_le (by omega), List.nil_append, hd, List.take_left]
    have HMK := Lib.hid (markStrss_sec lo vs[j] vss[j] vss.flatten (renumS k (x.take j).flatten ++ (x.drop j).flatten) x[j] (x.take j).flatten.length (k + totalS (x.take j).flatten) wr (by omega) hle (by omega) HRW.out hrl hvs hC (by rw [List.length_append]; omega) ho)
    have HST : Hid ((renumS k (x.take j).flatten ++ (x.drop j).flatten).take (x.take j).flatten.length ++ renumS (k + totalS (x.take j).flatten) x[j] ++ (renumS k (x.take j).flatten ++ (x.drop j).flatten).drop ((x.take j).flatten.length + x[j].length) = renumS k (x.take (j + 1)).flatten ++ (x.drop (j + 1)).flatten) := by
     unfold Hid
     rw [← hsl, List.take_left, ← List.drop_drop, List.drop_left, hd, List.drop_left, hf, renumS_append]
    have HT := Lib.hid htot
    have hlo2 : lo ≤ wr.heap.size := by omega
    obtain ⟨p, hpe⟩ : ∃ p, p = vs[j] := ⟨_, rfl⟩
    rw [← hpe] at c1 HMK HRW
    obtain ⟨pa, pc, rfl, -, -⟩ := owns_slice HRW.out
    clear hpe hrl htl hf hd htot htle hsl hvs hC ho hOW hMD
    go_wp2_with fail
    refine HMK.out.mono ?_
    rintro e w1 ⟨rfl, hb2, hp2, hon2, hkp2⟩
    have HKP2 := Lib.hid (HKP.out.trans hkp2)
    clear hkp2
    rw [HST.out] at hp2
    have HP2 := Lib.hid hp2
    have HB2 := Lib.hid (HB.out.trans hb2)
    have HON2 := Lib.hid (HON.out.step hon2)
    clear hb2 hp2 hon2 HMK HO
    go_wp2_with fail
    go_roundw
    case rel => exact ⟨j + 1, by omega, by rw [HT.out]; go_num, by go_num, HB2.out, HP2.out, HON2.out, HKP2.out⟩
    case measure => simp [intOf]; omega
   ·clear ho hOW hMD
    go_wp2
    go_ret
    obtain rfl : j = vs.length := by omega
    exact ⟨ret_int (by rw [HL.out]; simp), HB.out, by have h := HO.out; rw [HL.out, List.take_length, List.drop_length] at h; simpa using h, HON.out, HKP.out⟩

/-- The marked form. -/
def renumT (k : Int) : List (List (List ByteArray)) → List (List (List ByteArray))
 | [] => []
 | y :: r => renumS k y :: renumT (k + totalS y) r
theorem renumT_flat (k : Int) : ∀ x : List (List (List ByteArray)), (renumT k x).flatten = renumS k x.flatten
 | [] => rfl
 | y :: r => by rw [renumT, List.flatten_cons, List.flatten_cons, renumS_append, renumT_flat]
theorem renumT_shape (k : Int) : ∀ x : List (List (List ByteArray)), (renumT k x).map List.length = x.map List.length
 | [] => rfl
 | y :: r => by rw [renumT, List.map_cons, List.map_cons, renumS_len, renumT_shape]
theorem renumT_len (k : Int) (x : List (List (List ByteArray))) : (renumT k x).length = x.length := by
 have := congrArg List.length (renumT_shape k x)
 simpa using this
theorem renumT_get (k : Int) : ∀ (x : List (List (List ByteArray))) (j : Nat) (h : j < x.length) (h' : j < (renumT k x).length), (renumT k x)[j] = renumS (k + totalS (x.take j).flatten) x[j]
 | [], j, h, _ => by simp at h
 | y :: r, 0, _, _ => by simp [renumT, totalS]
 | y :: r, j + 1, h, h' => by
  simp only [renumT, List.getElem_cons_succ, List.take_succ_cons, List.flatten_cons]
  rw [renumT_get (k + totalS y) r j (by simpa using h) (by simpa [renumT] using h'), totalS_append]
  congr 1
  omega
theorem markStrsss_own (lo : Nat) (v : Value) (vs : List Value) (vss : List (List Value)) (x : List (List (List ByteArray))) (k : Int) (w : World) (h1 : 0 ≤ k) (h2 : k + (totalS x.flatten : Int) ≤ 1000000000) (hlo : lo ≤ w.heap.size) (hv : OwnStrsss lo w v vs vss x) :
  Calls Tryz.prog 11 #[v, .int .i64 k] w fun e w' => e = .returned (.int .i64 (k + (totalS x.flatten : Int))) ∧ Below lo w w' ∧ OwnStrsss lo w' v vs vss (renumT k x) ∧ Only [9] w w' ∧ KeptS vss.flatten w w' := by
 refine (markStrsss_is lo v vs vss x k w h1 h2 hlo hv).mono ?_
 rintro e w' ⟨he, hb, hp, hon, hkp⟩
 exact ⟨he, hb, ⟨hon.own hv.out (by decide), hon.pile hv.mid (by decide), by rw [renumT_flat]; exact hp, by rw [renumT_shape]; exact hv.shape⟩, hon, hkp⟩

set_option maxHeartbeats 1000000 in
theorem markLts_far (lo : Nat) (lv ev : Value) (t : Lts) (x y : Int) (k : Int) (w : World) (h1 : 0 ≤ k) (h2 : k + markLen t ≤ 1000000000) (hlo : lo ≤ w.heap.size) (hv : OwnLts lo w lv ev t) :
  Calls Tryz.prog 10 #[.agg #[.int .i64 x, .int .i64 y, lv, ev], .int .i64 k] w fun e w' => e = .returned (.int .i64 (k + markLen t)) ∧ Below lo w w' ∧ OwnLts lo w' lv ev (mrkL k t)
   ∧ Only [9, 62] w w' ∧ KeptS [lv] w w' := by
 unfold markLen at h2 ⊢
 obtain ⟨al, cl, rfl, -, -⟩ := owns_slice hv.1
 obtain ⟨ae, ce, rfl, -, -⟩ := owns_slice hv.2
 obtain ⟨NL, hNL⟩ : ∃ NL, NL = t.labels.length := ⟨_, rfl⟩
 obtain ⟨NE, hNE⟩ : ∃ NE, NE = t.edges.length := ⟨_, rfl⟩
 obtain ⟨W, hW⟩ : ∃ W, W = w.alloc (.cells #[.int .i64 x, .int .i64 y, .slice al t.labels.length cl, .slice ae t.edges.length ce] 29) := ⟨_, rfl⟩
 have hb0 : Below w.heap.size w W := by rw [hW]; exact (Below.refl _ w).alloc (Nat.le_refl _) _
 have A0 : Hid (Blk W w.heap.size [.int .i64 x, .int .i64 y, .slice al t.labels.length cl, .slice ae t.edges.length ce] 29) := by unfold Hid; rw [hW]; exact Blk.new w _ _
 have hs0 : lo ≤ W.heap.size := Nat.le_trans hlo hb0.size
 have V1 := Lib.hid (owns_below hv.1 hb0)
 have V2 := Lib.hid (owns_below hv.2 hb0)
 have M1 := Lib.hid (markStringS_is lo _ (t.labels.map .string) k W h1 (by rw [List.length_map]; omega) (by rw [List.length_map]; exact V1.out))
 rw [List.length_map] at M1
 have HB0 := Lib.hid hb0
 have HW := Lib.hid hW
 rw [← hNL] at M1 V1 h2 hW A0 ⊢
 rw [← hNE] at V2 h2 hW A0 ⊢
 have HW := Lib.hid hW
 have HNL := Lib.hid hNL
 have HNE := Lib.hid hNE
 clear hv hb0 hW hNL hNE
 go_enter Tryz.func10, Tryz.ntmps10
 go_wp2_with fail
 rw [← HW.out]
 refine Calls.mono M1.out ?_
 rintro e w1 ⟨rfl, hg1, ho1⟩
 have hb1 : Below lo W w1 := below_grown hg1 hs0 (fun b e => (V1.out.lt b e).1)
 have HB1 := Lib.hid ((HB0.out.mono hlo).trans hb1)
 have A1 : Hid (Blk w1 w.heap.size _ _) := (hg1.block _ A0.out.lt (by
  intro e
  have := (V1.out.lt _ e.symm).1
  rcases own_type_far V1.out A0.out (by decide) with h | h
  ·rw [h] at e; cases e
  ·exact h e.symm)).trans A0.out
 have W2 := Lib.hid (V2.out.kept hg1 (own_types V2.out V1.out (by decide)))
 have HO1 := Lib.hid ho1
 have HG1 := Lib.hid hg1
 have M2 := Lib.hid (markEdgeS_is lo (.slice ae NE ce) NE _ (k + NL) w1 (by omega) (by omega) W2.out)
 have hs1 : lo ≤ w1.heap.size := Nat.le_trans hs0 hg1.size
 have a3 := A1.out.cell 3 rfl
 clear ho1 hg1 hb1 M1
 go_wp2_with fail
 refine Calls.mono M2.out ?_
 rintro e w2 ⟨rfl, hg2, ho2⟩
 have hb2 : Below lo w1 w2 := below_grown hg2 hs1 (fun b e => (W2.out.lt b e).1)
 have HB2 := Lib.hid (HB1.out.trans hb2)
 have HO2 := Lib.hid ho2
 have HG2 := Lib.hid hg2
 clear ho2 hg2 hb2 M2
 go_wp2_with fail
 go_ret
 refine ⟨ret_int (by omega), HB2.out, ?_, ?_, ?_⟩
 ·unfold OwnLts mrkL
  rw [mrkS_len, mrkE_len, ← HNL.out, ← HNE.out]
  exact ⟨HO1.out.kept HG2.out (own_types HO1.out W2.out (by decide)), HO2.out⟩
 ·exact (((Only.below [] HB0.out).trans (Only.grown V1.out HG1.out)).trans (Only.grown W2.out HG2.out))
 ·exact ((KeptS.below HB0.out).trans (KeptS.grown (by simp) HG1.out)).trans fun _ _ _ _ hv9 _ => hv9.kept HG2.out (own_types hv9 W2.out (by decide))
/-- The lists beside a system that was marked; a system beside lists that were marked. -/
theorem OwnStrsss.beside {lo : Nat} {w w' : World} {v lv : Value} {vs : List Value} {vss : List (List Value)} {x : List (List (List ByteArray))} (h : OwnStrsss lo w v vs vss x) (hon : Only [9, 62] w w') (hk : KeptS [lv] w w') (hf : FarT lv vss) : OwnStrsss lo w' v vs vss x :=
 ⟨hon.own h.out (by decide), hon.pile h.mid (by decide), hk.pile h.rows hf.other, h.shape⟩
theorem OwnLts.beside {lo : Nat} {w w' : World} {lv ev : Value} {vss : List (List Value)} {t : Lts} (h : OwnLts lo w lv ev t) (hon : Only [9] w w') (hk : KeptS vss.flatten w w') (hf : FarT lv vss) : OwnLts lo w' lv ev t :=
 ⟨hk _ _ _ _ h.1 hf.one, hon.own h.2 (by decide)⟩

set_option maxHeartbeats 1000000 in
theorem heldStrsss_is (lo : Nat) (v : Value) (vs : List Value) (vss : List (List Value)) (x : List (List (List ByteArray))) (k : Int) (w : World) (h1 : 0 ≤ k) (h2 : k + (totalS x.flatten : Int) ≤ 1000000000) (hv : OwnStrsss lo w v vs vss (renumT k x)) :
  Calls Tryz.prog 13 #[v, .int .i64 k] w fun e w' => e = .returned (.int .i64 (k + (totalS x.flatten : Int))) ∧ Below w.heap.size w w' := by
 have HV := Lib.hid hv
 have hl := hv.len.1
 rw [renumT_len] at hl
 have hsl : SliceK 1 encV lo w v vs := SliceK.of_owns encV_len rfl (by rw [flat_encV]; exact hv.out)
 obtain ⟨a, cap, rfl, hn, hcap, hr⟩ := hsl
 have HR := Lib.hid hr
 have HL := Lib.hid hl
 clear hv hl hr
 go_enter Tryz.func13, Tryz.ntmps13
 go_wp2
 go_loopw [1, 5] (fun q i wr => ∃ j : Nat, j ≤ vs.length ∧ q = .int .i64 (k + totalS (x.take j).flatten) ∧ i = .int .i64 j ∧ Below w.heap.size w wr) (fun _ i _ => vs.length - (intOf i).toNat)
 case atStart => exact ⟨0, Nat.zero_le _, by simp [totalS], rfl, Below.refl _ _⟩
 case round =>
  obtain ⟨j, hj, rfl, rfl, hb⟩ := hrel
  have HB := Lib.hid hb
  by_cases hlt : j < vs.length
  ·have hx : j < x.length := by rw [← HL.out]; exact hlt
   obtain ⟨b, off, rfl, -, -, c1⟩ := (HR.out.below hb).one hlt
   have hv2 := HV.out.below hb
   have hxv : j < vss.length := by rw [hv2.len.2, renumT_len]; exact hx
   have s1 := hv2.one j hlt hxv (by rw [renumT_len]; exact hx)
   rw [renumT_get _ _ _ hx] at s1
   have hf := flat_take x j hx
   have htot : totalS (x.take (j + 1)).flatten = totalS (x.take j).flatten + totalS x[j] := by rw [hf, totalS_append]
   have htle : totalS (x.take (j + 1)).flatten ≤ totalS x.flatten := by
    have h9 : x.flatten = (x.take (j + 1)).flatten ++ (x.drop (j + 1)).flatten := by rw [← List.flatten_append, List.take_append_drop]
    rw [h9, totalS_append]
    omega
   have hle : k + totalS (x.take j).flatten + (totalS x[j] : Int) ≤ 1000000000 := by omega
   simp only [encV, List.getElem?_cons_zero] at c1
   have HS := Lib.hid (heldStrss_is lo vs[j] vss[j] x[j] _ wr (by omega) hle s1)
   obtain ⟨p, hpe⟩ : ∃ p, p = vs[j] := ⟨_, rfl⟩
   rw [← hpe] at c1 HS s1
   obtain ⟨_, _, rfl, -⟩ := owns_slice s1.out
   have HT := Lib.hid htot
   clear hf htot htle s1 hb hpe hv2
   go_wp2_with fail
   refine HS.out.mono ?_
   rintro e w1 ⟨rfl, hb1⟩
   have HB1 := Lib.hid (HB.out.trans (hb1.mono HB.out.size))
   clear hb1
   go_wp2_with fail
   go_roundw
   case rel => exact ⟨j + 1, by omega, by rw [HT.out]; go_num, by go_num, HB1.out⟩
   case measure => simp [intOf]; omega
  ·clear hb
   go_wp2
   go_ret
   obtain rfl : j = vs.length := by omega
   exact ⟨ret_int (by rw [HL.out]; simp), HB.out⟩

end Go.Proofs.YtodojigmhlkpeaaGreatDoor

namespace Go.Proofs.YtodojigmhlkpeaaGreatDoor
open Go Go.RowKit

theorem szS_fit (ss : List ByteArray) (left : Int) (h0 : 0 ≤ left) (h : 0 ≤ szS ss left) : ∀ s ∈ ss, (s.size : Int) ≤ left := by
 induction ss generalizing left with
 | nil => intro s hs; cases hs
 | cons a r ih =>
  unfold szS at h
  split at h
  ·omega
  ·next hl =>
   intro s hs
   rcases List.mem_cons.1 hs with rfl | hs
   ·omega
   ·have := ih (left - a.size) (by omega) h s hs
    omega
theorem szL_fit {t : Lts} {left : Int} (_h0 : 0 ≤ left) (h : 0 ≤ szL t left) : (t.labels.length : Int) ≤ left ∧ (t.edges.length : Int) ≤ left ∧ (∀ s ∈ t.labels, (s.size : Int) ≤ left) ∧ szL t left ≤ left := by
 unfold szL at h ⊢
 split at h
 ·omega
 ·next h1 =>
  rw [if_neg h1]
  split at h
  ·omega
  ·next h2 =>
   rw [if_neg h2]
   have h3 : ¬ left - t.labels.length < 0 := by
    intro e
    rw [szSS_neg e] at h1
    omega
   rw [szSS_pos h3] at h1 h2 h ⊢
   have h4 := szS_lt t.labels (left - t.labels.length) (by omega)
   have h5 : ¬ szS t.labels (left - t.labels.length) - t.edges.length < 0 := by
    intro e
    rw [szN_neg e] at h2
    omega
   rw [szN_pos h5] at h ⊢
   refine ⟨by omega, by omega, fun s hs => ?_, by omega⟩
   have := szS_fit t.labels (left - t.labels.length) (by omega) (by omega) s hs
   omega

end Go.Proofs.YtodojigmhlkpeaaGreatDoor

namespace Go.Proofs.YtodojigmhlkpeaaGreatDoor
open Go Go.RowKit

theorem blk4 {w : World} {b : Nat} {c0 c1 c2 c3 : Value} {T : TypeId} (h : Blk w b [c0, c1, c2, c3] T) :
  w.cell? ⟨b, 0, none⟩ = some c0 ∧ w.cell? ⟨b, 1, none⟩ = some c1 ∧ w.cell? ⟨b, 2, none⟩ = some c2 ∧ w.cell? ⟨b, 3, none⟩ = some c3 :=
 ⟨h.cell 0 rfl, h.cell 1 rfl, h.cell 2 rfl, h.cell 3 rfl⟩
theorem boxNew (w : World) (a : Array Value) (T : TypeId) : Below w.heap.size w (w.alloc (.cells a T)) := (Below.refl _ _).alloc (Nat.le_refl _) _

/-- A copy of a system, with both slices in blocks of its own. -/
structure Copy (B : Nat) (t : Lts) (b1 b2 : Nat) (w : World) : Prop where
 h1 : B ≤ b1
 h2 : b1 < b2
 h3 : b2 < w.heap.size
 o1 : w.ownsRow B 9 1 (.slice (some ⟨b1, 0, none⟩) t.labels.length t.labels.length) t.labels.length (t.labels.map .string)
 o2 : w.ownsRow b2 62 3 (.slice (some ⟨b2, 0, none⟩) t.edges.length t.edges.length) t.edges.length (t.edges.flatMap encE)
theorem Copy.below {B : Nat} {t : Lts} {b1 b2 : Nat} {w w' : World} (h : Copy B t b1 b2 w) (hb : Below w.heap.size w w') : Copy B t b1 b2 w' :=
 ⟨h.h1, h.h2, Nat.lt_of_lt_of_le h.h3 hb.size, owns_below h.o1 hb, owns_below h.o2 hb⟩
theorem Copy.labels {B : Nat} {t : Lts} {b1 b2 : Nat} {w : World} (h : Copy B t b1 b2 w) : SliceK 1 encS 0 w (.slice (some ⟨b1, 0, none⟩) t.labels.length t.labels.length) t.labels :=
 SliceK.of_owns (e := 9) encS_len rfl (by rw [flat_encS]; exact own_lower h.o1 (Nat.zero_le _))
theorem Copy.edges {B : Nat} {t : Lts} {b1 b2 : Nat} {w : World} (h : Copy B t b1 b2 w) : SliceK 3 encE 0 w (.slice (some ⟨b2, 0, none⟩) t.edges.length t.edges.length) t.edges :=
 SliceK.of_owns (e := 62) encE_len rfl (own_lower h.o2 (Nat.zero_le _))
theorem Copy.at {B : Nat} {t : Lts} {b1 b2 : Nat} {w : World} (h : Copy B t b1 b2 w) : LtsAt 0 w (.agg #[.int .i64 t.states, .int .i64 t.initial, .slice (some ⟨b1, 0, none⟩) t.labels.length t.labels.length, .slice (some ⟨b2, 0, none⟩) t.edges.length t.edges.length]) t :=
 ⟨_, _, rfl, h.labels, h.edges⟩
theorem Copy.turns {B : Nat} {t : Lts} {b1 b2 lo hi : Nat} {w w' : World} (h : Copy B t b1 b2 w) (ht : Turns lo hi w w') (hB : hi ≤ B) : Copy B t b1 b2 w' :=
 ⟨h.h1, h.h2, Nat.lt_of_lt_of_le h.h3 ht.size, owns_turns h.o1 ht (fun b e => by have := (h.o1.lt b e).1; omega), owns_turns h.o2 ht (fun b e => by have := (h.o2.lt b e).1; have := h.h1; have := h.h2; omega)⟩
def CopyMade (t : Lts) (w : World) (e : Ending) (w' : World) : Prop := ∃ b1 b2, e = .returned (.agg #[.int .i64 t.states, .int .i64 t.initial, .slice (some ⟨b1, 0, none⟩) t.labels.length t.labels.length, .slice (some ⟨b2, 0, none⟩) t.edges.length t.edges.length]) ∧ Below w.heap.size w w' ∧ Copy w.heap.size t b1 b2 w'
theorem copy_any (lo : Nat) (t : Lts) (lv ev : Value) (w : World) (hl : t.labels.length ≤ 1048576) (he : t.edges.length ≤ 1048576) (h1 : SliceK 1 encS lo w lv t.labels) (h2 : SliceK 3 encE lo w ev t.edges) :
  Calls Tryz.prog 6 #[.agg #[.int .i64 t.states, .int .i64 t.initial, lv, ev]] w (CopyMade t w) :=
 (toLts_any (.agg #[.int .i64 t.states, .int .i64 t.initial, lv, ev]) lo t w hl he ⟨lv, ev, rfl, h1, h2⟩).mono fun _ _ ⟨b1, b2, he, hb, h1, h2, h3, h4, h5⟩ => ⟨b1, b2, he, hb, h1, h2, h3, h4, h5⟩

end Go.Proofs.YtodojigmhlkpeaaGreatDoor
