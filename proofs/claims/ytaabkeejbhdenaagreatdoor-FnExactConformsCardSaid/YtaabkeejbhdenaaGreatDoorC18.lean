/-
  The reference's l28Differ: the first trace behind which an output is not allowed, and this output.
-/
import Derived.Test.YtaabkeejbhdenaaGreatDoorC15
import Derived.Test.YtaabkeejbhdenaaGreatDoorC16
import Derived.Test.YtaabkeejbhdenaaGreatDoorC17
import Derived.Test.YtaabkeejbhdenaaGreatDoorC11
namespace Go.Proofs.YtaabkeejbhdenaaGreatDoor
open Go Go.RowKit

theorem results_tmp2c {fn : Func} {t u : Tmp} (h : fn.results = #[.tmp t, .tmp u]) (tmps : Array Value) (P : Program) (w : World) : (results fn tmps).run P w = .ok (.tuple #[tmps.getD t undef, tmps.getD u undef]) w := by
 simp [results, h]

set_option maxRecDepth 100000 in
set_option maxHeartbeats 16000000 in
theorem l28Differ_any (px py lo : Nat) (a b : Lts) (sa sb : DNet) (iv : Value) (ins : List ByteArray) (w : World) (hva : Valid a) (hvb : Valid b) (hoka : DOk a sa) (hokb : DOk b sb) (hsa : Short a.labels) (hsb : Short b.labels) (hpx : LtsPtr lo w px (dSys a sa)) (hpy : LtsPtr lo w py (dSys b sb)) (hi : SliceK 1 encS lo w iv ins) :
  Calls Tryz.prog 32 #[.pointer (some ⟨px, 0, none⟩), .pointer (some ⟨py, 0, none⟩), iv] w fun e w' => Below w.heap.size w w' ∧ ∃ (r : Bool) (xs : List ByteArray) (o : ByteArray) (v : Value), e = .returned (.tuple #[v, .string o]) ∧ ConB a b ins sa sb r xs o ∧ xs.length ≤ 2000 ∧ OwnStrs w.heap.size w' v xs := by
 have HVA := Lib.hid hva
 have HVB := Lib.hid hvb
 have HOKA := Lib.hid hoka
 have HOKB := Lib.hid hokb
 have HSHA := Lib.hid hsa
 have HSHB := Lib.hid hsb
 have HII := Lib.hid hi
 have HPX := Lib.hid hpx
 have HPY := Lib.hid hpy
 have HBW : Hid (Below w.heap.size w w) := Below.refl _ _
 have HX : Hid (Valid (dSys a sa)) := dSys_valid hva hoka
 have HY : Hid (Valid (dSys b sb)) := dSys_valid hvb hokb
 obtain ⟨i1, hi1, hz10, hz11, hz12⟩ := info_parts info_intD
 obtain ⟨iw2, hi2, hz20, hz21, hz22⟩ := info_parts info_intsD
 obtain ⟨i3, hi3, hz30, hz31, hz32⟩ := info_parts info_strD
 obtain ⟨lva, eva, hpla, -, -, qa, -, hla, -⟩ := hpx
 obtain ⟨lvb, evb, hplb, -, -, qb, -, hlb, -⟩ := hpy
 rw [show (dSys a sa).labels = a.labels from rfl] at hla
 rw [show (dSys b sb).labels = b.labels from rfl] at hlb
 obtain ⟨aa, ca, rfl, -, -, ra⟩ := hla
 obtain ⟨ab, cb, rfl, -, -, rb⟩ := hlb
 obtain ⟨NA, hNA⟩ : ∃ NA, NA = a.labels.length := ⟨_, rfl⟩
 obtain ⟨NB, hNB⟩ : ∃ NB, NB = b.labels.length := ⟨_, rfl⟩
 have hna := HVA.out.labels.pos
 have hnb := HVB.out.labels.pos
 have hna2 := HVA.out.labels.most
 have hnb2 := HVB.out.labels.most
 rw [← hNA] at hna hna2 qa
 rw [← hNB] at hnb hnb2 qb
 obtain ⟨ba, oa, rfl, hbaw, hca⟩ : ∃ bl ol, aa = some ⟨bl, ol, none⟩ ∧ bl < w.heap.size ∧ ∀ i (h : i < a.labels.length) j, j < 1 → w.cell? ⟨bl, ol + i * 1 + j, none⟩ = (encS a.labels[i])[j]? := by
  rcases ra with h | ⟨bl, ol, h1, -, h3, h4⟩
  ·omega
  ·exact ⟨bl, ol, h1, h3, h4⟩
 obtain ⟨bb, ob, rfl, hbbw, hcb⟩ : ∃ bl ol, ab = some ⟨bl, ol, none⟩ ∧ bl < w.heap.size ∧ ∀ i (h : i < b.labels.length) j, j < 1 → w.cell? ⟨bl, ol + i * 1 + j, none⟩ = (encS b.labels[i])[j]? := by
  rcases rb with h | ⟨bl, ol, h1, -, h3, h4⟩
  ·omega
  ·exact ⟨bl, ol, h1, h3, h4⟩
 have HCA : Hid (∀ w', Below w.heap.size w w' → ∀ j u, (a.labels.map Value.string)[j]? = some u → w'.cell? ((⟨ba, oa, none⟩ : Addr).add j) = some u) := fun w' hb j u hu =>
  (hb.cell (p := (⟨ba, oa, none⟩ : Addr).add j) (by rw [add_block]; exact hbaw)).trans (row_news hca j u hu)
 have HCB : Hid (∀ w', Below w.heap.size w w' → ∀ j u, (b.labels.map Value.string)[j]? = some u → w'.cell? ((⟨bb, ob, none⟩ : Addr).add j) = some u) := fun w' hb j u hu =>
  (hb.cell (p := (⟨bb, ob, none⟩ : Addr).add j) (by rw [add_block]; exact hbbw)).trans (row_news hcb j u hu)
 have HSW : Hid (∀ w', Below w.heap.size w w' → w'.cell? ⟨px, 2, none⟩ = some (.slice (some ⟨ba, oa, none⟩) NA ca) ∧ w'.cell? ⟨py, 2, none⟩ = some (.slice (some ⟨bb, ob, none⟩) NB cb)) := fun w' hb => ⟨keeps hb hpla qa, keeps hb hplb qb⟩
 have HLA : Hid (NA = (a.labels.map Value.string).length) := by unfold Hid; rw [List.length_map]; exact hNA
 have HLB : Hid (NB = (b.labels.map Value.string).length) := by unfold Hid; rw [List.length_map]; exact hNB
 have HLEN : Hid (NA + NB = (a.labels ++ b.labels).length) := by unfold Hid; rw [List.length_append, hNA, hNB]
 have HDR : Hid (Below w.heap.size w (w.drew.alloc (.cells #[] 9))) := ((Below.refl _ _).drew).alloc (by simp) _
 have HO0 : Hid ((w.drew.alloc (.cells #[] 9)).ownsRow w.heap.size 9 1 (.slice (some ⟨w.heap.size, 0, none⟩) 0 0) 0 []) := by
  exact World.ownsRow_lit (base := w.heap.size) (e := 9) (size := 1) w.drew #[] 0 (by simp) (by decide) rfl
 clear hva hvb hoka hokb hsa hsb hi hca hcb ra rb hNA hNB hpla hplb hbaw hbbw
 go_enter Tryz.func32, Tryz.ntmps32
 go_wp2
 go_region_held3 (fun w' => w'.cell? ⟨px, 2, none⟩ = some (.slice (some ⟨ba, oa, none⟩) NA ca) ∧ w'.cell? ⟨py, 2, none⟩ = some (.slice (some ⟨bb, ob, none⟩) NB cb))
  (first
   | exact HSW.out _ (Below.refl _ _)
   | exact HSW.out _ HDR.out
   | exact HSW.out _ hq1
   | exact HSW.out _ hq2
   | exact HSW.out _ hq3
   | go_keep)
  (first
   | (go_at_call 70; refine Calls.mono (l11Join_any w.heap.size _ (a.labels ++ b.labels) _ (SliceK.of_owns (enc := encS) (e := 9) encS_len HLEN.out (by rw [flat_encS, List.map_append]; exact hown2)) (by rw [← HLEN.out]; omega)) ?_; rintro e w3 ⟨v3, rfl, hb3, ho3⟩; have hq3 : Below w.heap.size w w3 := hq2.trans (hb3.mono hs2))
   | (refine step_append_lies _ (by rfl) _ _ 22 (by rfl) w.heap.size 9 i3 _ 1 16 Tryz.underlying22 hi3 hz30 hz31 hz32 rfl (by omega) (.slice (some ⟨w.heap.size, 0, none⟩) 0 0) 0 [] (by rfl) HO0.out ⟨ba, oa, none⟩ NA ca (a.labels.map .string) (by rfl) (by rw [Nat.mul_one]; exact HLA.out.symm) (HCA.out _ HDR.out) (by intro u hu; obtain ⟨x, -, rfl⟩ := List.mem_map.1 hu; rfl) (by omega) (by simp [maxLen]; omega) (by omega) (by simp) _ (by rfl) ?_; intro gg1 cap1 w1 hown1 hgrow1 hat1 hlt1; have hq1 : Below w.heap.size w w1 := HDR.out.grown hgrow1 (by simp) (fun b e => by cases e; exact Nat.le_refl _); have hs1 := hq1.size; rw [List.nil_append] at hown1; rw [Nat.zero_add] at hown1 ⊢)
   | (refine step_append_lies _ (by rfl) _ _ 22 (by rfl) w.heap.size 9 i3 _ 1 16 Tryz.underlying22 hi3 hz30 hz31 hz32 rfl (by omega) _ NA _ (by rfl) hown1 ⟨bb, ob, none⟩ NB cb (b.labels.map .string) (by rfl) (by rw [Nat.mul_one]; exact HLB.out.symm) (HCB.out _ hq1) (by intro u hu; obtain ⟨x, -, rfl⟩ := List.mem_map.1 hu; rfl) (by omega) (by simp [maxLen]; omega) (by omega) (by omega) _ (by rfl) ?_; intro gg2 cap2 w2 hown2 hgrow2 hat2 hlt2; have hq2 : Below w.heap.size w w2 := hq1.grown hgrow2 hs1 (fun b e => (hown1.lt b e).1); have hs2 := hq2.size)
   | fail)
 obtain ⟨LL, hLL⟩ : ∃ LL, LL = bothL a b := ⟨_, rfl⟩
 have hLe : labSet (tauT :: (a.labels ++ b.labels)) = LL := by rw [hLL]; rfl
 rw [hLe] at ho3
 obtain ⟨NL, hNL⟩ : ∃ NL, NL = LL.length := ⟨_, rfl⟩
 have hINO : InOrd LL := by rw [hLL]; exact InOrd.set _
 have hNL1 : 1 ≤ NL := by rw [hNL]; exact hINO.pos
 have hNL26 : NL ≤ 25 := by rw [hNL, hLL]; exact bothL_few HVA.out HVB.out
 rw [← hNL] at ho3
 obtain ⟨gl, cl, rfl, hglB, hgl3⟩ := own_some ho3 hNL1
 obtain ⟨B, hB⟩ : ∃ B, B = w.heap.size := ⟨_, rfl⟩
 have HOL : Hid (w3.ownsRow B 9 1 (.slice (some ⟨gl, 0, none⟩) NL cl) NL (LL.map .string)) := by
  unfold Hid; rw [hB]; exact own_lower ho3 hs2
 have HB3 : Hid (Below B w w3) := by unfold Hid; rw [hB]; exact hq3
 have hB3 : B ≤ w3.heap.size := by rw [hB]; exact hq3.size
 have HBB := Lib.hid hB
 have HGL3 : Hid (gl < w3.heap.size) := hgl3
 have HNL := Lib.hid hNL
 have HLL := Lib.hid hLL
 obtain ⟨W5, hW5⟩ : ∃ W5, W5 = (((w3.alloc (.cells #[.int .i64 0] 2)).alloc (.cells #[.int .i64 0] 2)).alloc (.cells #[.int .i64 (-1)] 3)).alloc (.cells #[.string ⟨#[]⟩] 9) := ⟨_, rfl⟩
 obtain ⟨G, hG⟩ : ∃ G, G = w3.heap.size := ⟨_, rfl⟩
 have hb35 : Below G w3 W5 := by rw [hW5, hG]; exact ((((Below.refl _ _).alloc (Nat.le_refl _) _).alloc (by simp) _).alloc (by simp; omega) _).alloc (by simp; omega) _
 have HOD5 : Hid (OwnD B W5 (.slice (some ⟨G, 0, none⟩) 1 1) (.slice (some ⟨G + 1, 0, none⟩) 1 1) (.slice (some ⟨G + 1 + 1, 0, none⟩) 1 1) (.slice (some ⟨G + 1 + 1 + 1, 0, none⟩) 1 1) [0] [0] [-1] [⟨#[]⟩]) := by
  have r1 := World.ownsRow_lit (base := B) (e := 2) (size := 1) w3 #[.int .i64 0] 1 hB3 (by decide) rfl
  have r2 := World.ownsRow_lit (base := B) (e := 2) (size := 1) (w3.alloc (.cells #[.int .i64 0] 2)) #[.int .i64 0] 1 (by simp; omega) (by decide) rfl
  have r3 := World.ownsRow_lit (base := B) (e := 3) (size := 1) ((w3.alloc (.cells #[.int .i64 0] 2)).alloc (.cells #[.int .i64 0] 2)) #[.int .i64 (-1)] 1 (by simp; omega) (by decide) rfl
  have r4 := World.ownsRow_lit (base := B) (e := 9) (size := 1) (((w3.alloc (.cells #[.int .i64 0] 2)).alloc (.cells #[.int .i64 0] 2)).alloc (.cells #[.int .i64 (-1)] 3)) #[.string ⟨#[]⟩] 1 (by simp; omega) (by decide) rfl
  simp only [World.size_alloc] at r2 r3 r4
  unfold Hid
  rw [hW5, hG]
  exact ⟨((r1.alloc _).alloc _).alloc _, (r2.alloc _).alloc _, r3.alloc _, r4, by simp [Value.ownBlock], by simp [Value.ownBlock]⟩
 have HOL5 : Hid (W5.ownsRow B 9 1 (.slice (some ⟨gl, 0, none⟩) NL cl) NL (LL.map .string)) := owns_below HOL.out (by rw [← hG]; exact hb35)
 have HB5 : Hid (Below B w W5) := HB3.out.trans (hb35.mono (by rw [hG]; exact hB3))
 have HST := Lib.hid (CSt.start a b ins sa sb)
 have HW5 := Lib.hid hW5
 have HG := Lib.hid hG
 clear hLe ho3 hINO hglB hgl3 hB hNL hLL hW5 hG hb35 hB3 hb3 hq3 hq2 hq1 hs1 hs2 hown1 hown2 hgrow1 hgrow2 hat1 hat2 hlt1 hlt2
 go_wp2
 rw [← HG.out]
 try rw [← HG.out] at HW5
 try rw [← HW5.out]
 go_loopw [9, 10, 11, 12, 13] (fun v9 v10 v11 v12 v13 wr => ∃ (i : Nat) (N : List (List Nat)) (bs : List Int) (ys : List ByteArray), v13 = .int .i64 i ∧ i ≤ N.length ∧ CSt a b ins sa sb N i 0 ∧ BackOk LL N bs ys ∧ Below B w wr ∧ (wr.ownsRow B 9 1 (.slice (some ⟨gl, 0, none⟩) NL cl) NL (LL.map .string) ∧ v12.ownBlock ≠ some gl) ∧ OwnD B wr v9 v10 v11 v12 (N.map fun u => (difS (dSys a sa) (dSys b sb) LL u).1) (N.map fun u => (difS (dSys a sa) (dSys b sb) LL u).2) bs ys) (fun _ _ _ _ v13 _ => 2000 - (intOf v13).toNat)
 case atStart => exact ⟨0, [[]], [-1], [⟨#[]⟩], rfl, by simp, HST.out, BackOk.one LL, HB5.out, ⟨HOL5.out, by have := HGL3.out; have := HG.out; simp [Value.ownBlock]; omega⟩, HOD5.out⟩
 case round =>
  clear HOD5 HB5 HST HOL
  obtain ⟨i, N, bs, ys, rfl, hiN, hst, hbk, hbl, hbl4, hod⟩ := hrel
  obtain ⟨wC, rfl⟩ : ∃ wC : World, wC = wr := ⟨_, rfl⟩
  have HSTC := Lib.hid hst
  have HBK := Lib.hid hbk
  have HBL := Lib.hid hbl
  have hN16 : N.length ≤ 1681 := hst.few HX.out HY.out
  have hBC : B ≤ wC.heap.size := by have := hbl.size; have := HBB.out; omega
  have HOLC := Lib.hid hbl4
  by_cases hlt : i < N.length
  ·obtain ⟨u, hu⟩ : ∃ u, N[i]? = some u := ⟨_, List.getElem?_eq_getElem hlt⟩
   have HU := Lib.hid hu
   have halv := hst.alive hu
   have hrng := difS_range HX.out HY.out (bothL a b) u
   obtain ⟨M, hM⟩ : ∃ M, M = N.length := ⟨_, rfl⟩
   obtain ⟨ls, hls⟩ : ∃ ls, ls = N.map fun u => (difS (dSys a sa) (dSys b sb) LL u).1 := ⟨_, rfl⟩
   obtain ⟨rs, hrs⟩ : ∃ rs, rs = N.map fun u => (difS (dSys a sa) (dSys b sb) LL u).2 := ⟨_, rfl⟩
   have hlsM : ls.length = M := by rw [hls, List.length_map, hM]
   have hrsM : rs.length = M := by rw [hrs, List.length_map, hM]
   have hbsM : bs.length = M := by rw [hbk.1, hM]
   have hysM : ys.length = M := by rw [hbk.2.1, hM]
   rw [← hls, ← hrs] at hod
   rw [← hM] at hN16 hiN hlt
   have hM0 : 0 < M := by omega
   obtain ⟨gA, cA, rfl, hgA, hgAw⟩ := own_some hod.left (by omega)
   obtain ⟨gB, cB, rfl, hgB, hgBw⟩ := own_some hod.right (by omega)
   obtain ⟨gC, cC, rfl, hgC, hgCw⟩ := own_some hod.before (by omega)
   obtain ⟨gD, cD, rfl, hgD, hgDw⟩ := own_some hod.by_ (by omega)
   rw [hlsM, hrsM, hbsM, hysM] at hod ⊢
   rw [hysM] at hbl4 HOLC
   have hl1 := hod.left
   have hr1 := hod.right
   rw [hlsM] at hl1
   rw [hrsM] at hr1
   have cA1 := cell_num hl1 hlt
   have cB1 := cell_num hr1 hlt
   rw [hls, (word_at hu).1] at cA1
   rw [hrs, (word_at hu).2] at cB1
   obtain ⟨P, hP⟩ : ∃ P, P = difS (dSys a sa) (dSys b sb) LL u := ⟨_, rfl⟩
   have hP2 : P = difS (dSys a sa) (dSys b sb) (bothL a b) u := by rw [hP, HLL.out]
   rw [← hP] at cA1 cB1
   rw [← hP2] at halv hrng
   have HPP := Lib.hid hP
   have HPP2 := Lib.hid hP2
   have HOD := Lib.hid hod
   have HLS := Lib.hid hls
   have HRS := Lib.hid hrs
   have HLSM := Lib.hid hlsM
   have HRSM := Lib.hid hrsM
   have HBSM := Lib.hid hbsM
   have HYSM := Lib.hid hysM
   have HM := Lib.hid hM
   have HIM : Hid (i ≤ 1681) := by unfold Hid; omega
   have HRNG := Lib.hid hrng
   have HCA1 : Hid (wC.cell? ⟨gA, i, none⟩ = some (.int .i64 P.1)) := cA1
   have HCB1 : Hid (wC.cell? ⟨gB, i, none⟩ = some (.int .i64 P.2)) := cB1
   have HALV := Lib.hid halv
   have hwC : Below w.heap.size w wC := by have h := hbl; rw [HBB.out] at h; exact h
   have HWC := Lib.hid hwC
   have HNE6 : Hid (some gD ≠ some gl) := by unfold Hid; have := hbl4.2; simpa [Value.ownBlock] using this
   have HGW : Hid (gA < wC.heap.size ∧ gB < wC.heap.size ∧ gl < wC.heap.size) := ⟨hgAw, hgBw, (hbl4.1.lt gl rfl).2⟩
   have HSW : Hid (∀ w', Below wC.heap.size wC w' → w'.cell? ⟨gB, i, none⟩ = some (.int .i64 P.2) ∧ w'.cell? ⟨gA, i, none⟩ = some (.int .i64 P.1)) := fun w' hb => ⟨keeps hb hgBw HCB1.out, keeps hb hgAw HCA1.out⟩
   have HD9 : Hid (Below wC.heap.size wC wC.drew) := (Below.refl _ _).drew
   have HOFB : Hid (∀ w', Below wC.heap.size wC w' → Calls Tryz.prog 72 #[.pointer (some ⟨py, 0, none⟩), iv, .int .i64 P.2] w' (MadeTxI (outsL b ins (setOf sb P.2)) w')) := fun w' hb => by
    have h := hwC.trans (hb.mono hwC.size)
    have := l28Offers_any py lo (dSys b sb) iv ins P.2 w' HY.out HSHB.out (HPY.out.below h) (HII.out.below h)
    rw [outs_det HVB.out HOKB.out ins halv.2 hrng.2.1] at this
    exact this
   have HOFA : Hid (∀ w', Below wC.heap.size wC w' → Calls Tryz.prog 72 #[.pointer (some ⟨px, 0, none⟩), iv, .int .i64 P.1] w' (MadeTxI (outsL a ins (setOf sa P.1)) w')) := fun w' hb => by
    have h := hwC.trans (hb.mono hwC.size)
    have := l28Offers_any px lo (dSys a sa) iv ins P.1 w' HX.out HSHA.out (HPX.out.below h) (HII.out.below h)
    rw [outs_det HVA.out HOKA.out ins halv.1 hrng.1.1] at this
    exact this
   have HLO : Hid ((outsL b ins (setOf sb P.2)).length ≤ 1000) := by unfold Hid; have h1 := outs_len b ins (setOf sb P.2); have h2 := HVB.out.labels.most; omega
   obtain ⟨o, ho⟩ : ∃ o, o = headT (wrongL a b ins sa sb P) := ⟨_, rfl⟩
   have HOO := Lib.hid ho
   have HOE : Hid (o.toList.isEmpty = true ↔ wrongL a b ins sa sb P = []) := by
    unfold Hid
    have h1 := head_ne (s := a) (sa := sa) (sb := sb) (ins := ins) (p := P) HVB.out
    rw [← ho] at h1
    rw [List.isEmpty_iff]
    have h2 : o.toList = [] ↔ o = ByteArray.empty := ⟨fun h => toList_inj (by rw [h, Lib.toList_data]; rfl), fun h => by rw [h, Lib.toList_data]; rfl⟩
    rw [h2]
    exact Decidable.not_iff_not.1 h1
   have HBP : Hid (badC a b ins sa sb P ↔ ¬ o.toList.isEmpty = true) := by
    unfold Hid
    rw [HOE.out]
    exact ⟨fun h => h.2.2, fun h => ⟨halv.1, halv.2, h⟩⟩
   have HWR : Hid (∀ w' v1 v2, SliceK 1 encS 0 w' v1 (outsL b ins (setOf sb P.2)) → SliceK 1 encS 0 w' v2 (outsL a ins (setOf sa P.1)) → Calls Tryz.prog 71 #[v1, v2] w' fun e w'' => e = .returned (.string o) ∧ Below w'.heap.size w' w'') := fun w' v1 v2 h1 h2 => by
    rw [ho]; exact l28Wrong_any 0 0 v1 v2 _ _ w' h1 h2 HLO.out
   obtain ⟨oa, hoa⟩ : ∃ oa, oa = outsL a ins (setOf sa P.1) := ⟨_, rfl⟩
   obtain ⟨ob, hob⟩ : ∃ ob, ob = outsL b ins (setOf sb P.2) := ⟨_, rfl⟩
   rw [← hoa] at HOFA HWR
   rw [← hob] at HOFB HWR
   clear hst hbk hbl hbl4 hod hu hls hrs hl1 hr1 cA1 cB1 hP hP2 hM hlsM hrsM hbsM hysM halv hrng hwC ho hoa hob hgA hgAw hgB hgBw hgC hgCw hgD hgDw
   go_wp2
   go_region_held3 (fun w' => w'.cell? ⟨gB, i, none⟩ = some (.int .i64 P.2) ∧ w'.cell? ⟨gA, i, none⟩ = some (.int .i64 P.1))
    (first
     | exact HSW.out _ HD9.out
     | exact HSW.out _ (Below.refl _ _)
     | exact HSW.out _ hq1
     | exact HSW.out _ hq2
     | exact HSW.out _ hq3
     | go_keep)
    (first
     | (go_at_call_of 72 (Value.pointer (some ⟨py, 0, none⟩)); refine Calls.mono (HOFB.out _ HD9.out) ?_; rintro e w7 ⟨v7, rfl, hb7, ho7⟩; have hq1 : Below wC.heap.size wC w7 := HD9.out.trans (hb7.mono (by simp)))
     | (go_at_call_of 72 (Value.pointer (some ⟨px, 0, none⟩)); refine Calls.mono (HOFA.out _ hq1) ?_; rintro e w8 ⟨v8, rfl, hb8, ho8⟩; have hq2 : Below wC.heap.size wC w8 := hq1.trans (hb8.mono hq1.size))
     | (go_at_call 71; refine Calls.mono (HWR.out _ v7 v8 ((ho7.at.below hb8).mono (Nat.zero_le _)) (ho8.at.mono (Nat.zero_le _))) ?_; rintro e w9 ⟨rfl, hb9⟩; have hq3 : Below wC.heap.size wC w9 := hq2.trans (hb9.mono hq2.size))
     | fail)
   cases hem : o.toList.isEmpty
   ·have hbad : badC a b ins sa sb (difS (dSys a sa) (dSys b sb) (bothL a b) u) := by rw [← HPP2.out, HBP.out, hem]; decide
    have HRF : Hid (ConB a b ins sa sb false (txtsOf LL u) o) := .inr ⟨u, HSTC.out.least HU.out hbad, rfl, by rw [HLL.out], by rw [← HPP2.out]; exact HOO.out⟩
    have HBZ : Hid (Below B w w9) := by unfold Hid; rw [HBB.out]; exact HWC.out.trans (hq3.mono HWC.out.size)
    have HODZ : Hid (OwnD B w9 (.slice (some ⟨gA, 0, none⟩) M cA) (.slice (some ⟨gB, 0, none⟩) M cB) (.slice (some ⟨gC, 0, none⟩) M cC) (.slice (some ⟨gD, 0, none⟩) M cD) ls rs bs ys) := HOD.out.below hq3
    obtain ⟨wZ, hwZ⟩ : ∃ wZ, wZ = w9 := ⟨_, rfl⟩
    rw [← hwZ] at HBZ HODZ ⊢
    obtain ⟨gz, hgz⟩ : ∃ gz, gz = wZ.heap.size := ⟨_, rfl⟩
    have HGZ := Lib.hid hgz
    clear hgz hbad hwZ hb7 ho7 hb8 ho8 hb9 hq1 hq2 hq3
    obtain ⟨W7, hW7⟩ : ∃ W7, W7 = wZ.alloc (.cells #[] 9) := ⟨_, rfl⟩
    have HB7 : Hid (Below wZ.heap.size wZ W7) := by unfold Hid; rw [hW7]; exact (Below.refl _ _).alloc (Nat.le_refl _) _
    have HT7 : Hid (W7.ownsRow wZ.heap.size 9 1 (.slice (some ⟨gz, 0, none⟩) 0 0) 0 []) := by
     unfold Hid; rw [hW7, HGZ.out]
     exact World.ownsRow_lit (base := wZ.heap.size) (e := 9) (size := 1) wZ #[] 0 (Nat.le_refl _) (by decide) rfl
    have HW7 := Lib.hid hW7
    have HZS : Hid (w.heap.size ≤ wZ.heap.size ∧ gD < wZ.heap.size ∧ gC < wZ.heap.size) := by
     have h1 := HBZ.out.size
     have h2 := HODZ.out.by_
     have h3 := HODZ.out.before
     exact ⟨h1, (h2.lt gD rfl).2, (h3.lt gC rfl).2⟩
    have HIW : Hid (∀ a z, N[a]? = some z → 0 < a → ∃ (s : ByteArray) (p : Nat) (v : List Nat), p < a ∧ N[p]? = some v ∧ txtsOf LL v ++ [s] = txtsOf LL z ∧ a < M ∧ wZ.cell? ⟨gD, a, none⟩ = some (.string s) ∧ wZ.cell? ⟨gC, a, none⟩ = some (.int .i64 p)) := by
     intro a z hz ha
     obtain ⟨c, v, p, e1, e2, e3, e4, e5⟩ := HBK.out.2.2 a z hz ha
     have haM : a < M := by rw [HM.out]; exact (List.getElem?_eq_some_iff.1 hz).1
     refine ⟨labK LL c, p, v, e2, e3, by rw [e1, txtsOf_cons], haM, ?_, ?_⟩
     ·have h1 := HODZ.out.by_
      rw [HYSM.out] at h1
      have h2 := h1.cellAt a (by omega)
      rw [List.getElem?_map, e5] at h2
      exact h2
     ·have h1 := HODZ.out.before
      rw [HBSM.out] at h1
      have h2 := h1.cellAt a (by omega)
      rw [List.getElem?_map, e4] at h2
      exact h2
    clear hW7
    go_wp2
    try rw [← HGZ.out]
    rw [← HW7.out]
    go_loopw [15, 16] (fun v15 v16 wr => ∃ (a : Nat) (z : List Nat) (T : List ByteArray) (gT cT : Nat), v16 = .int .i64 a ∧ v15 = .slice (some ⟨gT, 0, none⟩) T.length cT ∧ gT < wr.heap.size ∧ T.length ≤ cT ∧ cT ≤ maxLen ∧ N[a]? = some z ∧ T.length + a ≤ i ∧ txtsOf LL z ++ T = txtsOf LL u ∧ Below wZ.heap.size wZ wr ∧ wr.ownsRow wZ.heap.size 9 1 v15 T.length (T.map .string)) (fun _ v16 _ => (intOf v16).toNat)
    case atStart => exact ⟨i, u, [], gz, 0, rfl, rfl, by rw [HW7.out, HGZ.out]; simp, Nat.le_refl _, by decide, HU.out, by simp, by simp, HB7.out, HT7.out⟩
    case round =>
     clear HB7 HT7
     obtain ⟨a9, z, T, gT, cT, rfl, rfl, hgTw, hTc, hcT, hNa, hTa, hTX, hb7, hoT⟩ := hrel
     obtain ⟨w7, rfl⟩ : ∃ w7 : World, w7 = wr := ⟨_, rfl⟩
     have hs7 := hb7.size
     obtain ⟨TL, hTL⟩ : ∃ TL, TL = T.length := ⟨_, rfl⟩
     rw [← hTL] at hoT hTa hTc ⊢
     have HTX := Lib.hid hTX
     have HB7 := Lib.hid hb7
     have HOT := Lib.hid hoT
     have HTL := Lib.hid hTL
     by_cases ha0 : 0 < a9
     ·obtain ⟨sx, p9, v, hpa9, hNp, hsx, haM, cD, cC⟩ := HIW.out a9 z hNa ha0
      have cD7 := keeps hb7 HZS.out.2.1 cD
      have HCC : Hid (wZ.cell? ⟨gC, a9, none⟩ = some (.int .i64 p9)) := cC
      have HNP := Lib.hid hNp
      have HSX := Lib.hid hsx
      have HFR : Hid ((w7.alloc (.cells #[.string sx] 9)).ownsRow wZ.heap.size 9 1 (.slice (some ⟨w7.heap.size, 0, none⟩) 1 1) 1 [.string sx]) :=
       World.ownsRow_lit (base := wZ.heap.size) (e := 9) (size := 1) w7 #[.string sx] 1 hs7 (by decide) rfl
      have HTC : Hid (∀ j u, (T.map Value.string)[j]? = some u → (w7.alloc (.cells #[.string sx] 9)).cell? ((⟨gT, 0, none⟩ : Addr).add j) = some u) := (hoT.alloc _).cells rfl
      have hi16 := HIM.out
      clear hNa hTX hb7 hoT hTL hNp hsx cD cC
      go_wp2_with (at_builtin; refine wpList_append_own _ rfl _ _ 22 rfl wZ.heap.size 9 i3 (.string ⟨#[]⟩) 1 16 Tryz.underlying22 hi3 hz30 hz31 hz32 rfl (by decide) _ 1 [.string sx] rfl HFR.out ⟨gT, 0, none⟩ TL cT (T.map .string) rfl ?c0 HTC.out ?c2 ?c3 ?c4 ?c5 ?_)
      case c0 => rw [List.length_map, HTL.out, Nat.mul_one]
      case c2 => intro u hu; obtain ⟨x, -, rfl⟩ := List.mem_map.1 hu; rfl
      case c3 => simp [maxLen]; omega
      case c4 => omega
      case c5 => first | omega | (simp; omega)
      intro v8 w8 ho8 hg8 _
      have hb8 : Below wZ.heap.size wZ w8 := ((HB7.out.alloc hs7 _).grown hg8 (by simp; omega) (fun b e => by cases e; exact hs7))
      have HB8 := Lib.hid hb8
      have cC8 := keeps hb8 HZS.out.2.2 HCC.out
      have HO8 : Hid (w8.ownsRow wZ.heap.size 9 1 v8 (sx :: T).length ((sx :: T).map .string)) := by
       unfold Hid
       rw [List.length_cons, ← HTL.out, Nat.add_comm TL 1]
       exact ho8
      obtain ⟨g8, c8, hv8, -, hg8w⟩ := own_some HO8.out (by simp)
      have hc8 : (sx :: T).length ≤ c8 ∧ c8 ≤ maxLen := by
       obtain ⟨a, c, e, h1, h2⟩ := owns_slice HO8.out
       rw [hv8] at e
       simp only [Value.slice.injEq] at e
       obtain ⟨-, -, rfl⟩ := e
       exact ⟨h1, h2⟩
      subst hv8
      have HC8 := Lib.hid hc8
      have HG8 := Lib.hid hg8w
      clear ho8 hg8 hb8 hc8 hg8w
      go_wp2
      go_roundw
      case rel => exact ⟨p9, v, sx :: T, g8, c8, by go_num, rfl, HG8.out, HC8.out.1, HC8.out.2, HNP.out, by rw [List.length_cons, ← HTL.out]; omega, by rw [← HTX.out, ← HSX.out]; simp, HB8.out, HO8.out⟩
      case measure => simp [intOf]; omega
     ·have ha1 : a9 = 0 := by omega
      have hz0 : z = [] := by
       have h := HSTC.out.nst.first
       rw [ha1, h] at hNa
       cases hNa
       rfl
      have hTE : T = txtsOf LL u := by
       rw [← hTX, hz0]
       rfl
      have HBF : Hid (Below w.heap.size w w7) := HBW.out.trans ((HBZ.out.trans (hb7.mono (by have := HBZ.out.size; have := HBB.out; omega))).mono (by have := HBW.out.size; have := HBB.out; omega))
      have HOF : Hid (OwnStrs w.heap.size w7 (.slice (some ⟨gT, 0, none⟩) TL cT) (txtsOf LL u)) := by
       unfold Hid OwnStrs
       rw [← hTE, ← hTL]
       exact own_lower hoT (Nat.le_trans HBW.out.size HBZ.out.size)
      have HTF : Hid ((txtsOf LL u).length ≤ 2000) := by unfold Hid; rw [← hTE]; have := HIM.out; omega
      clear hNa hTX hb7 hoT hTL hz0 hTE
      go_wp2
      ((try simp only [Exit.inBlock, Exit.then]); refine bodyPost_ret (results_tmp2c rfl _ _ _) rfl ?_)
      exact ⟨HBF.out, false, _, o, _, rfl, HRF.out, HTF.out, HOF.out⟩
   ·have HGOOD : Hid (¬ badC a b ins sa sb (difS (dSys a sa) (dSys b sb) (bothL a b) u)) := by unfold Hid; rw [← HPP2.out, HBP.out, hem]; decide
    have HBC9 : Hid (Below B w w9) := by unfold Hid; rw [HBB.out]; exact HWC.out.trans (hq3.mono HWC.out.size)
    have HODC : Hid (OwnD B w9 (.slice (some ⟨gA, 0, none⟩) M cA) (.slice (some ⟨gB, 0, none⟩) M cB) (.slice (some ⟨gC, 0, none⟩) M cC) (.slice (some ⟨gD, 0, none⟩) M cD) ls rs bs ys) := HOD.out.below hq3
    have HOLC9 : Hid (w9.ownsRow B 9 1 (.slice (some ⟨gl, 0, none⟩) NL cl) NL (LL.map .string)) := owns_below HOLC.out.1 hq3
    clear hb7 ho7 hb8 ho8 hb9 hq1 hq2 hq3
    go_wp2
    go_loopw [9, 10, 11, 12, 17] (fun v9 v10 v11 v12 v17 wr => ∃ (j k : Nat) (N : List (List Nat)) (bs : List Int) (ys : List ByteArray), v17 = .int .i64 j ∧ j = k + 1 ∧ j ≤ NL ∧ CSt a b ins sa sb N i k ∧ N[i]? = some u ∧ BackOk LL N bs ys ∧ Below B w wr ∧ (wr.ownsRow B 9 1 (.slice (some ⟨gl, 0, none⟩) NL cl) NL (LL.map .string) ∧ v12.ownBlock ≠ some gl) ∧ OwnD B wr v9 v10 v11 v12 (N.map fun u => (difS (dSys a sa) (dSys b sb) LL u).1) (N.map fun u => (difS (dSys a sa) (dSys b sb) LL u).2) bs ys) (fun _ _ _ _ v17 _ => 2000 - (intOf v17).toNat)
    case atStart => exact ⟨1, 0, N, bs, ys, by go_num, rfl, hNL1, HSTC.out, HU.out, HBK.out, HBC9.out, ⟨HOLC9.out, by have := HNE6.out; simpa [Value.ownBlock] using this⟩, by have := HODC.out; rw [HLS.out, HRS.out] at this; exact this⟩
    case round =>
     clear HODC HOLC9 HBC9 HOD HLS HRS HLSM HRSM HBSM HYSM HM HSTC HBK HBL hN16 hlt hiN hBC HOLC HCA1 HCB1 HGW HNE6
     obtain ⟨j, k, N, bs, ys, rfl, hjk, hkN, hst, hu2, hbk, hbl, hbl4, hod⟩ := hrel
     obtain ⟨wD, rfl⟩ : ∃ wD : World, wD = wr := ⟨_, rfl⟩
     have HSTC := Lib.hid hst
     have HBK := Lib.hid hbk
     have HBL := Lib.hid hbl
     have hN16 : N.length ≤ 1681 := hst.few HX.out HY.out
     have hBC : B ≤ wD.heap.size := by have := hbl.size; have := HBB.out; omega
     have HOLC := Lib.hid hbl4
     have hiN : i < N.length := (List.getElem?_eq_some_iff.1 hu2).1
     have HU2 := Lib.hid hu2
     by_cases hkL : j < NL
     ·have hjL : j < LL.length := by rw [← HNL.out]; exact hkL
      obtain ⟨M, hM⟩ : ∃ M, M = N.length := ⟨_, rfl⟩
      obtain ⟨ls, hls⟩ : ∃ ls, ls = N.map fun u => (difS (dSys a sa) (dSys b sb) LL u).1 := ⟨_, rfl⟩
      obtain ⟨rs, hrs⟩ : ∃ rs, rs = N.map fun u => (difS (dSys a sa) (dSys b sb) LL u).2 := ⟨_, rfl⟩
      have hlsM : ls.length = M := by rw [hls, List.length_map, hM]
      have hrsM : rs.length = M := by rw [hrs, List.length_map, hM]
      have hbsM : bs.length = M := by rw [hbk.1, hM]
      have hysM : ys.length = M := by rw [hbk.2.1, hM]
      rw [← hls, ← hrs] at hod
      rw [← hM] at hN16 hiN
      have hM0 : 0 < M := by omega
      obtain ⟨gA, cA, rfl, hgA, hgAw⟩ := own_some hod.left (by omega)
      obtain ⟨gB, cB, rfl, hgB, hgBw⟩ := own_some hod.right (by omega)
      obtain ⟨gC, cC, rfl, hgC, hgCw⟩ := own_some hod.before (by omega)
      obtain ⟨gD, cD, rfl, hgD, hgDw⟩ := own_some hod.by_ (by omega)
      rw [hlsM, hrsM, hbsM, hysM] at hod ⊢
      rw [hysM] at hbl4 HOLC
      have hl1 := hod.left
      have hr1 := hod.right
      rw [hlsM] at hl1
      rw [hrsM] at hr1
      have cA1 := cell_num hl1 hiN
      have cB1 := cell_num hr1 hiN
      rw [hls, (word_at hu2).1] at cA1
      rw [hrs, (word_at hu2).2] at cB1
      have cl0 := hbl4.1.cellAt j (by omega)
      rw [List.getElem?_map, List.getElem?_eq_getElem hjL, Option.map_some] at cl0
      obtain ⟨l, hl⟩ : ∃ l, l = labK LL k := ⟨_, rfl⟩
      have hlk : LL[j] = l := by
       rw [hl]; unfold labK
       rw [← hjk, List.getD_eq_getElem?_getD, List.getElem?_eq_getElem hjL, Option.getD_some]
      rw [hlk] at cl0
      obtain ⟨p1, hp1⟩ : ∃ p1, p1 = (difS (dSys a sa) (dSys b sb) LL u).1 := ⟨_, rfl⟩
      obtain ⟨p2', hp2⟩ : ∃ p2', p2' = (difS (dSys a sa) (dSys b sb) LL u).2 := ⟨_, rfl⟩
      rw [← hp1] at cA1
      rw [← hp2] at cB1
      obtain ⟨X, hXX⟩ : ∃ X, X = goTo (dSys a sa) p1 l := ⟨_, rfl⟩
      obtain ⟨Y, hYY⟩ : ∃ Y, Y = goTo (dSys b sb) p2' l := ⟨_, rfl⟩
      have HDS : Hid (difS (dSys a sa) (dSys b sb) LL (k :: u) = (X, Y)) := by
       unfold Hid
       rw [difS_cons, ← hp1, ← hp2, ← hl, ← hXX, ← hYY]
      have HBWD : Hid (∀ w', Below wD.heap.size wD w' → Below w.heap.size w w') := fun w' hb => by
       have h := hbl
       rw [HBB.out] at h
       exact h.trans (hb.mono h.size)
      have HGX : Hid (∀ w', Below wD.heap.size wD w' → Calls Tryz.prog 48 #[.pointer (some ⟨px, 0, none⟩), .int .i64 p1, .string l] w' fun e w'' => e = .returned (.int .i64 X) ∧ Below w'.heap.size w' w'') := fun w' hb => by
       rw [hXX]; exact l12Go_any px lo (dSys a sa) p1 l w' HX.out.edge (HPX.out.below (HBWD.out _ hb))
      have HGY : Hid (∀ w', Below wD.heap.size wD w' → Calls Tryz.prog 48 #[.pointer (some ⟨py, 0, none⟩), .int .i64 p2', .string l] w' fun e w'' => e = .returned (.int .i64 Y) ∧ Below w'.heap.size w' w'') := fun w' hb => by
       rw [hYY]; exact l12Go_any py lo (dSys b sb) p2' l w' HY.out.edge (HPY.out.below (HBWD.out _ hb))
      have hgLw : gl < wD.heap.size := (hbl4.1.lt gl rfl).2
      have HOD := Lib.hid hod
      have HLS := Lib.hid hls
      have HRS := Lib.hid hrs
      have HLSM := Lib.hid hlsM
      have HRSM := Lib.hid hrsM
      have HBSM := Lib.hid hbsM
      have HYSM := Lib.hid hysM
      have HM := Lib.hid hM
      have HLK : Hid (l = labK LL k) := hl
      have HJK := Lib.hid hjk
      have HKK : Hid (k < LL.length - 1) := by unfold Hid; omega
      have HCL : Hid (wD.cell? ⟨gl, j, none⟩ = some (.string l)) := cl0
      have HCBB : Hid (wD.cell? ⟨gB, i, none⟩ = some (.int .i64 p2')) := cB1
      have lA := later_cell hgAw cA1
      have lL := later_cell hgLw cl0
      clear hst hbk hbl hbl4 hod hu2 hls hrs hl1 hr1 cA1 cB1 cl0 hlk hl hp1 hp2 hXX hYY hM hlsM hrsM hbsM hysM hjL hjk
      go_wp2
      refine wp_region_later (by kernel_rfl) (by kernel_rfl) ?_
      repeat (go_big_quiet_step ((go_at_call 48; exact later_call (HGX.out _ (Later.h _)))))
      refine wpQuiet_nil ?_
      intro _ hw9
      obtain ⟨nl, hw8⟩ := hw9
      subst hw8
      obtain ⟨w5, hw5⟩ : ∃ w5, w5 = nl.w := ⟨_, rfl⟩
      have hb5 : Below wD.heap.size wD w5 := by rw [hw5]; exact nl.h
      rw [← hw5]
      have HB5 := Lib.hid hb5
      have hs5 := hb5.size
      clear lA lL
      have lB := later_cell (Nat.lt_of_lt_of_le hgBw hs5) (keeps hb5 hgBw HCBB.out)
      have lL5 := later_cell (Nat.lt_of_lt_of_le hgLw hs5) (keeps hb5 hgLw HCL.out)
      clear hw5 hb5
      clear nl
      go_wp2
      refine wp_region_later (by kernel_rfl) (by kernel_rfl) ?_
      repeat (go_big_quiet_step ((go_at_call 48; exact later_call (HGY.out _ (HB5.out.trans ((Later.h _).mono hs5))))))
      refine wpQuiet_nil ?_
      intro _ hw9
      obtain ⟨nl, hw8⟩ := hw9
      subst hw8
      obtain ⟨w6, hw6⟩ : ∃ w6, w6 = nl.w := ⟨_, rfl⟩
      have hb6 : Below wD.heap.size wD w6 := by rw [hw6]; exact HB5.out.trans (nl.h.mono hs5)
      rw [← hw6]
      have HB6 := Lib.hid hb6
      have hs6 := hb6.size
      have HOD6 := Lib.hid (HOD.out.below hb6)
      have HOL6 : Hid (w6.ownsRow B 9 1 (.slice (some ⟨gl, 0, none⟩) NL cl) NL (LL.map .string)) := owns_below HOLC.out.1 hb6
      have HCL6 : Hid (w6.cell? ⟨gl, j, none⟩ = some (.string l)) := keeps hb6 hgLw HCL.out
      have HBW6 : Hid (Below B w w6) := by unfold Hid; rw [HBB.out]; exact HBWD.out _ hb6
      have HNE6 : Hid (some gD ≠ some gl) := by unfold Hid; have := HOLC.out.2; simpa [Value.ownBlock] using this
      clear lB lL5 hw6 hb6
      clear nl
      by_cases hX : X < 0
      ·have HPS : Hid (CSt a b ins sa sb N i (k + 1)) := CSt.pass HLL.out HSTC.out HGOOD.out HU2.out HDS.out (.inl (.inl hX))
       go_wp2
       go_roundw
       case rel => exact ⟨j + 1, k + 1, N, bs, ys, by go_num, by have := HJK.out; omega, by omega, HPS.out, HU2.out, HBK.out, HBW6.out, ⟨HOL6.out, by have := HNE6.out; simpa [Value.ownBlock] using this⟩, by have := HOD6.out; rw [HLS.out, HRS.out] at this; exact this⟩
       case measure => simp [intOf]; omega
      by_cases hY : Y < 0
      ·have HPS : Hid (CSt a b ins sa sb N i (k + 1)) := CSt.pass HLL.out HSTC.out HGOOD.out HU2.out HDS.out (.inl (.inr hY))
       go_wp2
       go_roundw
       case rel => exact ⟨j + 1, k + 1, N, bs, ys, by go_num, by have := HJK.out; omega, by omega, HPS.out, HU2.out, HBK.out, HBW6.out, ⟨HOL6.out, by have := HNE6.out; simpa [Value.ownBlock] using this⟩, by have := HOD6.out; rw [HLS.out, HRS.out] at this; exact this⟩
       case measure => simp [intOf]; omega
      have HXX : Hid (¬ X < 0) := hX
      have HYY : Hid (¬ Y < 0) := by unfold Hid; omega
      go_wp2
      go_loop [20, 21] (fun v20 v21 => ∃ m : Nat, m ≤ M ∧ v21 = .int .i64 m ∧ v20 = .bool (hitTo ls rs X Y m)) (fun _ v21 => M - (intOf v21).toNat)
      case atStart => exact ⟨0, Nat.zero_le _, rfl, by rw [hitTo_zero]⟩
      case round =>
       obtain ⟨m, hm, rfl, rfl⟩ := hrel
       by_cases hmM : m < M
       ·have hl1 := HOD6.out.left
        rw [HLSM.out] at hl1
        have hr1 := HOD6.out.right
        rw [HRSM.out] at hr1
        have cm := cell_num hl1 hmM
        have dm := cell_num hr1 hmM
        have HS := Lib.hid (hitTo_succ (X := X) (Y := Y) (show m < ls.length by rw [HLSM.out]; exact hmM) (show m < rs.length by rw [HRSM.out]; exact hmM))
        obtain ⟨a, ha⟩ : ∃ a, a = ls.getD m 0 := ⟨_, rfl⟩
        obtain ⟨b, hb⟩ : ∃ b, b = rs.getD m 0 := ⟨_, rfl⟩
        rw [← ha] at cm HS
        rw [← hb] at dm HS
        clear hl1 hr1 ha hb
        cases hh : hitTo ls rs X Y m with
        | true =>
         rw [hh] at HS
         go_wp2
         go_round
         case rel => exact ⟨m + 1, by omega, by go_num, by rw [HS.out]; rfl⟩
         case measure => simp [intOf]; omega
        | false =>
         rw [hh] at HS
         cases hxb : (a == X) with
         | false =>
          rw [hxb] at HS
          go_wp2
          go_round
          case rel => exact ⟨m + 1, by omega, by go_num, by rw [HS.out]; rfl⟩
          case measure => simp [intOf]; omega
         | true =>
          rw [hxb] at HS
          cases hyb : (b == Y) with
          | false =>
           rw [hyb] at HS
           go_wp2
           go_round
           case rel => exact ⟨m + 1, by omega, by go_num, by rw [HS.out]; rfl⟩
           case measure => simp [intOf]; omega
          | true =>
           rw [hyb] at HS
           go_wp2
           go_round
           case rel => exact ⟨m + 1, by omega, by go_num, by rw [HS.out]; rfl⟩
           case measure => simp [intOf]; omega
       ·have hmM2 : m = M := by omega
        cases hh : hitTo ls rs X Y m with
        | true =>
         have HPS : Hid (CSt a b ins sa sb N i (k + 1)) := by
          rw [hmM2, HM.out, HLS.out, HRS.out] at hh
          exact CSt.pass HLL.out HSTC.out HGOOD.out HU2.out HDS.out (.inr (hitTo_words.1 hh))
         clear hmM2
         go_wp2
         go_roundw
         case rel => exact ⟨j + 1, k + 1, N, bs, ys, by go_num, by have := HJK.out; omega, by omega, HPS.out, HU2.out, HBK.out, HBW6.out, ⟨HOL6.out, by have := HNE6.out; simpa [Value.ownBlock] using this⟩, by have := HOD6.out; rw [HLS.out, HRS.out] at this; exact this⟩
         case measure => simp [intOf]; omega
        | false =>
         have HMT : Hid (CSt a b ins sa sb (N ++ [k :: u]) i (k + 1)) := by
          rw [hmM2, HM.out, HLS.out, HRS.out] at hh
          exact CSt.meet HLL.out HSTC.out HGOOD.out HU2.out HKK.out HDS.out (by have := HXX.out; omega) (by have := HYY.out; omega) (fun h => by rw [hitTo_words.2 h] at hh; cases hh)
         have HBKN : Hid (BackOk LL (N ++ [k :: u]) (bs ++ [(i : Int)]) (ys ++ [l])) := by unfold Hid; rw [HLK.out]; exact HBK.out.push HU2.out
         have hB6 : B ≤ w6.heap.size := Nat.le_trans hBC hs6
         have HL1 : Hid ((w6.alloc (.cells #[.int .i64 X] 2)).ownsRow B 2 1 (.slice (some ⟨gA, 0, none⟩) M cA) M (ls.map (Value.int .i64))) := by
          have h := HOD6.out.left
          rw [HLSM.out] at h
          exact h.alloc _
         clear hmM2
         go_wp2_with (at_builtin; refine wpList_append_own_at _ rfl _ _ 66 rfl B 2 i1 (.int .i64 0) 1 8 Tryz.underlying66 hi1 hz10 hz11 hz12 rfl (by decide) _ M _ rfl HL1.out ⟨w6.heap.size, 0, none⟩ 1 1 [.int .i64 X] rfl rfl (World.news_of_block (cs := #[.int .i64 X]) (t := 2) (fr := (0, 0)) (heap_alloc_new _ _)) ?k2 ?k3 ?k4 ?k5 ?_)
         case k2 => first | (intro u hu; simp at hu; subst hu; rfl) | rfl
         case k3 => first | (simp [maxLen]; omega) | omega
         case k4 => omega
         case k5 => first | omega | (simp; omega)
         intro v7 w7 ho7 hg7 _ ha7
         have HB7 : Hid (Below B w w7) := (HBW6.out.alloc (by have := HBB.out; omega) _).grown hg7 (by simp; omega) (fun b e => (HL1.out.lt b e).1)
         have HOD7 : Hid (OwnD B w7 v7 (.slice (some ⟨gB, 0, none⟩) M cB) (.slice (some ⟨gC, 0, none⟩) M cC) (.slice (some ⟨gD, 0, none⟩) M cD) (ls ++ [X]) rs bs ys) := HOD6.out.pushL hg7 (by rw [HLSM.out]; exact ho7) (by simpa using ha7)
         have HOL7 : Hid (w7.ownsRow B 9 1 (.slice (some ⟨gl, 0, none⟩) NL cl) NL (LL.map .string)) := (HOL6.out.alloc _).kept hg7 (own_types (HOL6.out.alloc _) HL1.out (by decide))
         have hs7 : w6.heap.size ≤ w7.heap.size := by have := hg7.size; simp at this; omega
         obtain ⟨a7, c7, rfl, -, -⟩ := owns_slice ho7
         clear ho7 hg7 ha7 HL1
         have HL2 : Hid ((w7.alloc (.cells #[.int .i64 Y] 2)).ownsRow B 2 1 (.slice (some ⟨gB, 0, none⟩) M cB) M (rs.map (Value.int .i64))) := by
          have h := HOD7.out.right
          rw [HRSM.out] at h
          exact h.alloc _
         go_wp2_with (at_builtin; refine wpList_append_own_at _ rfl _ _ 66 rfl B 2 i1 (.int .i64 0) 1 8 Tryz.underlying66 hi1 hz10 hz11 hz12 rfl (by decide) _ M _ rfl HL2.out ⟨w7.heap.size, 0, none⟩ 1 1 [.int .i64 Y] rfl rfl (World.news_of_block (cs := #[.int .i64 Y]) (t := 2) (fr := (0, 0)) (heap_alloc_new _ _)) ?k2 ?k3 ?k4 ?k5 ?_)
         case k2 => first | (intro u hu; simp at hu; subst hu; rfl) | rfl
         case k3 => first | (simp [maxLen]; omega) | omega
         case k4 => omega
         case k5 => first | omega | (simp; omega)
         intro v8 w8 ho8 hg8 _ ha8
         have HB8 : Hid (Below B w w8) := (HB7.out.alloc (by have := HBB.out; omega) _).grown hg8 (by simp; omega) (fun b e => (HL2.out.lt b e).1)
         have HOD8 : Hid (OwnD B w8 (.slice a7 (M + 1) c7) v8 (.slice (some ⟨gC, 0, none⟩) M cC) (.slice (some ⟨gD, 0, none⟩) M cD) (ls ++ [X]) (rs ++ [Y]) bs ys) := HOD7.out.pushR hg8 (by rw [HRSM.out]; exact ho8) (by simpa using ha8)
         have HOL8 : Hid (w8.ownsRow B 9 1 (.slice (some ⟨gl, 0, none⟩) NL cl) NL (LL.map .string)) := (HOL7.out.alloc _).kept hg8 (own_types (HOL7.out.alloc _) HL2.out (by decide))
         have hs8 : w7.heap.size ≤ w8.heap.size := by have := hg8.size; simp at this; omega
         obtain ⟨a8, c8, rfl, -, -⟩ := owns_slice ho8
         clear ho8 hg8 ha8 HL2 HOD7 HOL7 HB7
         have HL3 : Hid ((w8.alloc (.cells #[.int .i64 i] 3)).ownsRow B 3 1 (.slice (some ⟨gC, 0, none⟩) M cC) M (bs.map (Value.int .i64))) := by
          have h := HOD8.out.before
          rw [HBSM.out] at h
          exact h.alloc _
         go_wp2_with (at_builtin; refine wpList_append_own_at _ rfl _ _ 103 rfl B 3 iw2 (.int .i64 0) 1 8 Tryz.underlying103 hi2 hz20 hz21 hz22 rfl (by decide) _ M _ rfl HL3.out ⟨w8.heap.size, 0, none⟩ 1 1 [.int .i64 i] rfl rfl (World.news_of_block (cs := #[.int .i64 i]) (t := 3) (fr := (0, 0)) (heap_alloc_new _ _)) ?k2 ?k3 ?k4 ?k5 ?_)
         case k2 => first | (intro u hu; simp at hu; subst hu; rfl) | rfl
         case k3 => first | (simp [maxLen]; omega) | omega
         case k4 => omega
         case k5 => first | omega | (simp; omega)
         intro v9 w9 ho9 hg9 _ ha9
         have HB9 : Hid (Below B w w9) := (HB8.out.alloc (by have := HBB.out; omega) _).grown hg9 (by simp; omega) (fun b e => (HL3.out.lt b e).1)
         have HOD9 : Hid (OwnD B w9 (.slice a7 (M + 1) c7) (.slice a8 (M + 1) c8) v9 (.slice (some ⟨gD, 0, none⟩) M cD) (ls ++ [X]) (rs ++ [Y]) (bs ++ [(i : Int)]) ys) := HOD8.out.pushB hg9 (by rw [HBSM.out]; exact ho9)
         have HOL9 : Hid (w9.ownsRow B 9 1 (.slice (some ⟨gl, 0, none⟩) NL cl) NL (LL.map .string)) := (HOL8.out.alloc _).kept hg9 (own_types (HOL8.out.alloc _) HL3.out (by decide))
         have hs9 : w8.heap.size ≤ w9.heap.size := by have := hg9.size; simp at this; omega
         obtain ⟨a9, c9, rfl, -, -⟩ := owns_slice ho9
         have c99 : w9.cell? ⟨gl, j, none⟩ = some (.string l) := by
          have h1 := HOL9.out.cellAt j (by omega)
          have h2 := HOL6.out.cellAt j (by omega)
          rw [h1, ← h2]
          exact HCL6.out
         clear ho9 hg9 ha9 HL3 HOD8 HOL8 HB8
         have HL4 : Hid ((w9.alloc (.cells #[.string l] 9)).ownsRow B 9 1 (.slice (some ⟨gD, 0, none⟩) M cD) M (ys.map .string)) := by
          have h := HOD9.out.by_
          rw [HYSM.out] at h
          exact h.alloc _
         go_wp2_with (at_builtin; refine wpList_append_own_at _ rfl _ _ 22 rfl B 9 i3 (.string ⟨#[]⟩) 1 16 Tryz.underlying22 hi3 hz30 hz31 hz32 rfl (by decide) _ M _ rfl HL4.out ⟨w9.heap.size, 0, none⟩ 1 1 [.string l] rfl rfl (World.news_of_block (cs := #[.string l]) (t := 9) (fr := (0, 0)) (heap_alloc_new _ _)) ?k2 ?k3 ?k4 ?k5 ?_)
         case k2 => first | (intro u hu; simp at hu; subst hu; rfl) | rfl
         case k3 => first | (simp [maxLen]; omega) | omega
         case k4 => omega
         case k5 => first | omega | (simp; omega)
         intro v10 w10 ho10 hg10 _ ha10
         have HB10 : Hid (Below B w w10) := (HB9.out.alloc (by have := HBB.out; omega) _).grown hg10 (by simp; omega) (fun b e => (HL4.out.lt b e).1)
         have HOD10 : Hid (OwnD B w10 (.slice a7 (M + 1) c7) (.slice a8 (M + 1) c8) (.slice a9 (M + 1) c9) v10 (ls ++ [X]) (rs ++ [Y]) (bs ++ [(i : Int)]) (ys ++ [l])) := HOD9.out.pushY hg10 (by rw [HYSM.out]; exact ho10)
         have HOL10 : Hid (w10.ownsRow B 9 1 (.slice (some ⟨gl, 0, none⟩) NL cl) NL (LL.map .string)) := (HOL9.out.alloc _).kept hg10 (.inr fun e => HNE6.out e.symm)
         have HNE10 : Hid (v10.ownBlock ≠ some gl) := by
          unfold Hid
          rcases (show v10.ownBlock = some gD ∨ v10.ownBlock = some (w9.heap.size + 1) by simpa [Value.ownBlock] using ha10) with h | h <;> rw [h]
          ·exact HNE6.out
          ·have := (HOL9.out.lt gl rfl).2
           simp
           omega
         obtain ⟨a10, c10, rfl, -, -⟩ := owns_slice ho10
         have HE1 : Hid ((N ++ [k :: u]).map (fun u => (difS (dSys a sa) (dSys b sb) LL u).1) = ls ++ [X]) := by unfold Hid; rw [List.map_append, ← HLS.out, List.map_singleton, HDS.out]
         have HE2 : Hid ((N ++ [k :: u]).map (fun u => (difS (dSys a sa) (dSys b sb) LL u).2) = rs ++ [Y]) := by unfold Hid; rw [List.map_append, ← HRS.out, List.map_singleton, HDS.out]
         have HUN : Hid ((N ++ [k :: u])[i]? = some u) := by unfold Hid; rw [List.getElem?_append_left (by rw [← HM.out]; exact hiN)]; exact HU2.out
         clear ho10 hg10 ha10 HL4 HOD9 HOL9 HB9 c99
         go_wp2
         go_roundw
         case rel => exact ⟨j + 1, k + 1, N ++ [k :: u], bs ++ [(i : Int)], ys ++ [l], by go_num, by have := HJK.out; omega, by omega, HMT.out, HUN.out, HBKN.out, HB10.out, ⟨HOL10.out, HNE10.out⟩, by rw [HE1.out, HE2.out]; exact HOD10.out⟩
         case measure => simp [intOf]; omega
     ·have hk2 : k = NL - 1 := by omega
      have HNX : Hid (CSt a b ins sa sb N (i + 1) 0) := HSTC.out.next (by rw [hk2, HNL.out, HLL.out]) fun v hv => by
       rw [HU2.out] at hv
       cases hv
       exact HGOOD.out
      have HOD := Lib.hid hod
      clear hst hu2 hbk hbl hbl4 hod
      go_wp2
      go_roundw
      case rel => exact ⟨i + 1, N, bs, ys, by go_num, hiN, HNX.out, HBK.out, HBL.out, HOLC.out, HOD.out⟩
      case measure => simp [intOf]; omega
  ·have HNO : Hid (NoWord ((0 : Int), (0 : Int)) (goBoth (dSys a sa) (dSys b sb) (bothL a b)) ((bothL a b).length - 1) (badC a b ins sa sb)) := HSTC.out.none (by omega)
   have HBF : Hid (Below w.heap.size w wC) := HBW.out.trans (hbl.mono (by have := HBW.out.size; have := HBB.out; omega))
   obtain ⟨la, lc, rfl, -, -⟩ := owns_slice hod.left
   rw [List.length_map]
   clear hst hbk hbl hbl4 hod
   go_wp2
   ((try simp only [Exit.inBlock, Exit.then]); refine bodyPost_ret (results_tmp2c rfl _ _ _) rfl ?_)
   exact ⟨HBF.out, true, [], ByteArray.empty, _, rfl, .inl ⟨HNO.out, rfl, rfl, rfl⟩, Nat.zero_le _, ⟨rfl, .inl ⟨rfl, rfl⟩⟩⟩

end Go.Proofs.YtaabkeejbhdenaaGreatDoor
