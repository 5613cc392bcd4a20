/-
  The reference's l18Differ: the first trace at which one system does not refine another one, and the refusal there.
-/
import Derived.Test.YtpoleaekcjjedaaGreatDoorF24
import Derived.Test.YtpoleaekcjjedaaGreatDoorF16
import Derived.Test.YtpoleaekcjjedaaGreatDoorF26
import Derived.Test.YtpoleaekcjjedaaGreatDoorF10
namespace Go.Proofs.YtpoleaekcjjedaaGreatDoor
open Go Go.RowKit

/-- The offers looked at: k of them are met, or one is not. -/
def OfSt (a b : Lts) (S T : List Int) (LL : List ByteArray) (k : Nat) (bd : Bool) (R : List ByteArray) : Prop :=
 (bd = false ∧ R = [] ∧ ∀ j (h : j < (offersS b T).length), j < k → covB (offersS b T)[j] (offersS a S) = true) ∨ (bd = true ∧ 0 ≤ excL a b S T ∧ R = lackL (LL.drop 1) (rdy b (excL a b S T)))
theorem offS_few {t : Lts} (hv : Valid t) (k : Int) : (offS t k).length ≤ 300 := Nat.le_trans (offTo_len t k _) hv.most
theorem setsRS_any (p lo : Nat) (t : Lts) (w : World) (hv : Valid t) (hp : LtsPtr lo w p t) :
  Calls Tryz.prog 62 #[.pointer (some ⟨p, 0, none⟩)] w fun e w' => Below w.heap.size w w' ∧ ∃ (n0 : Int) (s2 : Option Addr) (m2 k2 : Nat) (s3 : Option Addr) (m3 k3 : Nat) (s4 : Option Addr) (m4 k4 : Nat) (ok : Bool),
   e = .returned (.tuple #[.agg #[.int .i64 n0, .int .i64 0, .slice s2 m2 k2, .slice s3 m3 k3], .slice s4 m4 k4, .bool ok]) ∧ SetsR w.heap.size w' t ok n0 (.slice s2 m2 k2) (.slice s3 m3 k3) (.slice s4 m4 k4) := by
 refine (l12Sets_any p lo t w hv hp).mono ?_
 rintro e w' ⟨hb, ⟨hf, rfl⟩ | ⟨st, lv, vr, ve, hok, rfl, ⟨⟨vs, hiv⟩, he⟩, hl⟩⟩
 ·exact ⟨hb, _, _, _, _, _, _, _, _, _, _, false, rfl, .inl ⟨rfl, hf⟩⟩
 ·obtain ⟨al, cl, rfl, -, -⟩ := owns_slice hl
  obtain ⟨ae, ce, rfl, -, -⟩ := owns_slice he
  obtain ⟨av, cv, rfl, -, -⟩ := owns_slice hiv.2.1
  exact ⟨hb, _, _, _, _, _, _, _, _, _, _, true, rfl, .inr ⟨rfl, st, vs, hok, rfl, ⟨hl, he⟩, hiv⟩⟩

set_option maxRecDepth 100000 in
set_option maxHeartbeats 16000000 in
theorem l18Differ_any (pa pb lo : Nat) (a b : Lts) (w : World) (hva : Valid a) (hvb : Valid b) (hpa : LtsPtr lo w pa a) (hpb : LtsPtr lo w pb b) :
  Calls Tryz.prog 77 #[.pointer (some ⟨pa, 0, none⟩), .pointer (some ⟨pb, 0, none⟩)] w fun e w' => ∃ (ok d : Bool) (v1 v2 : Value), e = .returned (.tuple #[v1, v2, .bool d, .bool ok]) ∧ RetRfn a b w w' ok (!d) v1 v2 := by
 have HSA := Lib.hid (setsRS_any pa lo a w hva hpa)
 have HSB := Lib.hid (fun w' (hb : Below w.heap.size w w') => setsRS_any pb lo b w' hvb (hpb.below hb))
 have HVA := Lib.hid hva
 have HVB := Lib.hid hvb
 have HPA := Lib.hid hpa
 have HPB := Lib.hid hpb
 obtain ⟨i1, hi1, hz10, hz11, hz12⟩ := info_parts info_intD
 obtain ⟨iw2, hi2, hz20, hz21, hz22⟩ := info_parts info_intsD
 obtain ⟨i3, hi3, hz30, hz31, hz32⟩ := info_parts info_strD
 clear hva hvb hpa hpb
 go_enter Tryz.func77, Tryz.ntmps77
 go_wp2_with fail
 refine Calls.mono HSA.out ?_
 rintro e w1 ⟨hb1, n0, s2, m2, k2, s3, m3, k3, s4, m4, k4, ok1, rfl, hsA⟩
 obtain ⟨p2, hp2⟩ : ∃ p2, p2 = w1.heap.size := ⟨_, rfl⟩
 obtain ⟨W2, hW2⟩ : ∃ W2, W2 = w1.alloc (.cells #[.int .i64 n0, .int .i64 0, .slice s2 m2 k2, .slice s3 m3 k3] 31) := ⟨_, rfl⟩
 have hb2 : Below w1.heap.size w1 W2 := by rw [hW2]; exact (Below.refl _ _).alloc (Nat.le_refl _) _
 have hX2 : Blk W2 p2 [.int .i64 n0, .int .i64 0, .slice s2 m2 k2, .slice s3 m3 k3] 31 := by rw [hW2, hp2]; exact Blk.new w1 _ _
 have hd2 : Below w.heap.size w W2 := hb1.trans (hb2.mono hb1.size)
 have HD2 := Lib.hid hd2
 have HSA2 := Lib.hid (hsA.below hb2)
 have HX2 := Lib.hid hX2
 have HSB2 := Lib.hid (HSB.out W2 hd2)
 have HW2 := Lib.hid hW2
 have HP2 := Lib.hid hp2
 clear hb1 hsA hb2 hX2 hd2 hW2 hp2 HSA HSB
 go_wp2_with fail
 rw [← HW2.out]
 try rw [← HP2.out]
 refine Calls.mono HSB2.out ?_
 rintro e w3 ⟨hb3, q0, t2, i2, j2, t3, i3', j3, t4, i4, j4, ok2, rfl, hsB⟩
 obtain ⟨p4, hp4⟩ : ∃ p4, p4 = w3.heap.size := ⟨_, rfl⟩
 obtain ⟨W4, hW4⟩ : ∃ W4, W4 = w3.alloc (.cells #[.int .i64 q0, .int .i64 0, .slice t2 i2 j2, .slice t3 i3' j3] 31) := ⟨_, rfl⟩
 have hb4 : Below w3.heap.size w3 W4 := by rw [hW4]; exact (Below.refl _ _).alloc (Nat.le_refl _) _
 have hX4 : Blk W4 p4 [.int .i64 q0, .int .i64 0, .slice t2 i2 j2, .slice t3 i3' j3] 31 := by rw [hW4, hp4]; exact Blk.new w3 _ _
 have hb24 : Below W2.heap.size W2 W4 := hb3.trans (hb4.mono hb3.size)
 have hd4 : Below w.heap.size w W4 := HD2.out.trans (hb24.mono HD2.out.size)
 have HBW := Lib.hid hd4
 have HSA4 := Lib.hid (HSA2.out.below hb24)
 have HSB4 := Lib.hid ((hsB.below hb4).lower HD2.out.size)
 have HX24 := Lib.hid (HX2.out.below hb24)
 have HX4 := Lib.hid hX4
 have HPA4 := Lib.hid (HPA.out.below hd4)
 have HPB4 := Lib.hid (HPB.out.below hd4)
 have HW4 := Lib.hid hW4
 have HP4 := Lib.hid hp4
 cases ok1 with
 | false =>
  have HF : Hid (DFull a) := by
   rcases HSA4.out with ⟨-, h⟩ | ⟨h, -⟩
   ·exact h
   ·cases h
  clear hb3 hsB hb4 hX4 hb24 hd4 hW4 hp4 HSB2
  go_wp2
  rw [← HW4.out]
  ((try simp only [Exit.inBlock, Exit.then]); refine bodyPost_ret (results_tmp4 rfl _ _ _) rfl ?_)
  exact ⟨false, false, _, _, rfl, HBW.out, .inl ⟨rfl, .inl HF.out⟩⟩
 | true =>
  cases ok2 with
  | false =>
   have HF : Hid (DFull b) := by
    rcases HSB4.out with ⟨-, h⟩ | ⟨h, -⟩
    ·exact h
    ·cases h
   clear hb3 hsB hb4 hX4 hb24 hd4 hW4 hp4 HSB2
   go_wp2
   rw [← HW4.out]
   ((try simp only [Exit.inBlock, Exit.then]); refine bodyPost_ret (results_tmp4 rfl _ _ _) rfl ?_)
   exact ⟨false, false, _, _, rfl, HBW.out, .inl ⟨rfl, .inr HF.out⟩⟩
  | true =>
   obtain ⟨sa, vs, hoka, rfl, hoa, hra⟩ : ∃ sa vs, DOk a sa ∧ n0 = (dSys a sa).states ∧ OwnLts w.heap.size W4 (.slice s2 m2 k2) (.slice s3 m3 k3) (dSys a sa) ∧ OwnIntss 83 2 w.heap.size W4 (.slice s4 m4 k4) vs sa.rows := by
    rcases HSA4.out with ⟨h, -⟩ | ⟨-, h⟩
    ·cases h
    ·exact h
   obtain ⟨sb, us, hokb, rfl, hob, hrb⟩ : ∃ sb us, DOk b sb ∧ q0 = (dSys b sb).states ∧ OwnLts w.heap.size W4 (.slice t2 i2 j2) (.slice t3 i3' j3) (dSys b sb) ∧ OwnIntss 83 2 w.heap.size W4 (.slice t4 i4 j4) us sb.rows := by
    rcases HSB4.out with ⟨h, -⟩ | ⟨-, h⟩
    ·cases h
    ·exact h
   have HRA := Lib.hid hra
   have HRB := Lib.hid hrb
   have HOKA := Lib.hid hoka
   have HOKB := Lib.hid hokb
   have HX : Hid (Valid (dSys a sa)) := dSys_valid HVA.out hoka
   have HY : Hid (Valid (dSys b sb)) := dSys_valid HVB.out hokb
   have HPX : Hid (LtsPtr w.heap.size W4 p2 (dSys a sa)) :=
    ⟨_, _, HX24.out.lt, HX24.out.cell 0 rfl, HX24.out.cell 1 rfl, HX24.out.cell 2 rfl, HX24.out.cell 3 rfl, SliceK.of_owns (e := 9) encS_len rfl (by rw [flat_encS]; exact hoa.1), SliceK.of_owns (e := 135) encE_len rfl hoa.2⟩
   have HPY : Hid (LtsPtr w.heap.size W4 p4 (dSys b sb)) :=
    ⟨_, _, HX4.out.lt, HX4.out.cell 0 rfl, HX4.out.cell 1 rfl, HX4.out.cell 2 rfl, HX4.out.cell 3 rfl, SliceK.of_owns (e := 9) encS_len rfl (by rw [flat_encS]; exact hob.1), SliceK.of_owns (e := 135) encE_len rfl hob.2⟩
   obtain ⟨lva, eva, hpla, -, -, qa, -, hla, -⟩ := HPA4.out
   obtain ⟨lvb, evb, hplb, -, -, qb, -, hlb, -⟩ := HPB4.out
   obtain ⟨aa, ca, rfl, -, -, ra⟩ := hla
   obtain ⟨ab, cb, rfl, -, -, rb⟩ := hlb
   obtain ⟨NA, hNA⟩ : ∃ NA, NA = a.labels.length := ⟨_, rfl⟩
   obtain ⟨NB, hNB⟩ : ∃ NB, NB = b.labels.length := ⟨_, rfl⟩
   have hna := HVA.out.labels.pos
   have hnb := HVB.out.labels.pos
   have hna2 := HVA.out.labels.most
   have hnb2 := HVB.out.labels.most
   rw [← hNA] at hna hna2 qa
   rw [← hNB] at hnb hnb2 qb
   obtain ⟨ba, oa, rfl, hbaw, hca⟩ : ∃ bl ol, aa = some ⟨bl, ol, none⟩ ∧ bl < W4.heap.size ∧ ∀ i (h : i < a.labels.length) j, j < 1 → W4.cell? ⟨bl, ol + i * 1 + j, none⟩ = (encS a.labels[i])[j]? := by
    rcases ra with h | ⟨bl, ol, h1, -, h3, h4⟩
    ·omega
    ·exact ⟨bl, ol, h1, h3, h4⟩
   obtain ⟨bb, ob, rfl, hbbw, hcb⟩ : ∃ bl ol, ab = some ⟨bl, ol, none⟩ ∧ bl < W4.heap.size ∧ ∀ i (h : i < b.labels.length) j, j < 1 → W4.cell? ⟨bl, ol + i * 1 + j, none⟩ = (encS b.labels[i])[j]? := by
    rcases rb with h | ⟨bl, ol, h1, -, h3, h4⟩
    ·omega
    ·exact ⟨bl, ol, h1, h3, h4⟩
   have HCA : Hid (∀ w', Below W4.heap.size W4 w' → ∀ j u, (a.labels.map Value.string)[j]? = some u → w'.cell? ((⟨ba, oa, none⟩ : Addr).add j) = some u) := fun w' hb j u hu =>
    (hb.cell (p := (⟨ba, oa, none⟩ : Addr).add j) (by rw [add_block]; exact hbaw)).trans (row_news hca j u hu)
   have HCB : Hid (∀ w', Below W4.heap.size W4 w' → ∀ j u, (b.labels.map Value.string)[j]? = some u → w'.cell? ((⟨bb, ob, none⟩ : Addr).add j) = some u) := fun w' hb j u hu =>
    (hb.cell (p := (⟨bb, ob, none⟩ : Addr).add j) (by rw [add_block]; exact hbbw)).trans (row_news hcb j u hu)
   have HSW : Hid (∀ w', Below W4.heap.size W4 w' → w'.cell? ⟨pa, 2, none⟩ = some (.slice (some ⟨ba, oa, none⟩) NA ca) ∧ w'.cell? ⟨pb, 2, none⟩ = some (.slice (some ⟨bb, ob, none⟩) NB cb)) := fun w' hb => ⟨keeps hb hpla qa, keeps hb hplb qb⟩
   have HLA : Hid (NA = (a.labels.map Value.string).length) := by unfold Hid; rw [List.length_map]; exact hNA
   have HLB : Hid (NB = (b.labels.map Value.string).length) := by unfold Hid; rw [List.length_map]; exact hNB
   have HLEN : Hid (NA + NB = (a.labels ++ b.labels).length) := by unfold Hid; rw [List.length_append, hNA, hNB]
   have HDR : Hid (Below W4.heap.size W4 (W4.drew.alloc (.cells #[] 9))) := ((Below.refl _ _).drew).alloc (by simp) _
   have HO0 : Hid ((W4.drew.alloc (.cells #[] 9)).ownsRow W4.heap.size 9 1 (.slice (some ⟨W4.heap.size, 0, none⟩) 0 0) 0 []) := by
    exact World.ownsRow_lit (base := W4.heap.size) (e := 9) (size := 1) W4.drew #[] 0 (by simp) (by decide) rfl
   obtain ⟨f0, hf0⟩ : ∃ f0, f0 = (dSys a sa).states := ⟨_, rfl⟩
   obtain ⟨f1, hf1⟩ : ∃ f1, f1 = (dSys b sb).states := ⟨_, rfl⟩
   rw [← hf1] at hW4 HW4
   rw [← hf1]
   try rw [← hf0]
   clear hca hcb ra rb hNA hNB hpla hplb hbaw hbbw hb3 hsB hb4 hX4 hb24 hd4 hp4 HSB2 hoka hokb hoa hob hra hrb HSA4 HSB4 hf0 hf1 hW4
   go_wp2
   rw [← HW4.out, ← HP4.out]
   go_region_held3 (fun w' => w'.cell? ⟨pa, 2, none⟩ = some (.slice (some ⟨ba, oa, none⟩) NA ca) ∧ w'.cell? ⟨pb, 2, none⟩ = some (.slice (some ⟨bb, ob, none⟩) NB cb))
    (first
     | exact HSW.out _ (Below.refl _ _)
     | exact HSW.out _ HDR.out
     | exact HSW.out _ hq1
     | exact HSW.out _ hq2
     | exact HSW.out _ hq3
     | go_keep)
    (first
     | (go_at_call 112; refine Calls.mono (l11Join_any W4.heap.size _ (a.labels ++ b.labels) _ (SliceK.of_owns (enc := encS) (e := 9) encS_len HLEN.out (by rw [flat_encS, List.map_append]; exact hown2)) (by rw [← HLEN.out]; omega)) ?_; rintro e w3 ⟨v3, rfl, hb3, ho3⟩; have hq3 : Below W4.heap.size W4 w3 := hq2.trans (hb3.mono hs2))
     | (refine step_append_lies _ (by rfl) _ _ 22 (by rfl) W4.heap.size 9 i3 _ 1 16 Tryz.underlying22 hi3 hz30 hz31 hz32 rfl (by omega) (.slice (some ⟨W4.heap.size, 0, none⟩) 0 0) 0 [] (by rfl) HO0.out ⟨ba, oa, none⟩ NA ca (a.labels.map .string) (by rfl) (by rw [Nat.mul_one]; exact HLA.out.symm) (HCA.out _ HDR.out) (by intro u hu; obtain ⟨x, -, rfl⟩ := List.mem_map.1 hu; rfl) (by omega) (by simp [maxLen]; omega) (by omega) (by simp) _ (by rfl) ?_; intro gg1 cap1 w1 hown1 hgrow1 hat1 hlt1; have hq1 : Below W4.heap.size W4 w1 := HDR.out.grown hgrow1 (by simp) (fun b e => by cases e; exact Nat.le_refl _); have hs1 := hq1.size; rw [List.nil_append] at hown1; rw [Nat.zero_add] at hown1 ⊢)
     | (refine step_append_lies _ (by rfl) _ _ 22 (by rfl) W4.heap.size 9 i3 _ 1 16 Tryz.underlying22 hi3 hz30 hz31 hz32 rfl (by omega) _ NA _ (by rfl) hown1 ⟨bb, ob, none⟩ NB cb (b.labels.map .string) (by rfl) (by rw [Nat.mul_one]; exact HLB.out.symm) (HCB.out _ hq1) (by intro u hu; obtain ⟨x, -, rfl⟩ := List.mem_map.1 hu; rfl) (by omega) (by simp [maxLen]; omega) (by omega) (by omega) _ (by rfl) ?_; intro gg2 cap2 w2 hown2 hgrow2 hat2 hlt2; have hq2 : Below W4.heap.size W4 w2 := hq1.grown hgrow2 hs1 (fun b e => (hown1.lt b e).1); have hs2 := hq2.size)
     | fail)
   obtain ⟨LL, hLL⟩ : ∃ LL, LL = bothL a b := ⟨_, rfl⟩
   have hLe : labSet (tauT :: (a.labels ++ b.labels)) = LL := by rw [hLL]; rfl
   rw [hLe] at ho3
   obtain ⟨NL, hNL⟩ : ∃ NL, NL = LL.length := ⟨_, rfl⟩
   have hINO : InOrd LL := by rw [hLL]; exact InOrd.set _
   have hNL1 : 1 ≤ NL := by rw [hNL]; exact hINO.pos
   have hNL26 : NL ≤ 25 := by rw [hNL, hLL]; exact bothL_few HVA.out HVB.out
   rw [← hNL] at ho3
   obtain ⟨gl, cl, rfl, hglB, hgl3⟩ := own_some ho3 hNL1
   obtain ⟨B, hB⟩ : ∃ B, B = W4.heap.size := ⟨_, rfl⟩
   have HOL : Hid (w3.ownsRow B 9 1 (.slice (some ⟨gl, 0, none⟩) NL cl) NL (LL.map .string)) := by
    unfold Hid; rw [hB]; exact own_lower ho3 hs2
   have HB3 : Hid (Below B W4 w3) := by unfold Hid; rw [hB]; exact hq3
   have hB3 : B ≤ w3.heap.size := by rw [hB]; exact hq3.size
   have HBB := Lib.hid hB
   have HGL3 : Hid (gl < w3.heap.size) := hgl3
   have HNL := Lib.hid hNL
   have HLL := Lib.hid hLL
   obtain ⟨W5, hW5⟩ : ∃ W5, W5 = (((w3.alloc (.cells #[.int .i64 0] 2)).alloc (.cells #[.int .i64 0] 2)).alloc (.cells #[.int .i64 (-1)] 3)).alloc (.cells #[.string ⟨#[]⟩] 9) := ⟨_, rfl⟩
   obtain ⟨G, hG⟩ : ∃ G, G = w3.heap.size := ⟨_, rfl⟩
   have hb35 : Below G w3 W5 := by rw [hW5, hG]; exact ((((Below.refl _ _).alloc (Nat.le_refl _) _).alloc (by simp) _).alloc (by simp; omega) _).alloc (by simp; omega) _
   have HOD5 : Hid (OwnD B W5 (.slice (some ⟨G, 0, none⟩) 1 1) (.slice (some ⟨G + 1, 0, none⟩) 1 1) (.slice (some ⟨G + 1 + 1, 0, none⟩) 1 1) (.slice (some ⟨G + 1 + 1 + 1, 0, none⟩) 1 1) [0] [0] [-1] [⟨#[]⟩]) := by
    have r1 := World.ownsRow_lit (base := B) (e := 2) (size := 1) w3 #[.int .i64 0] 1 hB3 (by decide) rfl
    have r2 := World.ownsRow_lit (base := B) (e := 2) (size := 1) (w3.alloc (.cells #[.int .i64 0] 2)) #[.int .i64 0] 1 (by simp; omega) (by decide) rfl
    have r3 := World.ownsRow_lit (base := B) (e := 3) (size := 1) ((w3.alloc (.cells #[.int .i64 0] 2)).alloc (.cells #[.int .i64 0] 2)) #[.int .i64 (-1)] 1 (by simp; omega) (by decide) rfl
    have r4 := World.ownsRow_lit (base := B) (e := 9) (size := 1) (((w3.alloc (.cells #[.int .i64 0] 2)).alloc (.cells #[.int .i64 0] 2)).alloc (.cells #[.int .i64 (-1)] 3)) #[.string ⟨#[]⟩] 1 (by simp; omega) (by decide) rfl
    simp only [World.size_alloc] at r2 r3 r4
    unfold Hid
    rw [hW5, hG]
    exact ⟨((r1.alloc _).alloc _).alloc _, (r2.alloc _).alloc _, r3.alloc _, r4, by simp [Value.ownBlock], by simp [Value.ownBlock]⟩
   have HOL5 : Hid (W5.ownsRow B 9 1 (.slice (some ⟨gl, 0, none⟩) NL cl) NL (LL.map .string)) := owns_below HOL.out (by rw [← hG]; exact hb35)
   have HB5 : Hid (Below B W4 W5) := HB3.out.trans (hb35.mono (by rw [hG]; exact hB3))
   have HST := Lib.hid (RSt.start a b sa sb)
   have HW5 := Lib.hid hW5
   have HG := Lib.hid hG
   clear hLe ho3 hINO hglB hgl3 hB hNL hLL hW5 hG hb35 hB3 hb3 hq3 hq2 hq1 hs1 hs2 hown1 hown2 hgrow1 hgrow2 hat1 hat2 hlt1 hlt2
   go_wp2
   rw [← HG.out]
   try rw [← HG.out] at HW5
   try rw [← HW5.out]
   go_loopw [15, 16, 17, 18, 19] (fun v15 v16 v17 v18 v19 wr => ∃ (i : Nat) (N : List (List Nat)) (bs : List Int) (ys : List ByteArray), v19 = .int .i64 i ∧ i ≤ N.length ∧ RSt a b sa sb N i 0 ∧ BackOk LL N bs ys ∧ Below B W4 wr ∧ (wr.ownsRow B 9 1 (.slice (some ⟨gl, 0, none⟩) NL cl) NL (LL.map .string) ∧ v18.ownBlock ≠ some gl) ∧ OwnD B wr v15 v16 v17 v18 (N.map fun u => (difS (dSys a sa) (dSys b sb) LL u).1) (N.map fun u => (difS (dSys a sa) (dSys b sb) LL u).2) bs ys) (fun _ _ _ _ v19 _ => 2000 - (intOf v19).toNat)
   case atStart => exact ⟨0, [[]], [-1], [⟨#[]⟩], rfl, by simp, HST.out, BackOk.one LL, HB5.out, ⟨HOL5.out, by have := HGL3.out; have := HG.out; simp [Value.ownBlock]; omega⟩, HOD5.out⟩
   case round =>
    clear HOD5 HB5 HST HOL
    obtain ⟨i, N, bs, ys, rfl, hiN, hst, hbk, hbl, hbl4, hod⟩ := hrel
    obtain ⟨wC, rfl⟩ : ∃ wC : World, wC = wr := ⟨_, rfl⟩
    have HSTC := Lib.hid hst
    have HBK := Lib.hid hbk
    have HBL := Lib.hid hbl
    have hN16 : N.length ≤ 1681 := hst.few HX.out HY.out
    have hBC : B ≤ wC.heap.size := by have := hbl.size; have := HBB.out; omega
    have HOLC := Lib.hid hbl4
    by_cases hlt : i < N.length
    ·obtain ⟨u, hu⟩ : ∃ u, N[i]? = some u := ⟨_, List.getElem?_eq_getElem hlt⟩
     have HU := Lib.hid hu
     have halv := hst.alive hu
     have hrng := difS_range HX.out HY.out (bothL a b) u
     obtain ⟨M, hM⟩ : ∃ M, M = N.length := ⟨_, rfl⟩
     obtain ⟨ls, hls⟩ : ∃ ls, ls = N.map fun u => (difS (dSys a sa) (dSys b sb) LL u).1 := ⟨_, rfl⟩
     obtain ⟨rs, hrs⟩ : ∃ rs, rs = N.map fun u => (difS (dSys a sa) (dSys b sb) LL u).2 := ⟨_, rfl⟩
     have hlsM : ls.length = M := by rw [hls, List.length_map, hM]
     have hrsM : rs.length = M := by rw [hrs, List.length_map, hM]
     have hbsM : bs.length = M := by rw [hbk.1, hM]
     have hysM : ys.length = M := by rw [hbk.2.1, hM]
     rw [← hls, ← hrs] at hod
     rw [← hM] at hN16 hiN hlt
     have hM0 : 0 < M := by omega
     obtain ⟨gA, cA, rfl, hgA, hgAw⟩ := own_some hod.left (by omega)
     obtain ⟨gB, cB, rfl, hgB, hgBw⟩ := own_some hod.right (by omega)
     obtain ⟨gC, cC, rfl, hgC, hgCw⟩ := own_some hod.before (by omega)
     obtain ⟨gD, cD, rfl, hgD, hgDw⟩ := own_some hod.by_ (by omega)
     rw [hlsM, hrsM, hbsM, hysM] at hod ⊢
     rw [hysM] at hbl4 HOLC
     have hl1 := hod.left
     have hr1 := hod.right
     rw [hlsM] at hl1
     rw [hrsM] at hr1
     have cA1 := cell_num hl1 hlt
     have cB1 := cell_num hr1 hlt
     rw [hls, (word_at hu).1] at cA1
     rw [hrs, (word_at hu).2] at cB1
     obtain ⟨P, hP⟩ : ∃ P, P = difS (dSys a sa) (dSys b sb) LL u := ⟨_, rfl⟩
     have hP2 : P = difS (dSys a sa) (dSys b sb) (bothL a b) u := by rw [hP, HLL.out]
     rw [← hP] at cA1 cB1
     rw [← hP2] at halv hrng
     have HPP := Lib.hid hP
     have HPP2 := Lib.hid hP2
     have HOD := Lib.hid hod
     have HLS := Lib.hid hls
     have HRS := Lib.hid hrs
     have HLSM := Lib.hid hlsM
     have HRSM := Lib.hid hrsM
     have HBSM := Lib.hid hbsM
     have HYSM := Lib.hid hysM
     have HM := Lib.hid hM
     have HIM : Hid (i ≤ 1681) := by unfold Hid; omega
     have HRNG := Lib.hid hrng
     obtain ⟨W6, hW6⟩ : ∃ W6, W6 = wC.alloc (.cells #[] 9) := ⟨_, rfl⟩
     have hb6 : Below wC.heap.size wC W6 := by rw [hW6]; exact (Below.refl _ _).alloc (Nat.le_refl _) _
     have HRV6 : Hid (OwnStrs B W6 (.slice (some ⟨wC.heap.size, 0, none⟩) 0 0) []) := by
      unfold Hid; rw [hW6]
      exact World.ownsRow_lit (base := B) (e := 9) (size := 1) wC #[] 0 hBC (by decide) rfl
     have HOD6 := Lib.hid (hod.below hb6)
     have HB6 : Hid (Below B W4 W6) := hbl.trans (hb6.mono hBC)
     have HOL6 : Hid (W6.ownsRow B 9 1 (.slice (some ⟨gl, 0, none⟩) NL cl) NL (LL.map .string)) := owns_below hbl4.1 hb6
     have HNE6 : Hid (some gD ≠ some gl) := by unfold Hid; have := hbl4.2; simpa [Value.ownBlock] using this
     have HGW : Hid (gA < wC.heap.size ∧ gB < wC.heap.size ∧ gl < wC.heap.size) := ⟨hgAw, hgBw, (hbl4.1.lt gl rfl).2⟩
     have HCA1 := Lib.hid cA1
     have HCB1 := Lib.hid cB1
     have HB06 := Lib.hid hb6
     have hs6 : wC.heap.size ≤ W6.heap.size := hb6.size
     have HW6 := Lib.hid hW6
     by_cases hneg : P.1 < 0
     ·have HRF : Hid (RefB a b sa sb false (txtsOf LL u) []) := by
       have hbad : badP a b sa sb (difS (dSys a sa) (dSys b sb) (bothL a b) u) := by rw [← hP2]; exact ⟨halv, .inl hneg⟩
       refine .inr ⟨u, hst.least hu hbad, rfl, by rw [HLL.out], ?_⟩
       rw [← hP2]
       unfold refL
       rw [if_pos hneg]
      have cA6 := keeps hb6 hgAw cA1
      rw [hW6] at cA6
      obtain ⟨R, hR⟩ : ∃ R : List ByteArray, R = [] := ⟨_, rfl⟩
      have HRVZ : Hid (OwnStrs B W6 (.slice (some ⟨wC.heap.size, 0, none⟩) 0 0) R) := by unfold Hid; rw [hR]; exact HRV6.out
      rw [← hR] at HRF
      obtain ⟨q1, hq1⟩ : ∃ q1, q1 = P.1 := ⟨_, rfl⟩
      rw [← hq1] at cA6 hneg
      have HBZ := HB6
      have HODZ := HOD6
      obtain ⟨wZ, hwZ⟩ : ∃ wZ, wZ = W6 := ⟨_, rfl⟩
      rw [← hwZ] at HRVZ HBZ HODZ
      have HWZ : Hid (wZ = wC.alloc (.cells #[] 9)) := by unfold Hid; rw [hwZ, hW6]
      obtain ⟨gz, hgz⟩ : ∃ gz, gz = wZ.heap.size := ⟨_, rfl⟩
      have HGZ := Lib.hid hgz
      have HGZ1 : Hid (gz = wC.heap.size + 1) := by unfold Hid; rw [hgz, hwZ, hW6]; simp
      clear hgz
      clear hst hbk hbl hbl4 hod hu hls hrs hl1 hr1 cA1 cB1 hP hP2 hM hlsM hrsM hbsM hysM hb6 hW6 halv hrng hR hq1 hwZ hgA hgAw hgB hgBw hgC hgCw hgD hgDw
      obtain ⟨W7, hW7⟩ : ∃ W7, W7 = wZ.alloc (.cells #[] 9) := ⟨_, rfl⟩
      have HB7 : Hid (Below wZ.heap.size wZ W7) := by unfold Hid; rw [hW7]; exact (Below.refl _ _).alloc (Nat.le_refl _) _
      have HT7 : Hid (W7.ownsRow wZ.heap.size 9 1 (.slice (some ⟨gz, 0, none⟩) 0 0) 0 []) := by
       unfold Hid; rw [hW7, HGZ.out]
       exact World.ownsRow_lit (base := wZ.heap.size) (e := 9) (size := 1) wZ #[] 0 (Nat.le_refl _) (by decide) rfl
      have HW7 := Lib.hid hW7
      have HZS : Hid (W4.heap.size ≤ wZ.heap.size ∧ gD < wZ.heap.size ∧ gC < wZ.heap.size) := by
       have h1 := HBZ.out.size
       have h2 := HODZ.out.by_
       have h3 := HODZ.out.before
       exact ⟨h1, (h2.lt gD rfl).2, (h3.lt gC rfl).2⟩
      have HIW : Hid (∀ a z, N[a]? = some z → 0 < a → ∃ (s : ByteArray) (p : Nat) (v : List Nat), p < a ∧ N[p]? = some v ∧ txtsOf LL v ++ [s] = txtsOf LL z ∧ a < M ∧ wZ.cell? ⟨gD, a, none⟩ = some (.string s) ∧ wZ.cell? ⟨gC, a, none⟩ = some (.int .i64 p)) := by
       intro a z hz ha
       obtain ⟨c, v, p, e1, e2, e3, e4, e5⟩ := HBK.out.2.2 a z hz ha
       have haM : a < M := by rw [HM.out]; exact (List.getElem?_eq_some_iff.1 hz).1
       refine ⟨labK LL c, p, v, e2, e3, by rw [e1, txtsOf_cons], haM, ?_, ?_⟩
       ·have h1 := HODZ.out.by_
        rw [HYSM.out] at h1
        have h2 := h1.cellAt a (by omega)
        rw [List.getElem?_map, e5] at h2
        exact h2
       ·have h1 := HODZ.out.before
        rw [HBSM.out] at h1
        have h2 := h1.cellAt a (by omega)
        rw [List.getElem?_map, e4] at h2
        exact h2
      clear hW7
      go_wp2
      rw [← HWZ.out]
      try rw [← HGZ1.out]
      rw [← HW7.out]
      clear cA6
      go_loopw [25, 26] (fun v25 v26 wr => ∃ (a : Nat) (z : List Nat) (T : List ByteArray) (gT cT : Nat), v26 = .int .i64 a ∧ v25 = .slice (some ⟨gT, 0, none⟩) T.length cT ∧ gT < wr.heap.size ∧ T.length ≤ cT ∧ cT ≤ maxLen ∧ N[a]? = some z ∧ T.length + a ≤ i ∧ txtsOf LL z ++ T = txtsOf LL u ∧ Below wZ.heap.size wZ wr ∧ wr.ownsRow wZ.heap.size 9 1 v25 T.length (T.map .string)) (fun _ v26 _ => (intOf v26).toNat)
      case atStart => exact ⟨i, u, [], gz, 0, rfl, rfl, by rw [HW7.out, HGZ.out]; simp, Nat.le_refl _, by decide, HU.out, by simp, by simp, HB7.out, HT7.out⟩
      case round =>
       clear HB7 HT7
       obtain ⟨a9, z, T, gT, cT, rfl, rfl, hgTw, hTc, hcT, hNa, hTa, hTX, hb7, hoT⟩ := hrel
       obtain ⟨w7, rfl⟩ : ∃ w7 : World, w7 = wr := ⟨_, rfl⟩
       have hs7 := hb7.size
       obtain ⟨TL, hTL⟩ : ∃ TL, TL = T.length := ⟨_, rfl⟩
       rw [← hTL] at hoT hTa hTc ⊢
       have HTX := Lib.hid hTX
       have HB7 := Lib.hid hb7
       have HOT := Lib.hid hoT
       have HTL := Lib.hid hTL
       by_cases ha0 : 0 < a9
       ·obtain ⟨sx, p9, v, hpa9, hNp, hsx, haM, cD, cC⟩ := HIW.out a9 z hNa ha0
        have cD7 := keeps hb7 HZS.out.2.1 cD
        have HCC : Hid (wZ.cell? ⟨gC, a9, none⟩ = some (.int .i64 p9)) := cC
        have HNP := Lib.hid hNp
        have HSX := Lib.hid hsx
        have HFR : Hid ((w7.alloc (.cells #[.string sx] 9)).ownsRow wZ.heap.size 9 1 (.slice (some ⟨w7.heap.size, 0, none⟩) 1 1) 1 [.string sx]) :=
         World.ownsRow_lit (base := wZ.heap.size) (e := 9) (size := 1) w7 #[.string sx] 1 hs7 (by decide) rfl
        have HTC : Hid (∀ j u, (T.map Value.string)[j]? = some u → (w7.alloc (.cells #[.string sx] 9)).cell? ((⟨gT, 0, none⟩ : Addr).add j) = some u) := (hoT.alloc _).cells rfl
        have hi16 := HIM.out
        clear hNa hTX hb7 hoT hTL hNp hsx cD cC
        go_wp2_with (at_builtin; refine wpList_append_own _ rfl _ _ 22 rfl wZ.heap.size 9 i3 (.string ⟨#[]⟩) 1 16 Tryz.underlying22 hi3 hz30 hz31 hz32 rfl (by decide) _ 1 [.string sx] rfl HFR.out ⟨gT, 0, none⟩ TL cT (T.map .string) rfl ?c0 HTC.out ?c2 ?c3 ?c4 ?c5 ?_)
        case c0 => rw [List.length_map, HTL.out, Nat.mul_one]
        case c2 => intro u hu; obtain ⟨x, -, rfl⟩ := List.mem_map.1 hu; rfl
        case c3 => simp [maxLen]; omega
        case c4 => omega
        case c5 => first | omega | (simp; omega)
        intro v8 w8 ho8 hg8 _
        have hb8 : Below wZ.heap.size wZ w8 := ((HB7.out.alloc hs7 _).grown hg8 (by simp; omega) (fun b e => by cases e; exact hs7))
        have HB8 := Lib.hid hb8
        have cC8 := keeps hb8 HZS.out.2.2 HCC.out
        have HO8 : Hid (w8.ownsRow wZ.heap.size 9 1 v8 (sx :: T).length ((sx :: T).map .string)) := by
         unfold Hid
         rw [List.length_cons, ← HTL.out, Nat.add_comm TL 1]
         exact ho8
        obtain ⟨g8, c8, hv8, -, hg8w⟩ := own_some HO8.out (by simp)
        have hc8 : (sx :: T).length ≤ c8 ∧ c8 ≤ maxLen := by
         obtain ⟨a, c, e, h1, h2⟩ := owns_slice HO8.out
         rw [hv8] at e
         simp only [Value.slice.injEq] at e
         obtain ⟨-, -, rfl⟩ := e
         exact ⟨h1, h2⟩
        subst hv8
        have HC8 := Lib.hid hc8
        have HG8 := Lib.hid hg8w
        clear ho8 hg8 hb8 hc8 hg8w
        go_wp2
        go_roundw
        case rel => exact ⟨p9, v, sx :: T, g8, c8, by go_num, rfl, HG8.out, HC8.out.1, HC8.out.2, HNP.out, by rw [List.length_cons, ← HTL.out]; omega, by rw [← HTX.out, ← HSX.out]; simp, HB8.out, HO8.out⟩
        case measure => simp [intOf]; omega
       ·have ha1 : a9 = 0 := by omega
        have hz0 : z = [] := by
         have h := HSTC.out.nst.first
         rw [ha1, h] at hNa
         cases hNa
         rfl
        have hTE : T = txtsOf LL u := by
         rw [← hTX, hz0]
         rfl
        have HBF : Hid (Below w.heap.size w w7) := HBW.out.trans ((HBZ.out.trans (hb7.mono (by have := HBZ.out.size; have := HBB.out; omega))).mono (by have := HBW.out.size; have := HBB.out; omega))
        have HOF : Hid (OwnStrs w.heap.size w7 (.slice (some ⟨gT, 0, none⟩) TL cT) (txtsOf LL u)) := by
         unfold Hid OwnStrs
         rw [← hTE, ← hTL]
         exact own_lower hoT (Nat.le_trans HBW.out.size HBZ.out.size)
        have HTF : Hid ((txtsOf LL u).length ≤ 2000) := by unfold Hid; rw [← hTE]; have := HIM.out; omega
        have HRW : Hid (OwnStrs w.heap.size w7 (.slice (some ⟨wC.heap.size, 0, none⟩) 0 0) R) := OwnStrs.lower (HRVZ.out.below hb7) (by have := HBW.out.size; have := HBB.out; omega)
        have HFARZ : Hid (Far (.slice (some ⟨gT, 0, none⟩) TL cT) (.slice (some ⟨wC.heap.size, 0, none⟩) 0 0)) := Far.symm (Far.later HRVZ.out hoT (Nat.le_refl _))
        clear hNa hTX hb7 hoT hTL hz0 hTE
        go_wp2
        ((try simp only [Exit.inBlock, Exit.then]); refine bodyPost_ret (results_tmp4 rfl _ _ _) rfl ?_)
        exact ⟨true, true, _, _, rfl, HBF.out, .inr ⟨rfl, sa, sb, _, R, HOKA.out, HOKB.out, HRF.out, HTF.out, HOF.out, HRW.out, HFARZ.out⟩⟩
     ·obtain ⟨n, hn⟩ : ∃ n : Nat, (n : Int) = P.1 := ⟨P.1.toNat, by omega⟩
      obtain ⟨m, hm⟩ : ∃ m : Nat, (m : Int) = P.2 := ⟨P.2.toNat, by omega⟩
      have hnl : n < sa.rows.length := by have h1 : P.1 < (sa.rows.length : Int) := hrng.1.1; omega
      have hml : m < sb.rows.length := by have h1 : P.2 < (sb.rows.length : Int) := hrng.2.1; omega
      have hsn : setOf sa P.1 = sa.rows[n] := by rw [← hn]; exact setOf_at (List.getElem?_eq_getElem hnl)
      have hsm : setOf sb P.2 = sb.rows[m] := by rw [← hm]; exact setOf_at (List.getElem?_eq_getElem hml)
      have hlen1 := setOf_len HVA.out HOKA.out (q := P.1) hrng.1.1
      have hlen2 := setOf_len HVB.out HOKB.out (q := P.2) hrng.2.1
      have hin2 := setOf_in HVB.out HOKB.out (q := P.2) hrng.2.1
      rw [hsn] at hlen1
      rw [hsm] at hlen2 hin2
      have hq46 : Below W4.heap.size W4 W6 := by have h := HB6.out; rw [HBB.out] at h; exact h
      obtain ⟨r1, c1, u1, hr1v, hr1w, hr1c, -, hsu1⟩ := (OwnIntss.below HRA.out hq46).rowAt hnl
      obtain ⟨r2, c2, u2, hr2v, hr2w, hr2c, -, hsu2⟩ := (OwnIntss.below HRB.out hq46).rowAt hml
      obtain ⟨S, hS⟩ : ∃ S, S = sa.rows[n] := ⟨_, rfl⟩
      obtain ⟨T, hT⟩ : ∃ T, T = sb.rows[m] := ⟨_, rfl⟩
      have hsetS : setOf sa P.1 = S := by rw [hsn, hS]
      have hsetT : setOf sb P.2 = T := by rw [hsm, hT]
      rw [← hS] at hsu1 hlen1
      rw [← hT] at hsu2 hlen2 hin2
      simp only [Value.slice.injEq] at hr1v hr2v
      obtain ⟨rfl, hm4, rfl⟩ := hr1v
      obtain ⟨rfl, hi4, rfl⟩ := hr2v
      rw [← hm4] at hnl
      rw [← hi4] at hml
      have hBP : badP a b sa sb P ↔ 0 ≤ excL a b S T := by
       unfold badP
       rw [hsetS, hsetT]
       exact ⟨fun h => h.2.elim (fun h => absurd h hneg) id, fun h => ⟨halv, .inr h⟩⟩
      have HBP := Lib.hid hBP
      have HSETS := Lib.hid hsetS
      have HSETT := Lib.hid hsetT
      have HNEG := Lib.hid hneg
      have HIN2 := Lib.hid hin2
      have HLEN1 := Lib.hid hlen1
      have HLEN2 := Lib.hid hlen2
      have HSU2 := Lib.hid hsu2
      have hWW : ∀ w', Below W6.heap.size W6 w' → Below W4.heap.size W4 w' := fun w' hb => hq46.trans (hb.mono hq46.size)
      have HWW := Lib.hid hWW
      have HOF1 := Lib.hid (l18Offers_any pa lo _ a u1 S W6 HVA.out (HPA4.out.below hq46) hsu1 (by omega))
      have HOF2 : Hid (∀ w', Below W6.heap.size W6 w' → Calls Tryz.prog 71 #[.pointer (some ⟨pb, 0, none⟩), u2] w' fun e w'' => ∃ v' vs, e = .returned v' ∧ Below w'.heap.size w' w'' ∧ OwnStrss w'.heap.size w'' v' vs (offersS b T)) := fun w' hb => l18Offers_any pb lo _ b u2 T w' HVB.out (HPB4.out.below (hWW w' hb)) (hsu2.below hb) (by omega)
      have cA6 := keeps hb6 hgAw cA1
      rw [← hn] at cA6
      have HCB6 := Lib.hid (keeps hb6 hgBw cB1)
      rw [← hm] at HCB6
      have HR2C := Lib.hid hr2c
      have HR2W := Lib.hid hr2w
      have hgB6 : gB < W6.heap.size := by omega
      have HGB6 := Lib.hid hgB6
      rw [hW6] at cA6 hr1c
      rw [hW6] at hr1w
      clear hst hbk hbl hbl4 hod hu hls hrs hl1 hr1 cA1 cB1 hP hP2 hM hlsM hrsM hbsM hysM hb6 hW6 halv hrng hgA hgAw hgB hgBw hgC hgCw hgD hgDw hneg hsn hsm hlen1 hlen2 hin2 hq46 hsu1 hsu2 hS hT hsetS hsetT hBP hWW hr2w hr2c hgB6 hn hm hm4 hi4
      go_wp2_with fail
      rw [← HW6.out]
      refine Calls.mono HOF1.out ?_
      rintro e w7 ⟨lv7, vs7, rfl, hb7, hof7⟩
      have HB7 := Lib.hid hb7
      have HO7 := Lib.hid hof7
      have cB7 := keeps hb7 HGB6.out HCB6.out
      have cR7 := keeps hb7 HR2W.out HR2C.out
      have HOF27 := Lib.hid (HOF2.out w7 hb7)
      obtain ⟨la7, lc7, rfl, -, -⟩ := owns_slice hof7.out
      obtain ⟨LN7, hLN7⟩ : ∃ LN7, LN7 = vs7.length := ⟨_, rfl⟩
      rw [← hLN7] at HO7 ⊢
      clear hb7 hof7 hLN7 HOF1 HOF2 cA6 hr1c hr1w
      go_wp2_with fail
      refine Calls.mono HOF27.out ?_
      rintro e w8 ⟨lv8, vs8, rfl, hb8, hof8⟩
      have HB8 : Hid (Below W6.heap.size W6 w8) := HB7.out.trans (hb8.mono HB7.out.size)
      have HO78 := Lib.hid (HO7.out.below hb8)
      have HO8 := Lib.hid hof8
      obtain ⟨oa8, oc8, rfl, -, -⟩ := owns_slice hof8.out
      have hmo := hof8.len
      obtain ⟨MO, hMO⟩ : ∃ MO, MO = vs8.length := ⟨_, rfl⟩
      rw [← hMO] at HO8 hmo ⊢
      have HMO : Hid (MO = (offersS b T).length) := hmo
      have hMO40 : MO ≤ 40 := by rw [hmo]; exact Nat.le_trans (offersS_len b T) HLEN2.out
      have HLSL : Hid ((offersS a S).length ≤ 1000) := Nat.le_trans (offersS_len a S) (by have := HLEN1.out; omega)
      have HLSE : Hid (∀ x ∈ offersS a S, x.length ≤ 1000) := fun x hx => by
       unfold offersS at hx
       obtain ⟨j, -, rfl⟩ := List.mem_map.1 hx
       have := offS_few HVA.out j
       omega
      have HRV8 : Hid (OwnStrs B w8 (.slice (some ⟨wC.heap.size, 0, none⟩) 0 0) []) := HRV6.out.below HB8.out
      have HB84 : Hid (Below B W4 w8) := HB6.out.trans (HB8.out.mono (by have := HB06.out.size; omega))
      have hB8 : B ≤ w8.heap.size := by have := HB84.out.size; have := HBB.out; omega
      have HOL8 : Hid (SliceK 1 encS B w8 (.slice (some ⟨gl, 0, none⟩) NL cl) LL) := SliceK.of_owns (enc := encS) (e := 9) encS_len HNL.out (by rw [flat_encS]; exact owns_below HOL6.out HB8.out)
      clear hb8 hof8 hMO hmo HOF27 cB7 cR7
      go_wp2
      go_loopw [20, 21, 24] (fun v20 v21 v24 wr => ∃ (k : Nat) (bd : Bool) (R : List ByteArray), v24 = .int .i64 k ∧ v21 = .bool bd ∧ k ≤ MO ∧ Below w8.heap.size w8 wr ∧ OwnStrs B wr v20 R ∧ OfSt a b S T LL k bd R) (fun _ _ v24 _ => MO - (intOf v24).toNat)
      case atStart => exact ⟨0, false, [], rfl, rfl, Nat.zero_le _, Below.refl _ _, HRV8.out, .inl ⟨rfl, rfl, fun j _ h => by omega⟩⟩
      case round =>
       obtain ⟨k, bd, R, rfl, rfl, hkM, hb9, hrv9, hof9⟩ := hrel
       obtain ⟨w9, rfl⟩ : ∃ w9 : World, w9 = wr := ⟨_, rfl⟩
       have HB9 := Lib.hid hb9
       have HRV9 := Lib.hid hrv9
       have HOF9 := Lib.hid hof9
       have hs9 := hb9.size
       obtain ⟨ra9, rc9, rfl, -, -⟩ := owns_slice hrv9
       cases bd with
       | true =>
        have hexl : 0 ≤ excL a b S T ∧ R = lackL (LL.drop 1) (rdy b (excL a b S T)) := by
         rcases hof9 with ⟨h, -⟩ | ⟨-, h⟩
         ·cases h
         ·exact h
        have HRF : Hid (RefB a b sa sb false (txtsOf LL u) R) := by
         have hbad : badP a b sa sb (difS (dSys a sa) (dSys b sb) (bothL a b) u) := by rw [← HPP2.out]; exact HBP.out.2 hexl.1
         refine .inr ⟨u, HSTC.out.least HU.out hbad, rfl, by rw [HLL.out], ?_⟩
         rw [← HPP2.out]
         unfold refL
         rw [if_neg (by have := HNEG.out; omega), HSETS.out, HSETT.out, hexl.2, HLL.out]
        have HBZ : Hid (Below B W4 w9) := HB84.out.trans (hb9.mono hB8)
        have HODZ : Hid (OwnD B w9 (.slice (some ⟨gA, 0, none⟩) M cA) (.slice (some ⟨gB, 0, none⟩) M cB) (.slice (some ⟨gC, 0, none⟩) M cC) (.slice (some ⟨gD, 0, none⟩) M cD) ls rs bs ys) := (HOD6.out.below HB8.out).below hb9
        have HRVZ := HRV9
        obtain ⟨wZ, hwZ⟩ : ∃ wZ, wZ = w9 := ⟨_, rfl⟩
        rw [← hwZ] at HBZ HODZ HRVZ ⊢
        obtain ⟨gz, hgz⟩ : ∃ gz, gz = wZ.heap.size := ⟨_, rfl⟩
        have HGZ := Lib.hid hgz
        clear hgz
        clear hb9 hrv9 hof9 hexl hwZ HB9 HRV9 HOF9
        rcases Nat.lt_or_ge k MO with hkk | hkk
        all_goals (
         obtain ⟨W7, hW7⟩ : ∃ W7, W7 = wZ.alloc (.cells #[] 9) := ⟨_, rfl⟩
         have HB7 : Hid (Below wZ.heap.size wZ W7) := by unfold Hid; rw [hW7]; exact (Below.refl _ _).alloc (Nat.le_refl _) _
         have HT7 : Hid (W7.ownsRow wZ.heap.size 9 1 (.slice (some ⟨gz, 0, none⟩) 0 0) 0 []) := by
          unfold Hid; rw [hW7, HGZ.out]
          exact World.ownsRow_lit (base := wZ.heap.size) (e := 9) (size := 1) wZ #[] 0 (Nat.le_refl _) (by decide) rfl
         have HW7 := Lib.hid hW7
         have HZS : Hid (W4.heap.size ≤ wZ.heap.size ∧ gD < wZ.heap.size ∧ gC < wZ.heap.size) := by
          have h1 := HBZ.out.size
          have h2 := HODZ.out.by_
          have h3 := HODZ.out.before
          exact ⟨h1, (h2.lt gD rfl).2, (h3.lt gC rfl).2⟩
         have HIW : Hid (∀ a z, N[a]? = some z → 0 < a → ∃ (s : ByteArray) (p : Nat) (v : List Nat), p < a ∧ N[p]? = some v ∧ txtsOf LL v ++ [s] = txtsOf LL z ∧ a < M ∧ wZ.cell? ⟨gD, a, none⟩ = some (.string s) ∧ wZ.cell? ⟨gC, a, none⟩ = some (.int .i64 p)) := by
          intro a z hz ha
          obtain ⟨c, v, p, e1, e2, e3, e4, e5⟩ := HBK.out.2.2 a z hz ha
          have haM : a < M := by rw [HM.out]; exact (List.getElem?_eq_some_iff.1 hz).1
          refine ⟨labK LL c, p, v, e2, e3, by rw [e1, txtsOf_cons], haM, ?_, ?_⟩
          ·have h1 := HODZ.out.by_
           rw [HYSM.out] at h1
           have h2 := h1.cellAt a (by omega)
           rw [List.getElem?_map, e5] at h2
           exact h2
          ·have h1 := HODZ.out.before
           rw [HBSM.out] at h1
           have h2 := h1.cellAt a (by omega)
           rw [List.getElem?_map, e4] at h2
           exact h2
         clear hW7
         go_wp2
         try rw [← HGZ.out]
         rw [← HW7.out]
         go_loopw [25, 26] (fun v25 v26 wr => ∃ (a : Nat) (z : List Nat) (T : List ByteArray) (gT cT : Nat), v26 = .int .i64 a ∧ v25 = .slice (some ⟨gT, 0, none⟩) T.length cT ∧ gT < wr.heap.size ∧ T.length ≤ cT ∧ cT ≤ maxLen ∧ N[a]? = some z ∧ T.length + a ≤ i ∧ txtsOf LL z ++ T = txtsOf LL u ∧ Below wZ.heap.size wZ wr ∧ wr.ownsRow wZ.heap.size 9 1 v25 T.length (T.map .string)) (fun _ v26 _ => (intOf v26).toNat)
         case atStart => exact ⟨i, u, [], gz, 0, rfl, rfl, by rw [HW7.out, HGZ.out]; simp, Nat.le_refl _, by decide, HU.out, by simp, by simp, HB7.out, HT7.out⟩
         case round =>
          clear HB7 HT7
          obtain ⟨a9, z, T, gT, cT, rfl, rfl, hgTw, hTc, hcT, hNa, hTa, hTX, hb7, hoT⟩ := hrel
          obtain ⟨w7, rfl⟩ : ∃ w7 : World, w7 = wr := ⟨_, rfl⟩
          have hs7 := hb7.size
          obtain ⟨TL, hTL⟩ : ∃ TL, TL = T.length := ⟨_, rfl⟩
          rw [← hTL] at hoT hTa hTc ⊢
          have HTX := Lib.hid hTX
          have HB7 := Lib.hid hb7
          have HOT := Lib.hid hoT
          have HTL := Lib.hid hTL
          by_cases ha0 : 0 < a9
          ·obtain ⟨sx, p9, v, hpa9, hNp, hsx, haM, cD, cC⟩ := HIW.out a9 z hNa ha0
           have cD7 := keeps hb7 HZS.out.2.1 cD
           have HCC : Hid (wZ.cell? ⟨gC, a9, none⟩ = some (.int .i64 p9)) := cC
           have HNP := Lib.hid hNp
           have HSX := Lib.hid hsx
           have HFR : Hid ((w7.alloc (.cells #[.string sx] 9)).ownsRow wZ.heap.size 9 1 (.slice (some ⟨w7.heap.size, 0, none⟩) 1 1) 1 [.string sx]) :=
            World.ownsRow_lit (base := wZ.heap.size) (e := 9) (size := 1) w7 #[.string sx] 1 hs7 (by decide) rfl
           have HTC : Hid (∀ j u, (T.map Value.string)[j]? = some u → (w7.alloc (.cells #[.string sx] 9)).cell? ((⟨gT, 0, none⟩ : Addr).add j) = some u) := (hoT.alloc _).cells rfl
           have hi16 := HIM.out
           clear hNa hTX hb7 hoT hTL hNp hsx cD cC
           go_wp2_with (at_builtin; refine wpList_append_own _ rfl _ _ 22 rfl wZ.heap.size 9 i3 (.string ⟨#[]⟩) 1 16 Tryz.underlying22 hi3 hz30 hz31 hz32 rfl (by decide) _ 1 [.string sx] rfl HFR.out ⟨gT, 0, none⟩ TL cT (T.map .string) rfl ?c0 HTC.out ?c2 ?c3 ?c4 ?c5 ?_)
           case c0 => rw [List.length_map, HTL.out, Nat.mul_one]
           case c2 => intro u hu; obtain ⟨x, -, rfl⟩ := List.mem_map.1 hu; rfl
           case c3 => simp [maxLen]; omega
           case c4 => omega
           case c5 => first | omega | (simp; omega)
           intro v8 w8 ho8 hg8 _
           have hb8 : Below wZ.heap.size wZ w8 := ((HB7.out.alloc hs7 _).grown hg8 (by simp; omega) (fun b e => by cases e; exact hs7))
           have HB8 := Lib.hid hb8
           have cC8 := keeps hb8 HZS.out.2.2 HCC.out
           have HO8 : Hid (w8.ownsRow wZ.heap.size 9 1 v8 (sx :: T).length ((sx :: T).map .string)) := by
            unfold Hid
            rw [List.length_cons, ← HTL.out, Nat.add_comm TL 1]
            exact ho8
           obtain ⟨g8, c8, hv8, -, hg8w⟩ := own_some HO8.out (by simp)
           have hc8 : (sx :: T).length ≤ c8 ∧ c8 ≤ maxLen := by
            obtain ⟨a, c, e, h1, h2⟩ := owns_slice HO8.out
            rw [hv8] at e
            simp only [Value.slice.injEq] at e
            obtain ⟨-, -, rfl⟩ := e
            exact ⟨h1, h2⟩
           subst hv8
           have HC8 := Lib.hid hc8
           have HG8 := Lib.hid hg8w
           clear ho8 hg8 hb8 hc8 hg8w
           go_wp2
           go_roundw
           case rel => exact ⟨p9, v, sx :: T, g8, c8, by go_num, rfl, HG8.out, HC8.out.1, HC8.out.2, HNP.out, by rw [List.length_cons, ← HTL.out]; omega, by rw [← HTX.out, ← HSX.out]; simp, HB8.out, HO8.out⟩
           case measure => simp [intOf]; omega
          ·have ha1 : a9 = 0 := by omega
           have hz0 : z = [] := by
            have h := HSTC.out.nst.first
            rw [ha1, h] at hNa
            cases hNa
            rfl
           have hTE : T = txtsOf LL u := by
            rw [← hTX, hz0]
            rfl
           have HBF : Hid (Below w.heap.size w w7) := HBW.out.trans ((HBZ.out.trans (hb7.mono (by have := HBZ.out.size; have := HBB.out; omega))).mono (by have := HBW.out.size; have := HBB.out; omega))
           have HOF : Hid (OwnStrs w.heap.size w7 (.slice (some ⟨gT, 0, none⟩) TL cT) (txtsOf LL u)) := by
            unfold Hid OwnStrs
            rw [← hTE, ← hTL]
            exact own_lower hoT (Nat.le_trans HBW.out.size HBZ.out.size)
           have HTF : Hid ((txtsOf LL u).length ≤ 2000) := by unfold Hid; rw [← hTE]; have := HIM.out; omega
           have HRW : Hid (OwnStrs w.heap.size w7 (.slice ra9 R.length rc9) R) := OwnStrs.lower (HRVZ.out.below hb7) (by have := HBW.out.size; have := HBB.out; omega)
           have HFARZ : Hid (Far (.slice (some ⟨gT, 0, none⟩) TL cT) (.slice ra9 R.length rc9)) := Far.symm (Far.later HRVZ.out hoT (Nat.le_refl _))
           clear hNa hTX hb7 hoT hTL hz0 hTE
           go_wp2
           ((try simp only [Exit.inBlock, Exit.then]); refine bodyPost_ret (results_tmp4 rfl _ _ _) rfl ?_)
           exact ⟨true, true, _, _, rfl, HBF.out, .inr ⟨rfl, sa, sb, _, R, HOKA.out, HOKB.out, HRF.out, HTF.out, HOF.out, HRW.out, HFARZ.out⟩⟩)
       | false =>
        by_cases hkk : k < MO
        ·have hk2 : k < (offersS b T).length := by rw [← HMO.out]; exact hkk
         have hcov : R = [] ∧ ∀ j (h : j < (offersS b T).length), j < k → covB (offersS b T)[j] (offersS a S) = true := by
          rcases hof9 with ⟨-, h⟩ | ⟨h, -⟩
          ·exact h
          ·cases h
         have HCOV := Lib.hid hcov
         have hx9 := (HO8.out.at.below hb9)
         obtain ⟨b9, o9, c9, u9, hav9, hbw9, hcu9, hsu9⟩ := hx9.row hk2
         rw [← HMO.out] at hav9
         simp only [Value.slice.injEq, true_and] at hav9
         obtain ⟨rfl, rfl⟩ := hav9
         have HSU9 := Lib.hid hsu9
         have hcv := l18Covered_any W6.heap.size _ u9 (.slice la7 LN7 lc7) (offersS b T)[k] (offersS a S) w9 hsu9 ((HO78.out.at).below hb9) HLSL.out HLSE.out
         obtain ⟨cb9, hcb9⟩ : ∃ cb9, cb9 = covB (offersS b T)[k] (offersS a S) := ⟨_, rfl⟩
         rw [← hcb9] at hcv
         have HCV := Lib.hid hcv
         have HCB9 := Lib.hid hcb9
         have HCU9 := Lib.hid hcu9
         clear hb9 hrv9 hof9 hcov hx9 hsu9 hcv hcb9
         go_wp2_with fail
         refine Calls.mono HCV.out ?_
         rintro e w10 ⟨rfl, hb10⟩
         have HB10 : Hid (Below w8.heap.size w8 w10) := HB9.out.trans (hb10.mono hs9)
         have HRV10 := Lib.hid (HRV9.out.below hb10)
         have cu10 := keeps hb10 hbw9 hcu9
         have HSU10 := Lib.hid (HSU9.out.below hb10)
         have hs10 : w8.heap.size ≤ w10.heap.size := HB10.out.size
         clear hb10 hcu9 HCV
         cases cb9 with
         | true =>
          have HNX : Hid (OfSt a b S T LL (k + 1) false R) := by
           refine .inl ⟨rfl, HCOV.out.1, fun j h hj => ?_⟩
           by_cases e : j = k
           ·subst e; exact HCB9.out.symm
           ·exact HCOV.out.2 j h (by omega)
          clear cu10
          go_wp2
          go_roundw
          case rel => exact ⟨k + 1, false, R, by go_num, rfl, by omega, HB10.out, HRV10.out, HNX.out⟩
          case measure => simp [intOf]; omega
         | false =>
          have hex := exc_at HVA.out HVB.out (S := S) (T := T) (fun x hx => (HIN2.out x hx).1) hk2 HCOV.out.2 HCB9.out.symm
          have HNX : Hid (OfSt a b S T LL (k + 1) true (lackL (LL.drop 1) (offersS b T)[k])) := .inr ⟨rfl, hex.1, hex.2 _⟩
          have HLS9 := Lib.hid (l18Less_any B _ (.slice (some ⟨gl, 0, none⟩) NL cl) u9 LL (offersS b T)[k] w10 (HOL8.out.below HB10.out) HSU10.out (by rw [← HNL.out]; exact hNL1) (by rw [← HNL.out]; omega))
          clear hex
          go_wp2_with fail
          refine Calls.mono HLS9.out ?_
          rintro e w11 ⟨v11, rfl, hb11, ho11⟩
          have HB11 : Hid (Below w8.heap.size w8 w11) := HB10.out.trans (hb11.mono hs10)
          have HRV11 : Hid (OwnStrs B w11 v11 (lackL (LL.drop 1) (offersS b T)[k])) := OwnStrs.lower ho11 (by omega)
          clear hb11 ho11 cu10 HLS9
          go_wp2
          go_roundw
          case rel => exact ⟨k + 1, true, _, by go_num, rfl, by omega, HB11.out, HRV11.out, HNX.out⟩
          case measure => simp [intOf]; omega
        ·have hkE : k = MO := by omega
         have HGOOD : Hid (¬ badP a b sa sb (difS (dSys a sa) (dSys b sb) (bothL a b) u)) := by
          unfold Hid
          rw [← HPP2.out, HBP.out]
          have hcov : ∀ j (h : j < (offersS b T).length), j < k → covB (offersS b T)[j] (offersS a S) = true := by
           rcases hof9 with ⟨-, -, h⟩ | ⟨h, -⟩
           ·exact h
           ·cases h
          exact exc_no HVA.out HVB.out (fun x hx => (HIN2.out x hx).1) fun j h => hcov j h (by rw [hkE, HMO.out]; exact h)
         have HBC9 : Hid (Below B W4 w9) := HB84.out.trans (hb9.mono hB8)
         have HODC : Hid (OwnD B w9 (.slice (some ⟨gA, 0, none⟩) M cA) (.slice (some ⟨gB, 0, none⟩) M cB) (.slice (some ⟨gC, 0, none⟩) M cC) (.slice (some ⟨gD, 0, none⟩) M cD) ls rs bs ys) := (HOD6.out.below HB8.out).below hb9
         have HOLC9 : Hid (w9.ownsRow B 9 1 (.slice (some ⟨gl, 0, none⟩) NL cl) NL (LL.map .string)) := owns_below (owns_below HOL6.out HB8.out) hb9
         clear hb9 hrv9 hof9 HB9 HRV9 HOF9 hkE
         go_wp2
         go_loopw [15, 16, 17, 18, 27] (fun v15 v16 v17 v18 v27 wr => ∃ (j k : Nat) (N : List (List Nat)) (bs : List Int) (ys : List ByteArray), v27 = .int .i64 j ∧ j = k + 1 ∧ j ≤ NL ∧ RSt a b sa sb N i k ∧ N[i]? = some u ∧ BackOk LL N bs ys ∧ Below B W4 wr ∧ (wr.ownsRow B 9 1 (.slice (some ⟨gl, 0, none⟩) NL cl) NL (LL.map .string) ∧ v18.ownBlock ≠ some gl) ∧ OwnD B wr v15 v16 v17 v18 (N.map fun u => (difS (dSys a sa) (dSys b sb) LL u).1) (N.map fun u => (difS (dSys a sa) (dSys b sb) LL u).2) bs ys) (fun _ _ _ _ v27 _ => 2000 - (intOf v27).toNat)
         case atStart => exact ⟨1, 0, N, bs, ys, by go_num, rfl, hNL1, HSTC.out, HU.out, HBK.out, HBC9.out, ⟨HOLC9.out, by have := HNE6.out; simpa [Value.ownBlock] using this⟩, by have := HODC.out; rw [HLS.out, HRS.out] at this; exact this⟩
         case round =>
          clear HODC HOLC9 HBC9 HOD6 HOL6 HB6 HO7 HO78 HO8 HRV6 HRV8 HOL8 HOD HLS HRS HLSM HRSM HBSM HYSM HM HSTC HBK HBL hN16 hlt hiN hBC HOLC HMO hMO40 HCA1 HCB1 HGW hs6 HNE6
          obtain ⟨j, k, N, bs, ys, rfl, hjk, hkN, hst, hu2, hbk, hbl, hbl4, hod⟩ := hrel
          obtain ⟨wD, rfl⟩ : ∃ wD : World, wD = wr := ⟨_, rfl⟩
          have HSTC := Lib.hid hst
          have HBK := Lib.hid hbk
          have HBL := Lib.hid hbl
          have hN16 : N.length ≤ 1681 := hst.few HX.out HY.out
          have hBC : B ≤ wD.heap.size := by have := hbl.size; have := HBB.out; omega
          have HOLC := Lib.hid hbl4
          have hiN : i < N.length := (List.getElem?_eq_some_iff.1 hu2).1
          have HU2 := Lib.hid hu2
          by_cases hkL : j < NL
          ·have hjL : j < LL.length := by rw [← HNL.out]; exact hkL
           obtain ⟨M, hM⟩ : ∃ M, M = N.length := ⟨_, rfl⟩
           obtain ⟨ls, hls⟩ : ∃ ls, ls = N.map fun u => (difS (dSys a sa) (dSys b sb) LL u).1 := ⟨_, rfl⟩
           obtain ⟨rs, hrs⟩ : ∃ rs, rs = N.map fun u => (difS (dSys a sa) (dSys b sb) LL u).2 := ⟨_, rfl⟩
           have hlsM : ls.length = M := by rw [hls, List.length_map, hM]
           have hrsM : rs.length = M := by rw [hrs, List.length_map, hM]
           have hbsM : bs.length = M := by rw [hbk.1, hM]
           have hysM : ys.length = M := by rw [hbk.2.1, hM]
           rw [← hls, ← hrs] at hod
           rw [← hM] at hN16 hiN
           have hM0 : 0 < M := by omega
           obtain ⟨gA, cA, rfl, hgA, hgAw⟩ := own_some hod.left (by omega)
           obtain ⟨gB, cB, rfl, hgB, hgBw⟩ := own_some hod.right (by omega)
           obtain ⟨gC, cC, rfl, hgC, hgCw⟩ := own_some hod.before (by omega)
           obtain ⟨gD, cD, rfl, hgD, hgDw⟩ := own_some hod.by_ (by omega)
           rw [hlsM, hrsM, hbsM, hysM] at hod ⊢
           rw [hysM] at hbl4 HOLC
           have hl1 := hod.left
           have hr1 := hod.right
           rw [hlsM] at hl1
           rw [hrsM] at hr1
           have cA1 := cell_num hl1 hiN
           have cB1 := cell_num hr1 hiN
           rw [hls, (word_at hu2).1] at cA1
           rw [hrs, (word_at hu2).2] at cB1
           have cl0 := hbl4.1.cellAt j (by omega)
           rw [List.getElem?_map, List.getElem?_eq_getElem hjL, Option.map_some] at cl0
           obtain ⟨l, hl⟩ : ∃ l, l = labK LL k := ⟨_, rfl⟩
           have hlk : LL[j] = l := by
            rw [hl]; unfold labK
            rw [← hjk, List.getD_eq_getElem?_getD, List.getElem?_eq_getElem hjL, Option.getD_some]
           rw [hlk] at cl0
           obtain ⟨p1, hp1⟩ : ∃ p1, p1 = (difS (dSys a sa) (dSys b sb) LL u).1 := ⟨_, rfl⟩
           obtain ⟨p2', hp2⟩ : ∃ p2', p2' = (difS (dSys a sa) (dSys b sb) LL u).2 := ⟨_, rfl⟩
           rw [← hp1] at cA1
           rw [← hp2] at cB1
           obtain ⟨X, hXX⟩ : ∃ X, X = goTo (dSys a sa) p1 l := ⟨_, rfl⟩
           obtain ⟨Y, hYY⟩ : ∃ Y, Y = goTo (dSys b sb) p2' l := ⟨_, rfl⟩
           have HDS : Hid (difS (dSys a sa) (dSys b sb) LL (k :: u) = (X, Y)) := by
            unfold Hid
            rw [difS_cons, ← hp1, ← hp2, ← hl, ← hXX, ← hYY]
           have HBWD : Hid (∀ w', Below wD.heap.size wD w' → Below W4.heap.size W4 w') := fun w' hb => by
            have h := hbl
            rw [HBB.out] at h
            exact h.trans (hb.mono h.size)
           have HGX : Hid (∀ w', Below wD.heap.size wD w' → Calls Tryz.prog 72 #[.pointer (some ⟨p2, 0, none⟩), .int .i64 p1, .string l] w' fun e w'' => e = .returned (.int .i64 X) ∧ Below w'.heap.size w' w'') := fun w' hb => by
            rw [hXX]; exact l12Go_any p2 w.heap.size (dSys a sa) p1 l w' HX.out.edge (HPX.out.below (HBWD.out _ hb))
           have HGY : Hid (∀ w', Below wD.heap.size wD w' → Calls Tryz.prog 72 #[.pointer (some ⟨p4, 0, none⟩), .int .i64 p2', .string l] w' fun e w'' => e = .returned (.int .i64 Y) ∧ Below w'.heap.size w' w'') := fun w' hb => by
            rw [hYY]; exact l12Go_any p4 w.heap.size (dSys b sb) p2' l w' HY.out.edge (HPY.out.below (HBWD.out _ hb))
           have hgLw : gl < wD.heap.size := (hbl4.1.lt gl rfl).2
           have HOD := Lib.hid hod
           have HLS := Lib.hid hls
           have HRS := Lib.hid hrs
           have HLSM := Lib.hid hlsM
           have HRSM := Lib.hid hrsM
           have HBSM := Lib.hid hbsM
           have HYSM := Lib.hid hysM
           have HM := Lib.hid hM
           have HLK : Hid (l = labK LL k) := hl
           have HJK := Lib.hid hjk
           have HKK : Hid (k < LL.length - 1) := by unfold Hid; omega
           have HCAA : Hid (wD.cell? ⟨gA, i, none⟩ = some (.int .i64 p1)) := cA1
           have HCL : Hid (wD.cell? ⟨gl, j, none⟩ = some (.string l)) := cl0
           have lB := later_cell hgBw cB1
           have lL := later_cell hgLw cl0
           clear hst hbk hbl hbl4 hod hu2 hls hrs hl1 hr1 cA1 cB1 cl0 hlk hl hp1 hp2 hXX hYY hM hlsM hrsM hbsM hysM hjL hjk
           go_wp2
           refine wp_region_later (by kernel_rfl) (by kernel_rfl) ?_
           repeat (go_big_quiet_step ((go_at_call 72; exact later_call (HGY.out _ (Later.h _)))))
           refine wpQuiet_nil ?_
           intro _ hw9
           obtain ⟨nl, hw8⟩ := hw9
           subst hw8
           obtain ⟨w5, hw5⟩ : ∃ w5, w5 = nl.w := ⟨_, rfl⟩
           have hb5 : Below wD.heap.size wD w5 := by rw [hw5]; exact nl.h
           rw [← hw5]
           have HB5 := Lib.hid hb5
           have hs5 := hb5.size
           clear lB lL
           have hOD5 := HOD.out.below hb5
           have hOL5 := owns_below HOLC.out.1 hb5
           have HOD5 := Lib.hid hOD5
           have HOL5 := Lib.hid hOL5
           have HBW5 : Hid (Below B W4 w5) := by unfold Hid; rw [HBB.out]; exact HBWD.out _ hb5
           have HNE5 : Hid (some gD ≠ some gl) := by unfold Hid; have := HOLC.out.2; simpa [Value.ownBlock] using this
           by_cases hY : Y < 0
           ·have HPS : Hid (RSt a b sa sb N i (k + 1)) := RSt.pass HLL.out HSTC.out HGOOD.out HU2.out HDS.out (.inl hY)
            clear hw5 hb5 hOD5 hOL5
            clear nl
            go_wp2
            go_roundw
            case rel => exact ⟨j + 1, k + 1, N, bs, ys, by go_num, by have := HJK.out; omega, by omega, HPS.out, HU2.out, HBK.out, HBW5.out, ⟨HOL5.out, by have := HNE5.out; simpa [Value.ownBlock] using this⟩, by have := HOD5.out; rw [HLS.out, HRS.out] at this; exact this⟩
            case measure => simp [intOf]; omega
           ·have lA := later_cell (Nat.lt_of_lt_of_le hgAw hs5) (keeps hb5 hgAw HCAA.out)
            have lL5 := later_cell (Nat.lt_of_lt_of_le hgLw hs5) (keeps hb5 hgLw HCL.out)
            clear hw5 hb5 hOD5 hOL5
            clear nl
            go_wp2
            refine wp_region_later (by kernel_rfl) (by kernel_rfl) ?_
            repeat (go_big_quiet_step ((go_at_call 72; exact later_call (HGX.out _ (HB5.out.trans ((Later.h _).mono hs5))))))
            refine wpQuiet_nil ?_
            intro _ hw9
            obtain ⟨nl, hw8⟩ := hw9
            subst hw8
            obtain ⟨w6, hw6⟩ : ∃ w6, w6 = nl.w := ⟨_, rfl⟩
            have hb6 : Below wD.heap.size wD w6 := by rw [hw6]; exact HB5.out.trans (nl.h.mono hs5)
            rw [← hw6]
            have HB6 := Lib.hid hb6
            have hs6 := hb6.size
            have HOD6 := Lib.hid (HOD.out.below hb6)
            have HOL6 : Hid (w6.ownsRow B 9 1 (.slice (some ⟨gl, 0, none⟩) NL cl) NL (LL.map .string)) := owns_below HOLC.out.1 hb6
            have HCL6 : Hid (w6.cell? ⟨gl, j, none⟩ = some (.string l)) := keeps hb6 hgLw HCL.out
            have HBW6 : Hid (Below B W4 w6) := by unfold Hid; rw [HBB.out]; exact HBWD.out _ hb6
            have HNE6 : Hid (some gD ≠ some gl) := HNE5.out
            clear lA lL5 hw6 hb6
            clear nl
            have HYY : Hid (¬ Y < 0) := by unfold Hid; omega
            go_wp2
            go_loop [30, 31] (fun v30 v31 => ∃ m : Nat, m ≤ M ∧ v31 = .int .i64 m ∧ v30 = .bool (hitTo ls rs X Y m)) (fun _ v31 => M - (intOf v31).toNat)
            case atStart => exact ⟨0, Nat.zero_le _, rfl, by rw [hitTo_zero]⟩
            case round =>
             obtain ⟨m, hm, rfl, rfl⟩ := hrel
             by_cases hmM : m < M
             ·have hl1 := HOD6.out.left
              rw [HLSM.out] at hl1
              have hr1 := HOD6.out.right
              rw [HRSM.out] at hr1
              have cm := cell_num hl1 hmM
              have dm := cell_num hr1 hmM
              have HS := Lib.hid (hitTo_succ (X := X) (Y := Y) (show m < ls.length by rw [HLSM.out]; exact hmM) (show m < rs.length by rw [HRSM.out]; exact hmM))
              obtain ⟨a, ha⟩ : ∃ a, a = ls.getD m 0 := ⟨_, rfl⟩
              obtain ⟨b, hb⟩ : ∃ b, b = rs.getD m 0 := ⟨_, rfl⟩
              rw [← ha] at cm HS
              rw [← hb] at dm HS
              clear hl1 hr1 ha hb
              cases hh : hitTo ls rs X Y m with
              | true =>
               rw [hh] at HS
               go_wp2
               go_round
               case rel => exact ⟨m + 1, by omega, by go_num, by rw [HS.out]; rfl⟩
               case measure => simp [intOf]; omega
              | false =>
               rw [hh] at HS
               cases hxb : (a == X) with
               | false =>
                rw [hxb] at HS
                go_wp2
                go_round
                case rel => exact ⟨m + 1, by omega, by go_num, by rw [HS.out]; rfl⟩
                case measure => simp [intOf]; omega
               | true =>
                rw [hxb] at HS
                cases hyb : (b == Y) with
                | false =>
                 rw [hyb] at HS
                 go_wp2
                 go_round
                 case rel => exact ⟨m + 1, by omega, by go_num, by rw [HS.out]; rfl⟩
                 case measure => simp [intOf]; omega
                | true =>
                 rw [hyb] at HS
                 go_wp2
                 go_round
                 case rel => exact ⟨m + 1, by omega, by go_num, by rw [HS.out]; rfl⟩
                 case measure => simp [intOf]; omega
             ·have hmM2 : m = M := by omega
              cases hh : hitTo ls rs X Y m with
              | true =>
               have HPS : Hid (RSt a b sa sb N i (k + 1)) := by
                rw [hmM2, HM.out, HLS.out, HRS.out] at hh
                exact RSt.pass HLL.out HSTC.out HGOOD.out HU2.out HDS.out (.inr (hitTo_words.1 hh))
               clear hmM2
               go_wp2
               go_roundw
               case rel => exact ⟨j + 1, k + 1, N, bs, ys, by go_num, by have := HJK.out; omega, by omega, HPS.out, HU2.out, HBK.out, HBW6.out, ⟨HOL6.out, by have := HNE6.out; simpa [Value.ownBlock] using this⟩, by have := HOD6.out; rw [HLS.out, HRS.out] at this; exact this⟩
               case measure => simp [intOf]; omega
              | false =>
               have HMT : Hid (RSt a b sa sb (N ++ [k :: u]) i (k + 1)) := by
                rw [hmM2, HM.out, HLS.out, HRS.out] at hh
                exact RSt.meet HLL.out HSTC.out HGOOD.out HU2.out HKK.out HDS.out (by have := HYY.out; omega) (fun h => by rw [hitTo_words.2 h] at hh; cases hh)
               have HBKN : Hid (BackOk LL (N ++ [k :: u]) (bs ++ [(i : Int)]) (ys ++ [l])) := by unfold Hid; rw [HLK.out]; exact HBK.out.push HU2.out
               have hB6 : B ≤ w6.heap.size := Nat.le_trans hBC hs6
               have HL1 : Hid ((w6.alloc (.cells #[.int .i64 X] 2)).ownsRow B 2 1 (.slice (some ⟨gA, 0, none⟩) M cA) M (ls.map (Value.int .i64))) := by
                have h := HOD6.out.left
                rw [HLSM.out] at h
                exact h.alloc _
               clear hmM2
               go_wp2_with (at_builtin; refine wpList_append_own_at _ rfl _ _ 83 rfl B 2 i1 (.int .i64 0) 1 8 Tryz.underlying83 hi1 hz10 hz11 hz12 rfl (by decide) _ M _ rfl HL1.out ⟨w6.heap.size, 0, none⟩ 1 1 [.int .i64 X] rfl rfl (World.news_of_block (cs := #[.int .i64 X]) (t := 2) (fr := (0, 0)) (heap_alloc_new _ _)) ?k2 ?k3 ?k4 ?k5 ?_)
               case k2 => first | (intro u hu; simp at hu; subst hu; rfl) | rfl
               case k3 => first | (simp [maxLen]; omega) | omega
               case k4 => omega
               case k5 => first | omega | (simp; omega)
               intro v7 w7 ho7 hg7 _ ha7
               have HB7 : Hid (Below B W4 w7) := (HBW6.out.alloc (by have := HBB.out; omega) _).grown hg7 (by simp; omega) (fun b e => (HL1.out.lt b e).1)
               have HOD7 : Hid (OwnD B w7 v7 (.slice (some ⟨gB, 0, none⟩) M cB) (.slice (some ⟨gC, 0, none⟩) M cC) (.slice (some ⟨gD, 0, none⟩) M cD) (ls ++ [X]) rs bs ys) := HOD6.out.pushL hg7 (by rw [HLSM.out]; exact ho7) (by simpa using ha7)
               have HOL7 : Hid (w7.ownsRow B 9 1 (.slice (some ⟨gl, 0, none⟩) NL cl) NL (LL.map .string)) := (HOL6.out.alloc _).kept hg7 (own_types (HOL6.out.alloc _) HL1.out (by decide))
               have hs7 : w6.heap.size ≤ w7.heap.size := by have := hg7.size; simp at this; omega
               obtain ⟨a7, c7, rfl, -, -⟩ := owns_slice ho7
               clear ho7 hg7 ha7 HL1
               have HL2 : Hid ((w7.alloc (.cells #[.int .i64 Y] 2)).ownsRow B 2 1 (.slice (some ⟨gB, 0, none⟩) M cB) M (rs.map (Value.int .i64))) := by
                have h := HOD7.out.right
                rw [HRSM.out] at h
                exact h.alloc _
               go_wp2_with (at_builtin; refine wpList_append_own_at _ rfl _ _ 83 rfl B 2 i1 (.int .i64 0) 1 8 Tryz.underlying83 hi1 hz10 hz11 hz12 rfl (by decide) _ M _ rfl HL2.out ⟨w7.heap.size, 0, none⟩ 1 1 [.int .i64 Y] rfl rfl (World.news_of_block (cs := #[.int .i64 Y]) (t := 2) (fr := (0, 0)) (heap_alloc_new _ _)) ?k2 ?k3 ?k4 ?k5 ?_)
               case k2 => first | (intro u hu; simp at hu; subst hu; rfl) | rfl
               case k3 => first | (simp [maxLen]; omega) | omega
               case k4 => omega
               case k5 => first | omega | (simp; omega)
               intro v8 w8 ho8 hg8 _ ha8
               have HB8 : Hid (Below B W4 w8) := (HB7.out.alloc (by have := HBB.out; omega) _).grown hg8 (by simp; omega) (fun b e => (HL2.out.lt b e).1)
               have HOD8 : Hid (OwnD B w8 (.slice a7 (M + 1) c7) v8 (.slice (some ⟨gC, 0, none⟩) M cC) (.slice (some ⟨gD, 0, none⟩) M cD) (ls ++ [X]) (rs ++ [Y]) bs ys) := HOD7.out.pushR hg8 (by rw [HRSM.out]; exact ho8) (by simpa using ha8)
               have HOL8 : Hid (w8.ownsRow B 9 1 (.slice (some ⟨gl, 0, none⟩) NL cl) NL (LL.map .string)) := (HOL7.out.alloc _).kept hg8 (own_types (HOL7.out.alloc _) HL2.out (by decide))
               have hs8 : w7.heap.size ≤ w8.heap.size := by have := hg8.size; simp at this; omega
               obtain ⟨a8, c8, rfl, -, -⟩ := owns_slice ho8
               clear ho8 hg8 ha8 HL2 HOD7 HOL7 HB7
               have HL3 : Hid ((w8.alloc (.cells #[.int .i64 i] 3)).ownsRow B 3 1 (.slice (some ⟨gC, 0, none⟩) M cC) M (bs.map (Value.int .i64))) := by
                have h := HOD8.out.before
                rw [HBSM.out] at h
                exact h.alloc _
               go_wp2_with (at_builtin; refine wpList_append_own_at _ rfl _ _ 138 rfl B 3 iw2 (.int .i64 0) 1 8 Tryz.underlying138 hi2 hz20 hz21 hz22 rfl (by decide) _ M _ rfl HL3.out ⟨w8.heap.size, 0, none⟩ 1 1 [.int .i64 i] rfl rfl (World.news_of_block (cs := #[.int .i64 i]) (t := 3) (fr := (0, 0)) (heap_alloc_new _ _)) ?k2 ?k3 ?k4 ?k5 ?_)
               case k2 => first | (intro u hu; simp at hu; subst hu; rfl) | rfl
               case k3 => first | (simp [maxLen]; omega) | omega
               case k4 => omega
               case k5 => first | omega | (simp; omega)
               intro v9 w9 ho9 hg9 _ ha9
               have HB9 : Hid (Below B W4 w9) := (HB8.out.alloc (by have := HBB.out; omega) _).grown hg9 (by simp; omega) (fun b e => (HL3.out.lt b e).1)
               have HOD9 : Hid (OwnD B w9 (.slice a7 (M + 1) c7) (.slice a8 (M + 1) c8) v9 (.slice (some ⟨gD, 0, none⟩) M cD) (ls ++ [X]) (rs ++ [Y]) (bs ++ [(i : Int)]) ys) := HOD8.out.pushB hg9 (by rw [HBSM.out]; exact ho9)
               have HOL9 : Hid (w9.ownsRow B 9 1 (.slice (some ⟨gl, 0, none⟩) NL cl) NL (LL.map .string)) := (HOL8.out.alloc _).kept hg9 (own_types (HOL8.out.alloc _) HL3.out (by decide))
               have hs9 : w8.heap.size ≤ w9.heap.size := by have := hg9.size; simp at this; omega
               obtain ⟨a9, c9, rfl, -, -⟩ := owns_slice ho9
               have c99 : w9.cell? ⟨gl, j, none⟩ = some (.string l) := by
                have h1 := HOL9.out.cellAt j (by omega)
                have h2 := HOL6.out.cellAt j (by omega)
                rw [h1, ← h2]
                exact HCL6.out
               clear ho9 hg9 ha9 HL3 HOD8 HOL8 HB8
               have HL4 : Hid ((w9.alloc (.cells #[.string l] 9)).ownsRow B 9 1 (.slice (some ⟨gD, 0, none⟩) M cD) M (ys.map .string)) := by
                have h := HOD9.out.by_
                rw [HYSM.out] at h
                exact h.alloc _
               go_wp2_with (at_builtin; refine wpList_append_own_at _ rfl _ _ 22 rfl B 9 i3 (.string ⟨#[]⟩) 1 16 Tryz.underlying22 hi3 hz30 hz31 hz32 rfl (by decide) _ M _ rfl HL4.out ⟨w9.heap.size, 0, none⟩ 1 1 [.string l] rfl rfl (World.news_of_block (cs := #[.string l]) (t := 9) (fr := (0, 0)) (heap_alloc_new _ _)) ?k2 ?k3 ?k4 ?k5 ?_)
               case k2 => first | (intro u hu; simp at hu; subst hu; rfl) | rfl
               case k3 => first | (simp [maxLen]; omega) | omega
               case k4 => omega
               case k5 => first | omega | (simp; omega)
               intro v10 w10 ho10 hg10 _ ha10
               have HB10 : Hid (Below B W4 w10) := (HB9.out.alloc (by have := HBB.out; omega) _).grown hg10 (by simp; omega) (fun b e => (HL4.out.lt b e).1)
               have HOD10 : Hid (OwnD B w10 (.slice a7 (M + 1) c7) (.slice a8 (M + 1) c8) (.slice a9 (M + 1) c9) v10 (ls ++ [X]) (rs ++ [Y]) (bs ++ [(i : Int)]) (ys ++ [l])) := HOD9.out.pushY hg10 (by rw [HYSM.out]; exact ho10)
               have HOL10 : Hid (w10.ownsRow B 9 1 (.slice (some ⟨gl, 0, none⟩) NL cl) NL (LL.map .string)) := (HOL9.out.alloc _).kept hg10 (.inr fun e => HNE6.out e.symm)
               have HNE10 : Hid (v10.ownBlock ≠ some gl) := by
                unfold Hid
                rcases (show v10.ownBlock = some gD ∨ v10.ownBlock = some (w9.heap.size + 1) by simpa [Value.ownBlock] using ha10) with h | h <;> rw [h]
                ·exact HNE6.out
                ·have := (HOL9.out.lt gl rfl).2
                 simp
                 omega
               obtain ⟨a10, c10, rfl, -, -⟩ := owns_slice ho10
               have HE1 : Hid ((N ++ [k :: u]).map (fun u => (difS (dSys a sa) (dSys b sb) LL u).1) = ls ++ [X]) := by unfold Hid; rw [List.map_append, ← HLS.out, List.map_singleton, HDS.out]
               have HE2 : Hid ((N ++ [k :: u]).map (fun u => (difS (dSys a sa) (dSys b sb) LL u).2) = rs ++ [Y]) := by unfold Hid; rw [List.map_append, ← HRS.out, List.map_singleton, HDS.out]
               have HUN : Hid ((N ++ [k :: u])[i]? = some u) := by unfold Hid; rw [List.getElem?_append_left (by rw [← HM.out]; exact hiN)]; exact HU2.out
               clear ho10 hg10 ha10 HL4 HOD9 HOL9 HB9 c99
               go_wp2
               go_roundw
               case rel => exact ⟨j + 1, k + 1, N ++ [k :: u], bs ++ [(i : Int)], ys ++ [l], by go_num, by have := HJK.out; omega, by omega, HMT.out, HUN.out, HBKN.out, HB10.out, ⟨HOL10.out, HNE10.out⟩, by rw [HE1.out, HE2.out]; exact HOD10.out⟩
               case measure => simp [intOf]; omega
          ·have hk2 : k = NL - 1 := by omega
           have HNX : Hid (RSt a b sa sb N (i + 1) 0) := HSTC.out.next (by rw [hk2, HNL.out, HLL.out]) fun v hv => by
            rw [HU2.out] at hv
            cases hv
            exact HGOOD.out
           have HOD := Lib.hid hod
           clear hst hu2 hbk hbl hbl4 hod
           go_wp2
           go_roundw
           case rel => exact ⟨i + 1, N, bs, ys, by go_num, hiN, HNX.out, HBK.out, HBL.out, HOLC.out, HOD.out⟩
           case measure => simp [intOf]; omega
    ·have HNO : Hid (NoWord ((0 : Int), (0 : Int)) (goBoth (dSys a sa) (dSys b sb) (bothL a b)) ((bothL a b).length - 1) (badP a b sa sb)) := HSTC.out.none (by omega)
     have HBF : Hid (Below w.heap.size w wC) := HBW.out.trans (hbl.mono (by have := HBW.out.size; have := HBB.out; omega))
     obtain ⟨la, lc, rfl, -, -⟩ := owns_slice hod.left
     rw [List.length_map]
     clear hst hbk hbl hbl4 hod
     go_wp2
     ((try simp only [Exit.inBlock, Exit.then]); refine bodyPost_ret (results_tmp4 rfl _ _ _) rfl ?_)
     exact ⟨true, false, _, _, rfl, HBF.out, .inr ⟨rfl, sa, sb, [], [], HOKA.out, HOKB.out, .inl ⟨HNO.out, rfl, rfl, rfl⟩, Nat.zero_le _, ⟨rfl, .inl ⟨rfl, rfl⟩⟩, ⟨rfl, .inl ⟨rfl, rfl⟩⟩, Far.none _⟩⟩

end Go.Proofs.YtpoleaekcjjedaaGreatDoor
