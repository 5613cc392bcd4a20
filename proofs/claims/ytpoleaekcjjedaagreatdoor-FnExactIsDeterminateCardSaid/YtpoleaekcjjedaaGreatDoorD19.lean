/-
  What the implementation's determinize computes: the same as the reference's l12Sets.
  The implementation's compareTraces, IncludesTraces.
  What the reference's step by a label computes.
  The reference's l11Join: the set of all labels.
-/
import Derived.Test.YtpoleaekcjjedaaGreatDoorD17
import Derived.Test.YtpoleaekcjjedaaGreatDoorD18
import Derived.Test.YtpoleaekcjjedaaGreatDoorD15
import Derived.Test.YtpoleaekcjjedaaGreatDoorD10
import Derived.Test.YtpoleaekcjjedaaGreatDoorD14
import Derived.Test.YtpoleaekcjjedaaGreatDoorD5
import Derived.Test.YtpoleaekcjjedaaGreatDoorD2
import Derived.Test.YtpoleaekcjjedaaGreatDoorD7
namespace Go.Proofs.YtpoleaekcjjedaaGreatDoor
open Go Go.RowKit

theorem deter_results {w : World} {b : Nat} {v0 v1 v2 v3 : Value} {tmps : Array Value} (hc : tmps.getD 2 undef = .pointer (some ⟨b, 0, none⟩)) (hb : Blk w b [v0, v1, v2, v3] 31) :
    (results Tryz.f80 tmps).run Tryz.prog w = .ok (.tuple #[.agg #[v0, v1, v2, v3], tmps.getD 3 undef, tmps.getD 4 undef]) w := by
  have h0 := hb.cell 0 rfl
  have h1 := hb.cell 1 rfl
  have h2 := hb.cell 2 rfl
  have h3 := hb.cell 3 rfl
  simp only [Array.getD_eq_getD_getElem?] at hc
  simp [results, Tryz.results80, go_sem, hc, h0, h1, h2, h3, Result.andThen]

/-- lts over the labels of the system gives the net's edges back. -/
theorem lts_back {lo2 : Nat} {t : Lts} {st : DNet} {lv av : Value} {w : World} (hv : Valid t) (hG : DGood t st) (hu : Up st.edges) (hs : DSmall st) (hl : SrcS w lv t.labels) (ha : SliceK 3 encC lo2 w av (arcsOf t st)) :
    Calls Tryz.prog 142 #[.int .i64 st.rows.length, .int .i64 0, lv, av] w (RetLts st.rows.length 0 t.labels st.edges w) := by
  have h := lts_any lo2 st.rows.length 0 t.labels (arcsOf t st) lv av w hl ha (by have := hv.labels.most; omega) (by unfold arcsOf; rw [List.length_map]; have := hs.2; omega) t.labels (all_used hv.labels)
    (fun a ha => used_mem hG _ (List.mem_map.2 ⟨a, ha, rfl⟩)) (by rw [edge_back hv hG]; exact rise_up hu)
  rw [edge_back hv hG] at h
  exact h

set_option maxRecDepth 100000 in
set_option maxHeartbeats 4000000 in
theorem determinize_any (lo : Nat) (t : Lts) (lv ev : Value) (w : World) (hv : Valid t) (hsh : Short20 t.labels) (hl : SliceK 1 encS lo w lv t.labels) (he : SliceK 3 encE lo w ev t.edges) (g : Glob w) :
    Calls Tryz.prog 80 #[.agg #[.int .i64 t.states, .int .i64 t.initial, lv, ev]] w (RetSets t w) := by
  have HV := Lib.hid hv
  have HSH := Lib.hid hsh
  obtain ⟨tb, htb⟩ : ∃ tb, tb = w.heap.size := ⟨_, rfl⟩
  obtain ⟨wA, hwA⟩ : ∃ wA, wA = (w.alloc (.cells #[.int .i64 t.states, .int .i64 t.initial, lv, ev] 31)).alloc (.cells #[.int .i64 0, .int .i64 0, .slice none 0 0, .slice none 0 0] 31) := ⟨_, rfl⟩
  have hbA : Below w.heap.size w wA := by rw [hwA]; exact ((Below.refl _ _).alloc (Nat.le_refl _) _).alloc (by simp) _
  have hsA : wA.heap.size = tb + 1 + 1 := by rw [hwA, htb]; simp
  have hT : Blk wA tb [.int .i64 t.states, .int .i64 t.initial, lv, ev] 31 := by rw [hwA, htb]; exact (Blk.new w _ _).alloc _
  have hR : Blk wA (tb + 1) [.int .i64 0, .int .i64 0, .slice none 0 0, .slice none 0 0] 31 := by
    have := Blk.new (w.alloc (.cells #[.int .i64 t.states, .int .i64 t.initial, lv, ev] 31)) [.int .i64 0, .int .i64 0, .slice none 0 0, .slice none 0 0] 31
    rw [World.size_alloc, ← htb] at this
    rw [hwA]
    exact this
  obtain ⟨w1, hw1⟩ : ∃ w1, w1 = wA.alloc (.cells #[.int .i64 t.initial] 2) := ⟨_, rfl⟩
  have hb1 : Below wA.heap.size wA w1 := by rw [hw1]; exact (Below.refl _ _).alloc (Nat.le_refl _) _
  have hS : SliceK 1 encI 0 w1 (.slice (some ⟨tb + 1 + 1, 0, none⟩) 1 1) [t.initial] := by
    have := World.ownsRow_lit (base := 0) (e := 2) (size := 1) wA #[.int .i64 t.initial] 1 (Nat.zero_le _) (by decide) (by simp)
    rw [hsA] at this
    rw [hw1]
    exact SliceK.of_owns (e := 2) encI_len rfl (by rw [flat_encI]; simpa using this)
  have hIN := internal_any lo 0 t lv ev _ [t.initial] w1 hv ((hl.below hbA).below hb1) ((he.below hbA).below hb1) hS (fun x hx => by rw [List.mem_singleton] at hx; subst hx; exact ⟨hv.in0, hv.in1⟩) (by simp)
  rw [firstS_eq] at hIN
  have HIN := Lib.hid hIN
  have HL := Lib.hid (hl.below hbA)
  have HE := Lib.hid (he.below hbA)
  have HG := Lib.hid (g.below hbA)
  have HBA := Lib.hid hbA
  have HB1 := Lib.hid hb1
  have HT := Lib.hid hT
  have HR := Lib.hid hR
  have HWA := Lib.hid hwA
  have HW1 := Lib.hid hw1
  have HSA := Lib.hid hsA
  have HTB := Lib.hid htb
  have hsW : w.heap.size ≤ wA.heap.size := hbA.size
  clear hv hsh hl he g hwA hbA hsA hT hR hw1 hb1 hS hIN htb
  go_enter Tryz.func80, Tryz.ntmps80
  go_wp2_with fail
  rw [← HWA.out, ← HW1.out, ← HTB.out]
  refine Calls.mono HIN.out ?_
  rintro e2 w2 ⟨fv, rfl, hb2, ho2⟩
  have HB2 := Lib.hid (HB1.out.trans (hb2.mono HB1.out.size))
  have HO2 := Lib.hid (own_lower ho2 HB1.out.size)
  obtain ⟨fa, fc, rfl, -, -⟩ := owns_slice ho2
  have HEX := Lib.hid (explored_any wA.heap.size tb lo t lv ev _ wA w2 HV.out rfl HB2.out HO2.out HL.out HE.out HT.out HG.out HSH.out)
  clear hb2 ho2 HIN
  go_wp2_with fail
  refine Calls.mono HEX.out ?_
  rintro e3 w3 ⟨hb3, ⟨hfull, a, b, a1, n1, c1, a2, n2, c2, v, rfl⟩ | ⟨st, lvS, evS, sv, hok, hG, hu, rfl, hol, hoe, vs, hiv⟩⟩
  · have HF := Lib.hid hfull
    have HB3 := Lib.hid hb3
    have HR3 := Lib.hid (HR.out.belowB hb3 (by rw [HSA.out]; omega))
    obtain ⟨W3, hW3⟩ : ∃ W3, W3 = w3.alloc (.cells #[.int .i64 a, .int .i64 b, .slice a1 n1 c1, .slice a2 n2 c2] 31) := ⟨_, rfl⟩
    have HR4 : Hid (Blk W3 (tb + 1) [.int .i64 0, .int .i64 0, .slice none 0 0, .slice none 0 0] 31) := by unfold Hid; rw [hW3]; exact HR3.out.alloc _
    have HB4 : Hid (Below wA.heap.size wA W3) := by unfold Hid; rw [hW3]; exact hb3.alloc hb3.size _
    have HW3 := Lib.hid hW3
    have r0 := HR4.out.cell 0 rfl
    have r1 := HR4.out.cell 1 rfl
    have r2 := HR4.out.cell 2 rfl
    have r3 := HR4.out.cell 3 rfl
    have s0 := HR4.out.frozen 0
    have s1 := HR4.out.frozen 1
    have s2 := HR4.out.frozen 2
    have s3 := HR4.out.frozen 3
    rw [hW3] at r0 r1 r2 r3 s0 s1 s2 s3
    clear hfull hb3 HEX hW3
    go_wp2
    rw [← HW3.out]
    refine bodyPost_ret (deter_results rfl ((((HR4.out.set 0 _).set 1 _).set 2 _).set 3 _)) rfl ?_
    have hle : w.heap.size ≤ tb + 1 := by rw [HTB.out]; omega
    exact ⟨((((HBA.out.trans (HB4.out.mono hsW)).setCell hle _).setCell hle _).setCell hle _).setCell hle _, .inl ⟨HF.out, rfl⟩⟩
  · have HOK := Lib.hid hok
    have HGD := Lib.hid hG
    have HU := Lib.hid hu
    have hs := hok.2
    have HSM := Lib.hid hs
    have HB3 := Lib.hid hb3
    have HR3 := Lib.hid (HR.out.belowB hb3 (by rw [HSA.out]; omega))
    have HT3 := Lib.hid (HT.out.belowB hb3 (by rw [HSA.out]; omega))
    obtain ⟨la, lc, rfl, -, -⟩ := owns_slice hol
    obtain ⟨ea, ec, rfl, -, -⟩ := owns_slice hoe
    obtain ⟨sa, sc, rfl, -, -⟩ := owns_slice hiv.2.1
    obtain ⟨R, hRR⟩ : ∃ R, R = st.rows.length := ⟨_, rfl⟩
    obtain ⟨LS, hLS⟩ : ∃ LS, LS = (sysOf t st).labels.length := ⟨_, rfl⟩
    obtain ⟨ES, hES⟩ : ∃ ES, ES = (sysOf t st).edges.length := ⟨_, rfl⟩
    have SKL : SliceK 1 encS wA.heap.size w3 (.slice la (sysOf t st).labels.length lc) (sysOf t st).labels := SliceK.of_owns (enc := encS) (e := 9) encS_len rfl (by rw [flat_encS]; exact hol)
    have SKE : SliceK 3 encE wA.heap.size w3 (.slice ea (sysOf t st).edges.length ec) (sysOf t st).edges := SliceK.of_owns (enc := encE) (e := 135) encE_len rfl hoe
    rw [← hLS] at SKL
    rw [← hES] at SKE
    rw [← hRR, ← hLS, ← hES]
    obtain ⟨W3, hW3⟩ : ∃ W3, W3 = w3.alloc (.cells #[.int .i64 R, .int .i64 0, .slice la LS lc, .slice ea ES ec] 31) := ⟨_, rfl⟩
    have hb4 : Below w3.heap.size w3 W3.drew := by rw [hW3]; exact ((Below.refl _ _).alloc (Nat.le_refl _) _).drew
    obtain ⟨b5, hb5⟩ : ∃ b5, b5 = w3.heap.size := ⟨_, rfl⟩
    have hX : Blk W3.drew b5 [.int .i64 R, .int .i64 0, .slice la LS lc, .slice ea ES ec] 31 := by rw [hW3, hb5]; exact Blk.new w3 _ _
    have HX := Lib.hid hX
    have HT4 := Lib.hid (HT3.out.below hb4)
    have HR4 := Lib.hid (HR3.out.below hb4)
    have HIV4 := Lib.hid (hiv.below hb4)
    have HB4 := Lib.hid (HB3.out.trans (hb4.mono HB3.out.size))
    have hAR := arcs_any wA.heap.size (sysOf t st) (.slice la LS lc) (.slice ea ES ec) W3.drew (sys_edge HV.out hG) (by have := hs.2; simp [sysOf, arcsOf]; omega)
      (SKL.below hb4) (SKE.below hb4)
    rw [sys_arcs HV.out hG, show (sysOf t st).states = (R : Int) from by rw [hRR]; rfl, show (sysOf t st).initial = 0 from rfl] at hAR
    have HAR := Lib.hid hAR
    have hsB : wA.heap.size ≤ W3.drew.heap.size := HB4.out.size
    have hbA4 : Below wA.heap.size wA W3.drew := HB4.out
    have HSL := Lib.hid (SrcS.of_slice (HL.out.below hbA4) HV.out.labels.pos)
    have HLB : Hid (∀ w' av, SrcS w' lv t.labels → SliceK 3 encC W3.drew.heap.size w' av (arcsOf t st) → Calls Tryz.prog 142 #[.int .i64 R, .int .i64 0, lv, av] w' (RetLts R 0 t.labels st.edges w')) := fun w' av h1 h2 => by
      have := lts_back HV.out HGD.out HU.out HSM.out h1 h2
      rw [← hRR] at this
      exact this
    have hx0 := hX.cell 0 rfl
    have hx1 := hX.cell 1 rfl
    have hx2 := hX.cell 2 rfl
    have hx3 := hX.cell 3 rfl
    have ht2 := HT4.out.cell 2 rfl
    have hy0 : W3.cell? ⟨b5, 0, none⟩ = some (.int .i64 R) := hx0
    have hy1 : W3.cell? ⟨b5, 1, none⟩ = some (.int .i64 0) := hx1
    have hy2 : W3.cell? ⟨b5, 2, none⟩ = some (.slice la LS lc) := hx2
    have hy3 : W3.cell? ⟨b5, 3, none⟩ = some (.slice ea ES ec) := hx3
    have ht2' : W3.cell? ⟨tb, 2, none⟩ = some lv := ht2
    have hxl := hX.lt
    have htl := HT4.out.lt
    have hrl := HR4.out.lt
    have hnb : b5 ≠ tb + 1 := by have := HB3.out.size; rw [HSA.out] at this; omega
    have hnt : tb ≠ tb + 1 := by omega
    have HW3 := Lib.hid hW3
    have HB5 := Lib.hid hb5
    have HRR := Lib.hid hRR
    clear hok hG hu hs hb3 hol hoe hiv hLS hES hW3 hb4 hX hAR HEX hb5 hRR hbA4 SKL SKE
    go_wp2_with fail
    rw [← HW3.out, ← HB5.out]
    go_region_held3 (fun w' => w'.cell? ⟨b5, 0, none⟩ = some (.int .i64 R) ∧ w'.cell? ⟨b5, 1, none⟩ = some (.int .i64 0) ∧ w'.cell? ⟨b5, 2, none⟩ = some (.slice la LS lc) ∧ w'.cell? ⟨b5, 3, none⟩ = some (.slice ea ES ec) ∧ w'.cell? ⟨tb, 2, none⟩ = some lv)
      (first
        | (refine ⟨?_, ?_, ?_, ?_, ?_⟩ <;> with_reducible assumption)
        | (refine ⟨?_, ?_, ?_, ?_, ?_⟩ <;> (rw [World.cell?_setCell_far _ _ _ _ (by first | exact fun e => hnb e.symm | exact fun e => hnt e.symm), World.cell?_setCell_far _ _ _ _ (by first | exact fun e => hnb e.symm | exact fun e => hnt e.symm), World.cell?_setCell_far _ _ _ _ (by first | exact fun e => hnb e.symm | exact fun e => hnt e.symm), World.cell?_setCell_far _ _ _ _ (by first | exact fun e => hnb e.symm | exact fun e => hnt e.symm)]; with_reducible assumption))
        | go_keep)
      (first
        | (go_at_call 152; refine Calls.mono HAR.out ?_; rintro e wV ⟨av, rfl, hbV, hoV⟩; have c0 := keeps hbV hxl hx0; have c1 := keeps hbV hxl hx1; have c2 := keeps hbV hxl hx2; have c3 := keeps hbV hxl hx3; have c4 := keeps hbV htl ht2; have HBV := Lib.hid hbV; have HOV := Lib.hid hoV)
        | (go_at_call 142; refine Calls.mono (HLB.out _ _ (HSL.out.below HBV.out) (SliceK.of_owns (enc := encC) encC_len rfl HOV.out)) ?_; rintro e wL ⟨lv2, ev2, he2, hbL, hlL, heL⟩; obtain ⟨la2, lc2, rfl, -, -⟩ := owns_slice hlL; obtain ⟨ea2, ec2, rfl, -, -⟩ := owns_slice heL; subst he2; have hbL2 := HBV.out.trans (hbL.mono HBV.out.size); have d0 := keeps hbL2 hxl hx0; have d1 := keeps hbL2 hxl hx1; have d2 := keeps hbL2 hxl hx2; have d3 := keeps hbL2 hxl hx3; have d4 := keeps hbL2 htl ht2; have HBL := Lib.hid hbL2; have HRL := Lib.hid (HR4.out.below hbL2); have r0 := HRL.out.cell 0 rfl; have r1 := HRL.out.cell 1 rfl; have r2 := HRL.out.cell 2 rfl; have r3 := HRL.out.cell 3 rfl; have s0 := HRL.out.frozen 0; have s1 := HRL.out.frozen 1; have s2 := HRL.out.frozen 2; have s3 := HRL.out.frozen 3; have HSV := Lib.hid HBV.out.size; have HLL := Lib.hid hlL; have HEL := Lib.hid heL))
    all_goals (
      have hle : w.heap.size ≤ tb + 1 := by rw [HTB.out]; omega
      have hle3 : w.heap.size ≤ wV.heap.size := Nat.le_trans hsW (Nat.le_trans hsB HSV.out)
      have hall := HBA.out.trans ((HB4.out.trans (HBL.out.mono hsB)).mono hsW)
      have HALL := Lib.hid hall
      have HIV5 := Lib.hid ((HIV4.out.below HBL.out).lower hsW)
      have HLL2 := Lib.hid (own_lower HLL.out hle3)
      have HEL2 := Lib.hid (own_lower HEL.out hle3)
      clear hall hle3 HLL HEL
      go_wp2
      refine bodyPost_ret (deter_results rfl ((((HRL.out.set 0 _).set 1 _).set 2 _).set 3 _)) rfl ?_
      refine ⟨(((HALL.out.setCell hle _).setCell hle _).setCell hle _).setCell hle _, .inr ⟨st, _, _, _, HOK.out, by rw [← HRR.out]; rfl, ⟨⟨vs, ?_⟩, ?_⟩, ?_⟩⟩
      · have := (((HIV5.out.set1 HRL.out (by decide) (by decide) 0 (.int .i64 R)).set1 (HRL.out.set 0 _) (by decide) (by decide) 1 (.int .i64 0)).set1 ((HRL.out.set 0 _).set 1 _) (by decide) (by decide) 2 (.slice la2 t.labels.length lc2)).set1 (((HRL.out.set 0 _).set 1 _).set 2 _) (by decide) (by decide) 3 (.slice ea2 st.edges.length ec2)
        exact this
      · exact own4 HRL.out HEL2.out (by decide)
      · exact own4 HRL.out HLL2.out (by decide))

end Go.Proofs.YtpoleaekcjjedaaGreatDoor

namespace Go.Proofs.YtpoleaekcjjedaaGreatDoor
open Go Go.RowKit

def askF (both : Bool) (p : Int × Int) : Prop := p.1 < 0 ∨ (both = true ∧ p.2 < 0)
theorem liveF_apart (both : Bool) (p : Int × Int) : liveF (askF both) p ↔ apart both p := by
  unfold liveF askF apart deadB
  cases both
  · simp only [Bool.false_eq_true, false_and, or_false]; omega
  · simp only [true_and]; omega
theorem cmp_of_first {a b : Lts} {both r : Bool} {xs : List ByteArray} {sa sb : DNet} (hva : Valid a) (hvb : Valid b) (ha : DOk a sa) (hb : DOk b sb) (h : FirstIs (dSys a sa) (dSys b sb) (bothL (dSys a sa) (dSys b sb)) (askF both) r xs) : CmpOk a b both (!r) xs 0 := by
  refine ⟨.inr (.inr ⟨⟨hva, hvb⟩, sa, sb, ha, hb, rfl, ?_⟩), h.1⟩
  rcases h.2 with ⟨h1, rfl, rfl⟩ | ⟨u, h1, rfl, rfl⟩
  · exact .inl ⟨h1.congr fun v _ => liveF_apart both _, rfl, rfl⟩
  · exact .inr ⟨u, h1.congr fun v _ => liveF_apart both _, rfl, rfl⟩
theorem setsI_any (lo : Nat) (t : Lts) (lv ev : Value) (w : World) (hv : Valid t) (hsh : Short20 t.labels) (hl : SliceK 1 encS lo w lv t.labels) (he : SliceK 3 encE lo w ev t.edges) (g : Glob w) :
    Calls Tryz.prog 80 #[.agg #[.int .i64 t.states, .int .i64 t.initial, lv, ev]] w fun e w' => Below w.heap.size w w' ∧ ∃ (n0 : Int) (s2 : Option Addr) (m2 k2 : Nat) (s3 : Option Addr) (m3 k3 : Nat) (vr : Value) (ok : Bool),
      e = .returned (.tuple #[.agg #[.int .i64 n0, .int .i64 0, .slice s2 m2 k2, .slice s3 m3 k3], vr, .bool ok]) ∧ SetsOf w.heap.size w' t ok n0 (.slice s2 m2 k2) (.slice s3 m3 k3) := by
  refine (determinize_any lo t lv ev w hv hsh hl he g).mono ?_
  rintro e w' ⟨hb, ⟨hf, rfl⟩ | ⟨st, lv, vr, ve, hok, rfl, ⟨-, he⟩, hl⟩⟩
  · exact ⟨hb, _, _, _, _, _, _, _, _, false, rfl, .inl ⟨rfl, hf⟩⟩
  · obtain ⟨al, cl, rfl, -, -⟩ := owns_slice hl
    obtain ⟨ae, ce, rfl, -, -⟩ := owns_slice he
    exact ⟨hb, _, _, _, _, _, _, _, _, true, rfl, .inr ⟨rfl, st, hok, rfl, hl, he⟩⟩

set_option maxRecDepth 100000 in
set_option maxHeartbeats 4000000 in
theorem compareTraces_any (lo : Nat) (a b : Lts) (la ea lb eb : Value) (both : Bool) (fid : Nat) (caps : Array Value) (w : World) (hsa : Short20 a.labels) (hsb : Short20 b.labels) (hal : SliceK 1 encS lo w la a.labels) (hae : SliceK 3 encE lo w ea a.edges)
    (hbl : SliceK 1 encS lo w lb b.labels) (hbe : SliceK 3 encE lo w eb b.edges) (g : Glob w) (eg : ∀ args w, (callFunc fid args).run Tryz.prog w = .ok (.enter fid args) w) (hF : ∀ x y w', Below w.heap.size w w' → Asks fid caps x y (askF both) w') :
    Calls Tryz.prog 57 #[.agg #[.int .i64 a.states, .int .i64 a.initial, la, ea], .agg #[.int .i64 b.states, .int .i64 b.initial, lb, eb], .func (.func fid) #[] caps] w (RetCmp a b both w) := by
  obtain ⟨p, hp⟩ : ∃ p, p = w.heap.size := ⟨_, rfl⟩
  obtain ⟨W, hW⟩ : ∃ W, W = (w.alloc (.cells #[.int .i64 a.states, .int .i64 a.initial, la, ea] 31)).alloc (.cells #[.int .i64 b.states, .int .i64 b.initial, lb, eb] 31) := ⟨_, rfl⟩
  have hB0 : Below w.heap.size w W := by rw [hW]; exact ((Below.refl _ _).alloc (Nat.le_refl _) _).alloc (by simp) _
  have hA : Blk W p [.int .i64 a.states, .int .i64 a.initial, la, ea] 31 := by rw [hW, hp]; exact (Blk.new w _ _).alloc _
  have hBb : Blk W (p + 1) [.int .i64 b.states, .int .i64 b.initial, lb, eb] 31 := by
    have := Blk.new (w.alloc (.cells #[.int .i64 a.states, .int .i64 a.initial, la, ea] 31)) [.int .i64 b.states, .int .i64 b.initial, lb, eb] 31
    rw [World.size_alloc, ← hp] at this
    rw [hW]
    exact this
  have HVA := Lib.hid (ValidLts_any lo a la ea W hsa (hal.below hB0) (hae.below hB0) (g.below hB0))
  have HVB := Lib.hid (fun w' (hb : Below W.heap.size W w') => ValidLts_any lo b lb eb w' hsb ((hbl.below hB0).below hb) ((hbe.below hB0).below hb) ((g.below hB0).below hb))
  have HDA := Lib.hid (fun w' (hb : Below W.heap.size W w') (hv : Valid a) => setsI_any lo a la ea w' hv hsa ((hal.below hB0).below hb) ((hae.below hB0).below hb) ((g.below hB0).below hb))
  have HDB := Lib.hid (fun w' (hb : Below W.heap.size W w') (hv : Valid b) => setsI_any lo b lb eb w' hv hsb ((hbl.below hB0).below hb) ((hbe.below hB0).below hb) ((g.below hB0).below hb))
  have HFF := Lib.hid hF
  have HA := Lib.hid hA
  have HB := Lib.hid hBb
  have HB0 := Lib.hid hB0
  have HW := Lib.hid hW
  have HP := Lib.hid hp
  clear hsa hsb hal hae hbl hbe g hF hA hBb hB0 hW hp
  by_cases hva : Valid a
  · have HV1 := Lib.hid hva
    by_cases hvb : Valid b
    · have HV2 := Lib.hid hvb
      clear hva hvb
      go_enter Tryz.func57, Tryz.ntmps57
      go_wp2_with fail
      rw [← HW.out]
      refine (Decides.yes HVA.out HV1.out).mono ?_
      rintro e w1 ⟨rfl, hb1⟩
      have HB1 := Lib.hid hb1
      have x0 := (HB.out.below hb1).cell 0 rfl
      have x1 := (HB.out.below hb1).cell 1 rfl
      have x2 := (HB.out.below hb1).cell 2 rfl
      have x3 := (HB.out.below hb1).cell 3 rfl
      rw [← HP.out]
      clear hb1 HVA
      go_wp2_with fail
      refine (Decides.yes (HVB.out _ HB1.out) HV2.out).mono ?_
      rintro e w2 ⟨rfl, hb2⟩
      have hd2 := HB1.out.trans (hb2.mono HB1.out.size)
      have HD2 := Lib.hid hd2
      clear x0 x1 x2 x3
      have x0 := (HA.out.below hd2).cell 0 rfl
      have x1 := (HA.out.below hd2).cell 1 rfl
      have x2 := (HA.out.below hd2).cell 2 rfl
      have x3 := (HA.out.below hd2).cell 3 rfl
      clear hb2 hd2 HVB HB1
      go_wp2_with fail
      refine Calls.mono (HDA.out _ HD2.out HV1.out) ?_
      rintro e w3 ⟨hb3, n0, s2, m2, k2, s3, m3, k3, vr, ok1, rfl, hsa⟩
      obtain ⟨w4, hw4⟩ : ∃ w4, w4 = w3.alloc (.cells #[.int .i64 n0, .int .i64 0, .slice s2 m2 k2, .slice s3 m3 k3] 31) := ⟨_, rfl⟩
      obtain ⟨p4, hp4⟩ : ∃ p4, p4 = w3.heap.size := ⟨_, rfl⟩
      have hb34 : Below w3.heap.size w3 w4 := by rw [hw4]; exact (Below.refl _ _).alloc (Nat.le_refl _) _
      have hd4 := HD2.out.trans ((hb3.trans (hb34.mono hb3.size)).mono HD2.out.size)
      have h4 : Blk w4 p4 [.int .i64 n0, .int .i64 0, .slice s2 m2 k2, .slice s3 m3 k3] 31 := by rw [hw4, hp4]; exact Blk.new w3 _ _
      have H4 := Lib.hid h4
      have HSA := Lib.hid ((hsa.below hb34).lower HD2.out.size)
      have HD4 := Lib.hid hd4
      have HW4 := Lib.hid hw4
      have HP4 := Lib.hid hp4
      clear x0 x1 x2 x3
      have x0 := (HB.out.below hd4).cell 0 rfl
      have x1 := (HB.out.below hd4).cell 1 rfl
      have x2 := (HB.out.below hd4).cell 2 rfl
      have x3 := (HB.out.below hd4).cell 3 rfl
      have hlt := (HB.out.below hd4).lt
      rw [HW4.out] at x0 x1 x2 x3
      clear hb3 hsa hw4 hp4 hb34 hd4 h4 HDA
      go_wp2_with fail
      rw [← HW4.out, ← HP4.out]
      refine Calls.mono (HDB.out _ HD4.out HV2.out) ?_
      rintro e w5 ⟨hb5, q0, t2, i2, j2, t3, i3, j3, vr2, ok2, rfl, hsb⟩
      obtain ⟨w6, hw6⟩ : ∃ w6, w6 = w5.alloc (.cells #[.int .i64 q0, .int .i64 0, .slice t2 i2 j2, .slice t3 i3 j3] 31) := ⟨_, rfl⟩
      obtain ⟨p6, hp6⟩ : ∃ p6, p6 = w5.heap.size := ⟨_, rfl⟩
      have hb56 : Below w5.heap.size w5 w6 := by rw [hw6]; exact (Below.refl _ _).alloc (Nat.le_refl _) _
      have hb46 := hb5.trans (hb56.mono hb5.size)
      have hd6 := HD4.out.trans (hb46.mono HD4.out.size)
      have h6 : Blk w6 p6 [.int .i64 q0, .int .i64 0, .slice t2 i2 j2, .slice t3 i3 j3] 31 := by rw [hw6, hp6]; exact Blk.new w5 _ _
      have h46 := H4.out.below hb46
      have H6 := Lib.hid h6
      have HSB := Lib.hid ((hsb.below hb56).lower HD4.out.size)
      have HSA6 := Lib.hid (HSA.out.below hb46)
      have HD6 := Lib.hid hd6
      have HW6 := Lib.hid hw6
      have HP6 := Lib.hid hp6
      have HBW := Lib.hid (HB0.out.trans (hd6.mono HB0.out.size))
      clear x0 x1 x2 x3 hlt
      cases ok1 with
      | false =>
        have HF : Hid (DFull a) := by
          rcases HSA6.out with ⟨-, h⟩ | ⟨h, -⟩
          · exact h
          · cases h
        clear hb5 hsb hw6 hp6 hb56 hb46 hd6 h6 h46 HDB
        go_wp2
        rw [← HW6.out]
        go_ret3
        exact cmp_none HBW.out (.inr (.inl ⟨⟨HV1.out, HV2.out⟩, .inl HF.out, rfl, rfl, rfl⟩))
      | true =>
        cases ok2 with
        | false =>
          have HF : Hid (DFull b) := by
            rcases HSB.out with ⟨-, h⟩ | ⟨h, -⟩
            · exact h
            · cases h
          clear hb5 hsb hw6 hp6 hb56 hb46 hd6 h6 h46 HDB
          go_wp2
          rw [← HW6.out]
          go_ret3
          exact cmp_none HBW.out (.inr (.inl ⟨⟨HV1.out, HV2.out⟩, .inr HF.out, rfl, rfl, rfl⟩))
        | true =>
          obtain ⟨sa, hoka, rfl, hoa⟩ : ∃ sa, DOk a sa ∧ n0 = (dSys a sa).states ∧ OwnLts W.heap.size w6 (.slice s2 m2 k2) (.slice s3 m3 k3) (dSys a sa) := by
            rcases HSA6.out with ⟨h, -⟩ | ⟨-, h⟩
            · cases h
            · obtain ⟨st, h1, h2, h3⟩ := h
              exact ⟨st, h1, h2, h3⟩
          obtain ⟨sb, hokb, rfl, hob⟩ : ∃ sb, DOk b sb ∧ q0 = (dSys b sb).states ∧ OwnLts W.heap.size w6 (.slice t2 i2 j2) (.slice t3 i3 j3) (dSys b sb) := by
            rcases HSB.out with ⟨h, -⟩ | ⟨-, h⟩
            · cases h
            · obtain ⟨st, h1, h2, h3⟩ := h
              exact ⟨st, h1, h2, h3⟩
          obtain ⟨f0, hf0⟩ : ∃ f0, f0 = (dSys a sa).states := ⟨_, rfl⟩
          obtain ⟨f1, hf1⟩ : ∃ f1, f1 = (dSys b sb).states := ⟨_, rfl⟩
          have LA : LtsIn W.heap.size w6 (.slice s2 m2 k2) (.slice s3 m3 k3) (dSys a sa) := ⟨SliceK.of_owns (e := 9) encS_len rfl (by rw [flat_encS]; exact hoa.1), SliceK.of_owns (e := 135) encE_len rfl hoa.2⟩
          have LB : LtsIn W.heap.size w6 (.slice t2 i2 j2) (.slice t3 i3 j3) (dSys b sb) := ⟨SliceK.of_owns (e := 9) encS_len rfl (by rw [flat_encS]; exact hob.1), SliceK.of_owns (e := 135) encE_len rfl hob.2⟩
          have HFI := Lib.hid (firstTrace_any W.heap.size (dSys a sa) (dSys b sb) (.slice s2 m2 k2) (.slice s3 m3 k3) (.slice t2 i2 j2) (.slice t3 i3 j3) fid caps (askF both) w6 (dSys_valid HV1.out hoka) (dSys_valid HV2.out hokb) (dSys_single HV1.out hoka) (dSys_single HV2.out hokb) rfl rfl LA LB eg (HFF.out _ _ _ HBW.out))
          rw [show (dSys a sa).initial = 0 from rfl, show (dSys b sb).initial = 0 from rfl] at HFI
          have HOA := Lib.hid hoka
          have HOB := Lib.hid hokb
          rw [← hf0] at h46 HFI ⊢
          rw [← hf1] at h6 HFI hw6 ⊢
          have HWF := Lib.hid hw6
          have y0 := h46.cell 0 rfl
          have y1 := h46.cell 1 rfl
          have y2 := h46.cell 2 rfl
          have y3 := h46.cell 3 rfl
          have z0 := h6.cell 0 rfl
          have z1 := h6.cell 1 rfl
          have z2 := h6.cell 2 rfl
          have z3 := h6.cell 3 rfl
          have hl4 := h46.lt
          have hl6 := h6.lt
          rw [hw6] at y0 y1 y2 y3 z0 z1 z2 z3 hl4 hl6
          rw [hp6] at z0 z1 z2 z3 hl6
          clear hb5 hsb hw6 hp6 hb56 hb46 hd6 h6 h46 HDB hoka hokb hoa hob LA LB hf0 hf1
          go_wp2_with fail
          rw [← HWF.out]
          refine Calls.mono HFI.out ?_
          rintro e w7 ⟨hb7, r, xs, v, rfl, hfi, hown⟩
          obtain ⟨av, cv, rfl, -, -⟩ := owns_slice hown
          have HB7 := Lib.hid (HBW.out.trans (hb7.mono HBW.out.size))
          have HO7 : Hid (OwnStrs w.heap.size w7 (.slice av xs.length cv) xs) := own_lower hown HBW.out.size
          have HFI7 := Lib.hid (cmp_of_first HV1.out HV2.out HOA.out HOB.out hfi)
          clear hb7 hfi hown y0 y1 y2 y3 z0 z1 z2 z3 hl4 hl6
          go_wp2
          go_ret3
          exact ⟨HB7.out, !r, xs, 0, _, rfl, HFI7.out, HO7.out⟩
    · have HV2 := Lib.hid hvb
      clear hva hvb
      go_enter Tryz.func57, Tryz.ntmps57
      go_wp2_with fail
      rw [← HW.out]
      refine (Decides.yes HVA.out HV1.out).mono ?_
      rintro e w1 ⟨rfl, hb1⟩
      have HB1 := Lib.hid hb1
      have x0 := (HB.out.below hb1).cell 0 rfl
      have x1 := (HB.out.below hb1).cell 1 rfl
      have x2 := (HB.out.below hb1).cell 2 rfl
      have x3 := (HB.out.below hb1).cell 3 rfl
      rw [← HP.out]
      clear hb1 HVA
      go_wp2_with fail
      refine (Decides.no (HVB.out _ HB1.out) HV2.out).mono ?_
      rintro e w2 ⟨rfl, hb2⟩
      have HD2 := Lib.hid (HB0.out.trans ((HB1.out.trans (hb2.mono HB1.out.size)).mono HB0.out.size))
      clear hb2 x0 x1 x2 x3
      go_wp2
      go_ret3
      exact cmp_none HD2.out (.inl ⟨fun h => HV2.out h.2, rfl, rfl, rfl⟩)
  · have HV1 := Lib.hid hva
    clear hva
    go_enter Tryz.func57, Tryz.ntmps57
    go_wp2_with fail
    rw [← HW.out]
    refine (Decides.no HVA.out HV1.out).mono ?_
    rintro e w1 ⟨rfl, hb1⟩
    have HD1 := Lib.hid (HB0.out.trans (hb1.mono HB0.out.size))
    clear hb1 HVA
    go_wp2
    go_ret3
    exact cmp_none HD1.out (.inl ⟨fun h => HV1.out h.1, rfl, rfl, rfl⟩)

set_option maxRecDepth 100000 in
theorem inclAsk (p q : Int) (w : World) : Calls Tryz.prog 58 #[.int .i64 p, .int .i64 q] w (Decides (p < 0) w) := by
  by_cases h : p < 0
  · go_enter Tryz.func58, Tryz.ntmps58
    go_wp2
    go_ret
    exact ⟨true, rfl, by simp [h], Below.refl _ _⟩
  · go_enter Tryz.func58, Tryz.ntmps58
    go_wp2
    go_ret
    exact ⟨false, rfl, by simp [h], Below.refl _ _⟩
set_option maxRecDepth 100000 in
theorem implIncludesTraces_any (lo : Nat) (a : Lts) (la ea : Value) (b : Lts) (lb eb : Value) (w : World) (hsa : Short20 a.labels) (hsb : Short20 b.labels) (hal : SliceK 1 encS lo w la a.labels) (hae : SliceK 3 encE lo w ea a.edges)
    (hbl : SliceK 1 encS lo w lb b.labels) (hbe : SliceK 3 encE lo w eb b.edges) (g : Glob w) :
    Calls Tryz.prog 17 #[.agg #[.int .i64 a.states, .int .i64 a.initial, la, ea], .agg #[.int .i64 b.states, .int .i64 b.initial, lb, eb]] w (RetCmp a b false w) := by
  obtain ⟨W, hW⟩ : ∃ W, W = (w.alloc (.cells #[.int .i64 a.states, .int .i64 a.initial, la, ea] 31)).alloc (.cells #[.int .i64 b.states, .int .i64 b.initial, lb, eb] 31) := ⟨_, rfl⟩
  have hB0 : Below w.heap.size w W := by rw [hW]; exact ((Below.refl _ _).alloc (Nat.le_refl _) _).alloc (by simp) _
  have HB0 := Lib.hid hB0
  have HW := Lib.hid hW
  have HC := Lib.hid (compareTraces_any lo a b la ea lb eb false 58 #[] W hsa hsb (hal.below hB0) (hae.below hB0) (hbl.below hB0) (hbe.below hB0) (g.below hB0) (fun args w => by kernel_rfl) (fun x y w' hb w2 hb2 p q h1 h2 h3 _ => by
    refine (inclAsk p q w2).mono ?_
    rintro e w3 ⟨r, he, hr, hb3⟩
    exact ⟨r, he, by simpa [askF] using hr, hb3⟩))
  clear hsa hsb hal hae hbl hbe g hB0 hW
  go_enter Tryz.func17, Tryz.ntmps17
  go_wp2_with fail
  rw [← HW.out]
  refine Calls.mono HC.out ?_
  rintro e w1 ⟨hb, r, xs, code, v, rfl, h1, h2⟩
  have H : Hid (Below w.heap.size w w1 ∧ _ ∧ OwnStrs w.heap.size w1 v xs) := And.intro (HB0.out.trans (hb.mono HB0.out.size)) (And.intro h1 (OwnStrs.lower h2 HB0.out.size))
  obtain ⟨av, cv, rfl, -, -⟩ := owns_slice h2
  clear hb h1 h2 HC
  go_wp2
  go_ret3
  exact ⟨H.out.1, r, xs, code, _, rfl, H.out.2.1, H.out.2.2⟩

end Go.Proofs.YtpoleaekcjjedaaGreatDoor

namespace Go.Proofs.YtpoleaekcjjedaaGreatDoor
open Go Go.RowKit

set_option maxRecDepth 100000 in
set_option maxHeartbeats 4000000 in
theorem l12Go_any (p lo : Nat) (t : Lts) (q : Int) (s : ByteArray) (w : World) (hE : ∀ i (h : i < t.edges.length), EdgeOk t t.edges[i]) (hp : LtsPtr lo w p t) :
    Calls Tryz.prog 72 #[.pointer (some ⟨p, 0, none⟩), .int .i64 q, .string s] w fun e w' => e = .returned (.int .i64 (goTo t q s)) ∧ Below w.heap.size w w' := by
  obtain ⟨lv, ev, hpl, -, -, q2, q3, hl, he⟩ := hp
  obtain ⟨ae, ce, rfl, hen, hec, hrow⟩ := he
  obtain ⟨al, cl, rfl, hln, hlc, hlrow⟩ := hl
  have HQ3 := Lib.hid q3
  have HQ2 := Lib.hid q2
  have HE := Lib.hid hE
  clear hE q2
  by_cases hq : q < 0
  · have hq' : decide (0 ≤ q) = false := by rw [decide_eq_false_iff_not]; omega
    have hg : Hid (goTo t q s = -1) := by unfold Hid goTo; rw [if_pos hq]
    by_cases h0 : 0 < t.edges.length
    · go_enter Tryz.func72, Tryz.ntmps72
      go_wp2
      go_loopw [7] (fun i wr => i = .int .i64 0 ∧ wr = w) (fun _ _ => 0)
      case atStart => exact ⟨rfl, rfl⟩
      case round =>
        obtain ⟨rfl, rfl⟩ := hrel
        go_wp2
        go_ret
        exact ⟨ret_int hg.out.symm, Below.refl _ _⟩
    · go_enter Tryz.func72, Tryz.ntmps72
      go_wp2
      go_loopw [7] (fun i wr => i = .int .i64 0 ∧ wr = w) (fun _ _ => 0)
      case atStart => exact ⟨rfl, rfl⟩
      case round =>
        obtain ⟨rfl, rfl⟩ := hrel
        go_wp2
        go_ret
        exact ⟨ret_int hg.out.symm, Below.refl _ _⟩
  · have hq0 : 0 ≤ q := by omega
    have hg : Hid (goTo t q s = ((t.edges.find? (hitB t q s)).map Edge.dst).getD (-1)) := by unfold Hid goTo; rw [if_neg hq]
    clear hq
    go_enter Tryz.func72, Tryz.ntmps72
    go_wp2
    clear q3
    go_loopw [7] (fun i wr => ∃ k : Nat, k ≤ t.edges.length ∧ i = .int .i64 k ∧ Below w.heap.size w wr ∧ ∀ j (h : j < t.edges.length), j < k → hitB t q s t.edges[j] = false) (fun i _ => t.edges.length - (intOf i).toNat)
    case atStart => exact ⟨0, Nat.zero_le _, rfl, Below.refl _ _, fun _ _ h => by omega⟩
    case round =>
      obtain ⟨k, hk, rfl, hbl, hx⟩ := hrel
      have HX := Lib.hid hx
      have HBL := Lib.hid hbl
      have hsz := hbl.size
      have q3 := keeps hbl hpl HQ3.out
      have q2 := keeps hbl hpl HQ2.out
      clear hx hbl
      by_cases hlt : k < t.edges.length
      · have hek := HE.out k hlt
        have hk0 := hek.l0
        have hk1 := hek.l1
        have hkn : t.edges[k].lab.toNat < t.labels.length := by omega
        obtain ⟨be, oe, rfl, -, hbe, e1, e2, e3⟩ := (hrow.below HBL.out).edge hlt
        obtain ⟨bl, ol, rfl, -, hbl, c1⟩ := (hlrow.below HBL.out).one hkn
        simp only [encS, List.getElem?_cons_zero] at c1
        rw [labAt_get] at c1
        have HH : Hid (hitB t q s t.edges[k] = ((t.edges[k].src == q) && ((labAt t t.edges[k]).toList == s.toList))) := rfl
        have hee : ∃ e, e = t.edges[k] := ⟨_, rfl⟩
        obtain ⟨e, hee⟩ := hee
        rw [← hee] at e1 e2 e3 c1 HH hk0 hk1 hkn
        have HEE := Lib.hid hee
        clear hee hek
        generalize labAt t e = ls at *
        have hlab : ∃ n : Nat, (n : Int) = e.lab := ⟨e.lab.toNat, by omega⟩
        obtain ⟨n, hn⟩ := hlab
        rw [← hn] at e2 c1 hk0 hk1 hkn
        simp only [Int.toNat_natCast] at c1 hkn
        clear hn hrow hlrow hk0 hk1
        have s2 := later_cell (show p < wr.heap.size by omega) q2
        have s3 := later_cell (show p < wr.heap.size by omega) q3
        have f3 := later_cell hbe e3
        replace e1 := later_cell hbe e1
        replace e2 := later_cell hbe e2
        replace c1 := later_cell hbl c1
        cases g1 : (e.src == q)
        · have HF : Hid (hitB t q s t.edges[k] = false) := by unfold Hid; rw [← HEE.out, HH.out, g1]; rfl
          go_wp2
          refine wp_region_later (by kernel_rfl) (by kernel_rfl) ?_
          repeat (go_big_quiet_step ((fail)))
          refine wpQuiet_nil ?_
          intro _ hw9
          obtain ⟨nl, hw8⟩ := hw9
          subst hw8
          clear e1 e2 e3 f3 c1 s2 g1
          have s3 := s3 nl
          go_wp2
          go_roundw
          case rel => exact ⟨k + 1, by omega, by go_num, HBL.out.trans (nl.h.mono hsz), fun j h h' => by
              by_cases e : j = k
              · subst e; exact HF.out
              · exact HX.out j h (by omega)⟩
          case measure => simp [intOf]; omega
        · cases g2 : (ls.toList == s.toList)
          · have HF : Hid (hitB t q s t.edges[k] = false) := by unfold Hid; rw [← HEE.out, HH.out, g1, g2]; rfl
            go_wp2
            refine wp_region_later (by kernel_rfl) (by kernel_rfl) ?_
            repeat (go_big_quiet_step ((fail)))
            refine wpQuiet_nil ?_
            intro _ hw9
            obtain ⟨nl, hw8⟩ := hw9
            subst hw8
            clear e1 e2 e3 f3 c1 s2 g1 g2
            have s3 := s3 nl
            go_wp2
            go_roundw
            case rel => exact ⟨k + 1, by omega, by go_num, HBL.out.trans (nl.h.mono hsz), fun j h h' => by
                by_cases e : j = k
                · subst e; exact HF.out
                · exact HX.out j h (by omega)⟩
            case measure => simp [intOf]; omega
          · have HF : Hid (goTo t q s = e.dst) := by
              unfold Hid
              have : hitB t q s t.edges[k] = true := by rw [← HEE.out, HH.out, g1, g2]; rfl
              rw [hg.out, find_at hlt HX.out this, ← HEE.out]; rfl
            go_wp2
            refine wp_region_later (by kernel_rfl) (by kernel_rfl) ?_
            repeat (go_big_quiet_step ((fail)))
            refine wpQuiet_nil ?_
            intro _ hw9
            obtain ⟨nl, hw8⟩ := hw9
            subst hw8
            clear e1 e2 e3 c1 s2 g1 g2
            have s3 := s3 nl
            have f3 := f3 nl
            go_wp2
            go_ret
            exact ⟨ret_int HF.out.symm, HBL.out.trans (nl.h.mono hsz)⟩
      · clear hrow hlrow
        go_wp2
        go_ret
        refine ⟨ret_int ?_, HBL.out⟩
        rw [hg.out, find_none (fun j h => HX.out j h (by omega))]; rfl

end Go.Proofs.YtpoleaekcjjedaaGreatDoor

namespace Go.Proofs.YtpoleaekcjjedaaGreatDoor
open Go Go.RowKit

theorem labSet_step (ls : List ByteArray) {i : Nat} (h : i < ls.length) : labSet (tauT :: ls.take (i + 1)) = labSet (tauT :: (ls.take i ++ [ls[i]])) := by rw [List.take_succ_eq_append_getElem h]

set_option maxRecDepth 100000 in
set_option maxHeartbeats 4000000 in
theorem l11Join_any (lo : Nat) (v : Value) (ls : List ByteArray) (w : World) (hv : SliceK 1 encS lo w v ls) (hn : ls.length ≤ 1000) :
    Calls Tryz.prog 112 #[v] w fun e w' => ∃ v', e = .returned v' ∧ Below w.heap.size w w' ∧ w'.ownsRow w.heap.size 9 1 v' (labSet (tauT :: ls)).length ((labSet (tauT :: ls)).map .string) := by
  obtain ⟨a, c, rfl, hc, hc2, hrow⟩ := hv
  have HR := Lib.hid hrow
  obtain ⟨N, hN⟩ : ∃ N, N = ls.length := ⟨_, rfl⟩
  rw [← hN] at hc hn ⊢
  have HN := Lib.hid hN
  obtain ⟨i0, hi, hz0, hz1, hz2⟩ := info_parts info_strJ
  obtain ⟨W, hW⟩ : ∃ W, W = w.alloc (.cells #[.string ⟨#[116, 97, 117]⟩] 9) := ⟨_, rfl⟩
  have HB0 : Hid (Below w.heap.size w W) := by unfold Hid; rw [hW]; exact (Below.refl _ _).alloc (Nat.le_refl _) _
  have HO0 : Hid (W.ownsRow w.heap.size 9 1 (.slice (some ⟨w.heap.size, 0, none⟩) 1 1) 1 ([tauT].map .string)) := by
    unfold Hid
    rw [hW]
    exact World.ownsRow_lit (base := w.heap.size) (e := 9) (size := 1) w #[.string ⟨#[116, 97, 117]⟩] 1 (Nat.le_refl _) (by decide) rfl
  have HW := Lib.hid hW
  clear hrow hN hW
  go_enter Tryz.func112, Tryz.ntmps112
  go_wp2
  rw [← HW.out]
  go_loopw [3, 4] (fun v3 v4 wr => ∃ (i : Nat) (L : List ByteArray), v4 = .int .i64 i ∧ i ≤ N ∧ L = labSet (tauT :: ls.take i) ∧ L.length ≤ i + 1 ∧ Below w.heap.size w wr ∧ wr.ownsRow w.heap.size 9 1 v3 L.length (L.map .string)) (fun _ v4 _ => N - (intOf v4).toNat)
  case atStart => exact ⟨0, [tauT], rfl, Nat.zero_le _, by rw [List.take_zero, tau_one], by simp, HB0.out, HO0.out⟩
  case round =>
    clear HB0 HO0
    obtain ⟨i, L, rfl, hiN, hL, hLl, hbl, ho⟩ := hrel
    obtain ⟨wC, rfl⟩ : ∃ wC : World, wC = wr := ⟨_, rfl⟩
    have HL := Lib.hid hL
    have HBL := Lib.hid hbl
    have HO := Lib.hid ho
    have hsz := hbl.size
    have HINO : Hid (InOrd L) := by unfold Hid; rw [hL]; exact InOrd.set _
    have hLpos := HINO.out.pos
    obtain ⟨oa, oc, rfl, -, -⟩ := owns_slice ho
    obtain ⟨M, hM⟩ : ∃ M, M = L.length := ⟨_, rfl⟩
    rw [← hM] at hLl hLpos ho HO ⊢
    have HM := Lib.hid hM
    by_cases hlt : i < N
    · have hil : i < ls.length := by rw [← HN.out]; exact hlt
      obtain ⟨b, o, rfl, -, hbw0, c00⟩ := HR.out.one hil
      simp only [encS, List.getElem?_cons_zero] at c00
      obtain ⟨x, hx⟩ : ∃ x, x = ls[i] := ⟨_, rfl⟩
      rw [← hx] at c00
      have hbw : b < wC.heap.size := Nat.lt_of_lt_of_le hbw0 hsz
      have c0 := keeps hbl hbw0 c00
      have HCL : Hid (∀ w', Below w.heap.size w w' → w'.cell? ⟨b, o + i, none⟩ = some (.string x)) := fun w' hb => keeps hb hbw0 c00
      clear c00
      have HST : Hid (labSet (tauT :: ls.take (i + 1)) = labSet (tauT :: (ls.take i ++ [x]))) := by unfold Hid; rw [hx]; exact labSet_step ls hil
      have HFI := Lib.hid (l11Find_any w.heap.size (.slice oa M oc) L x wC (SliceK.of_owns (enc := encS) (e := 9) encS_len HM.out (by rw [flat_encS]; exact ho)))
      obtain ⟨og, hog, hogB, hogw⟩ : ∃ og, oa = some ⟨og, 0, none⟩ ∧ w.heap.size ≤ og ∧ og < wC.heap.size := by
        rcases ho.2 with ⟨h, h0⟩ | ⟨g, cap, cur, h, h1, hg, -⟩
        · omega
        · simp only [Value.slice.injEq, true_and] at h
          exact ⟨g, h.1, h1, (Array.getElem?_eq_some_iff.1 hg).1⟩
      subst hog
      have HC0 := Lib.hid c0
      by_cases hneg : textAt L x < 0
      · have hno : ∀ y ∈ L, y.toList ≠ x.toList := by
          have h1 := textAt_neg.1 hneg
          rw [List.any_eq_false] at h1
          intro y hy e
          exact h1 y hy (by rw [e]; simp)
        have HNO := Lib.hid hno
        obtain ⟨tx, htx⟩ : ∃ tx, tx = textAt L x := ⟨_, rfl⟩
        rw [← htx] at HFI hneg
        clear hL hbl ho hM hx hno htx
        go_wp2_with fail
        refine Calls.mono HFI.out ?_
        rintro e w1 ⟨rfl, hb1⟩
        have HB1 := Lib.hid (HBL.out.trans (hb1.mono hsz))
        have HO1 := Lib.hid (owns_below HO.out hb1)
        have HC1 := Lib.hid (keeps hb1 hbw HC0.out)
        have hbw1 : b < w1.heap.size := Nat.lt_of_lt_of_le hbw hb1.size
        have hogw1 : og < w1.heap.size := Nat.lt_of_lt_of_le hogw hb1.size
        have hs1 : w.heap.size ≤ w1.heap.size := HB1.out.size
        clear hb1 c0 HC0
        go_wp2
        go_loopw [5] (fun v5 wr => ∃ k : Nat, v5 = .int .i64 k ∧ 1 ≤ k ∧ k ≤ M ∧ (∀ j (h : j < L.length), 1 ≤ j → j < k → strLess L[j] x = true) ∧ Below w1.heap.size w1 wr) (fun v5 _ => M - (intOf v5).toNat)
        case atStart => exact ⟨1, rfl, Nat.le_refl _, by omega, (fun j _ h1 h2 => by omega), Below.refl _ _⟩
        case round =>
          obtain ⟨k, rfl, hk1, hkM, hlo, hb2⟩ := hrel
          obtain ⟨w2, rfl⟩ : ∃ w2 : World, w2 = wr := ⟨_, rfl⟩
          have HLO := Lib.hid hlo
          have HB2 := Lib.hid hb2
          have HO2 := Lib.hid (owns_below HO1.out hb2)
          have c2 := keeps hb2 hbw1 HC1.out
          have hbw2 : b < w2.heap.size := Nat.lt_of_lt_of_le hbw1 hb2.size
          have hogw2 : og < w2.heap.size := Nat.lt_of_lt_of_le hogw1 hb2.size
          have hs2 : w.heap.size ≤ w2.heap.size := Nat.le_trans hs1 hb2.size
          have lc2 := later_cell hbw2 c2
          clear hlo hb2
          by_cases hgo : ∃ h : k < L.length, strLess L[k] x = true
          · obtain ⟨hkL, hs⟩ := hgo
            have hkl : k < M := by rw [HM.out]; exact hkL
            have ck := HO2.out.cellAt k (by omega)
            rw [List.getElem?_map, List.getElem?_eq_getElem hkL, Option.map_some] at ck
            have HLS : Hid (∀ j (h : j < L.length), 1 ≤ j → j < k + 1 → strLess L[j] x = true) := fun j h h1 h2 => by
              by_cases e : j = k
              · subst e; exact hs
              · exact HLO.out j h h1 (by omega)
            obtain ⟨y, hy⟩ : ∃ y, y = L[k] := ⟨_, rfl⟩
            rw [← hy] at ck hs
            have lck := later_cell hogw2 ck
            unfold strLess at hs
            clear hy ck c2
            go_wp2
            refine wp_region_later (by kernel_rfl) (by kernel_rfl) ?_
            repeat (go_big_quiet_step ((fail)))
            refine wpQuiet_nil ?_
            intro _ hw9
            obtain ⟨nl, hw8⟩ := hw9
            subst hw8
            have HB3 := Lib.hid (HB2.out.trans (nl.h.mono HB2.out.size))
            clear lc2 lck
            go_wp2
            go_roundw
            case rel => exact ⟨k + 1, by go_num, by omega, by omega, HLS.out, HB3.out⟩
            case measure => simp [intOf]; omega
          · have HHI : Hid (∀ h : k < L.length, strLess L[k] x = false) := fun h => by
              cases hs : strLess L[k] x with
              | false => rfl
              | true => exact absurd ⟨h, hs⟩ hgo
            have HPUT : Hid (L.take k ++ x :: L.drop k = labSet (tauT :: ls.take (i + 1))) := by unfold Hid; rw [HST.out]; exact InOrd.put HL.out HNO.out hk1 (by rw [← HM.out]; exact hkM) HLO.out HHI.out
            -- the walk from the search's end on, once
            have REST : ∀ (w3 : World), Below w2.heap.size w2 w3 → Below w.heap.size w w3 ∧ w3.ownsRow w.heap.size 9 1 (.slice (some ⟨og, 0, none⟩) M oc) M (L.map .string) ∧ w3.cell? ⟨b, o + i, none⟩ = some (.string x) := fun w3 hb3 => ⟨HB1.out.trans ((HB2.out.trans (hb3.mono HB2.out.size)).mono hs1), owns_below HO2.out hb3, keeps hb3 hbw2 c2⟩
            have HREST := Lib.hid REST
            clear REST hgo
            by_cases hkl : k < M
            · have hkL : k < L.length := by rw [← HM.out]; exact hkl
              have ck := HO2.out.cellAt k (by omega)
              rw [List.getElem?_map, List.getElem?_eq_getElem hkL, Option.map_some] at ck
              have hs := HHI.out hkL
              obtain ⟨y, hy⟩ : ∃ y, y = L[k] := ⟨_, rfl⟩
              rw [← hy] at ck hs
              have lck := later_cell hogw2 ck
              unfold strLess at hs
              clear hy ck c2
              go_wp2
              refine wp_region_later (by kernel_rfl) (by kernel_rfl) ?_
              repeat (go_big_quiet_step ((fail)))
              refine wpQuiet_nil ?_
              intro _ hw9
              obtain ⟨nl, hw8⟩ := hw9
              subst hw8
              have H3 := HREST.out nl.w nl.h
              obtain ⟨w3, hw3⟩ : ∃ w3, w3 = nl.w := ⟨_, rfl⟩
              rw [← hw3] at H3 ⊢
              clear hw3 lck lc2 hs
              obtain ⟨HB3, HO3, c3⟩ := H3
              replace HB3 := Lib.hid HB3
              replace HO3 := Lib.hid HO3
              replace c3 := Lib.hid c3
              have hs3 := HB3.out.size
              have hbw3 : b < w3.heap.size := World.block_lt_of_cell? _ _ c3.out
              go_wp2_with (at_builtin; refine wpList_append_own _ rfl _ _ 22 rfl w.heap.size 9 i0 (.string ⟨#[]⟩) 1 16 Tryz.underlying22 hi hz0 hz1 hz2 rfl (by decide) _ M _ rfl (HO3.out.alloc _) ⟨w3.heap.size, 0, none⟩ 1 1 [.string ⟨#[]⟩] rfl rfl ?d1 ?d2 ?d3 ?d4 ?d5 ?_)
              case d1 => exact World.news_of_block (cs := #[.string ⟨#[]⟩]) (t := 9) (fr := (0, 0)) (heap_alloc_new _ _)
              case d2 => intro u hu; simp at hu; subst hu; rfl
              case d3 => simp [maxLen]; omega
              case d4 => omega
              case d5 => simp; omega
              intro v4 w4 ho4 hg4 _
              have HB4 : Hid (Below w.heap.size w w4) := (HB3.out.alloc hs3 _).grown hg4 (by simp; omega) (fun b e => (HO3.out.lt b e).1)
              have HO4 : Hid (w4.ownsRow w.heap.size 9 1 v4 (M + 1) ((shiftAt L ⟨#[]⟩ M).map .string)) := by
                unfold Hid
                rw [HM.out, ← shiftAt_end, List.map_append, ← HM.out]
                exact ho4
              obtain ⟨g4, cap4, rfl⟩ : ∃ g4 cap4, v4 = .slice (some ⟨g4, 0, none⟩) (M + 1) cap4 := by
                rcases HO4.out.2 with ⟨h, h0⟩ | ⟨g, cap, cur, h, -⟩
                · omega
                · exact ⟨g, cap, h⟩
              clear ho4 hg4 HB3 HO3 c3 hs3 hbw3
              go_wp2
              go_loopw [6] (fun v6 wr => ∃ (m : Nat) (junk : ByteArray), v6 = .int .i64 m ∧ k ≤ m ∧ m ≤ M ∧ Below w.heap.size w wr ∧ wr.ownsRow w.heap.size 9 1 (.slice (some ⟨g4, 0, none⟩) (M + 1) cap4) (M + 1) ((shiftAt L junk m).map .string)) (fun v6 _ => (intOf v6).toNat)
              case atStart => exact ⟨M, ⟨#[]⟩, by go_num, hkM, Nat.le_refl _, HB4.out, HO4.out⟩
              case round =>
                clear HB4 HO4
                obtain ⟨m, junk, rfl, hkm, hmM, hb5, ho5⟩ := hrel
                obtain ⟨w5, rfl⟩ : ∃ w5 : World, w5 = wr := ⟨_, rfl⟩
                have HB5 := Lib.hid hb5
                have HO5 := Lib.hid ho5
                have hs5 := hb5.size
                have hbw5 : b < w5.heap.size := Nat.lt_of_lt_of_le hbw0 hs5
                have hgB : w.heap.size ≤ g4 := (ho5.lt g4 rfl).1
                by_cases hmk : k < m
                · have hm1 : 1 ≤ m := by omega
                  have hmL : m ≤ L.length := by rw [← HM.out]; exact hmM
                  have cg := ho5.cellAt (m - 1) (by omega)
                  rw [List.getElem?_map, shiftAt_get hm1 hmL, Option.map_some] at cg
                  obtain ⟨xc, ct⟩ := own_cell ho5 m (by omega)
                  have f5 := ho5.frozenAt m
                  have hst := ho5.stored m (.string (L[m - 1]'(by omega)))
                  rw [← List.map_set, shiftAt_set hm1 hmL] at hst
                  have HST := Lib.hid hst.1
                  obtain ⟨y, hy⟩ : ∃ y, y = L[m - 1]'(by omega) := ⟨_, rfl⟩
                  rw [← hy] at cg HST
                  obtain ⟨p, rfl⟩ : ∃ p, m = p + 1 := ⟨m - 1, by omega⟩
                  rw [Nat.add_sub_cancel] at cg HST
                  have hpi : ((p + 1 : Nat) : Int) = (p : Int) + 1 := by omega
                  rw [hpi]
                  clear hst hb5 ho5 hy hpi
                  go_wp2
                  go_roundw
                  case rel => exact ⟨p, y, by go_num, by omega, by omega, HB5.out.setCell hgB _, HST.out⟩
                  case measure => (first | (simp [intOf]; done) | (simp [intOf]; omega))
                · have hmk2 : m = k := by omega
                  subst hmk2
                  have ci := HCL.out w5 hb5
                  obtain ⟨xc, ct⟩ := own_cell ho5 m (by omega)
                  have f5 := ho5.frozenAt m
                  have hst := (ho5.stored m (.string x)).1
                  rw [← List.map_set, shiftAt_put (by rw [← HM.out]; exact hmM), HPUT.out] at hst
                  have hle : (labSet (tauT :: ls.take (i + 1))).length = M + 1 := by
                    have := hst.1
                    rw [List.length_map] at this
                    omega
                  have HST := Lib.hid hst
                  have HLE := Lib.hid hle
                  clear hst hb5 ho5 hle
                  go_wp2
                  go_roundw
                  case rel => exact ⟨i + 1, labSet (tauT :: ls.take (i + 1)), by go_num, by omega, rfl, by rw [HLE.out]; omega, HB5.out.setCell hgB _, by rw [HLE.out]; exact HST.out⟩
                  case measure => simp [intOf]; omega
            · have HKM : Hid (k = M) := by unfold Hid; omega
              clear c2
              go_wp2
              refine wp_region_later (by kernel_rfl) (by kernel_rfl) ?_
              repeat (go_big_quiet_step ((fail)))
              refine wpQuiet_nil ?_
              intro _ hw9
              obtain ⟨nl, hw8⟩ := hw9
              subst hw8
              have H3 := HREST.out nl.w nl.h
              obtain ⟨w3, hw3⟩ : ∃ w3, w3 = nl.w := ⟨_, rfl⟩
              rw [← hw3] at H3 ⊢
              clear hw3 lc2
              obtain ⟨HB3, HO3, c3⟩ := H3
              replace HB3 := Lib.hid HB3
              replace HO3 := Lib.hid HO3
              replace c3 := Lib.hid c3
              have hs3 := HB3.out.size
              have hbw3 : b < w3.heap.size := World.block_lt_of_cell? _ _ c3.out
              go_wp2_with (at_builtin; refine wpList_append_own _ rfl _ _ 22 rfl w.heap.size 9 i0 (.string ⟨#[]⟩) 1 16 Tryz.underlying22 hi hz0 hz1 hz2 rfl (by decide) _ M _ rfl (HO3.out.alloc _) ⟨w3.heap.size, 0, none⟩ 1 1 [.string ⟨#[]⟩] rfl rfl ?d1 ?d2 ?d3 ?d4 ?d5 ?_)
              case d1 => exact World.news_of_block (cs := #[.string ⟨#[]⟩]) (t := 9) (fr := (0, 0)) (heap_alloc_new _ _)
              case d2 => intro u hu; simp at hu; subst hu; rfl
              case d3 => simp [maxLen]; omega
              case d4 => omega
              case d5 => simp; omega
              intro v4 w4 ho4 hg4 _
              have HB4 : Hid (Below w.heap.size w w4) := (HB3.out.alloc hs3 _).grown hg4 (by simp; omega) (fun b e => (HO3.out.lt b e).1)
              have HO4 : Hid (w4.ownsRow w.heap.size 9 1 v4 (M + 1) ((shiftAt L ⟨#[]⟩ M).map .string)) := by
                unfold Hid
                rw [HM.out, ← shiftAt_end, List.map_append, ← HM.out]
                exact ho4
              obtain ⟨g4, cap4, rfl⟩ : ∃ g4 cap4, v4 = .slice (some ⟨g4, 0, none⟩) (M + 1) cap4 := by
                rcases HO4.out.2 with ⟨h, h0⟩ | ⟨g, cap, cur, h, -⟩
                · omega
                · exact ⟨g, cap, h⟩
              clear ho4 hg4 HB3 HO3 c3 hs3 hbw3
              go_wp2
              go_loopw [6] (fun v6 wr => ∃ (m : Nat) (junk : ByteArray), v6 = .int .i64 m ∧ k ≤ m ∧ m ≤ M ∧ Below w.heap.size w wr ∧ wr.ownsRow w.heap.size 9 1 (.slice (some ⟨g4, 0, none⟩) (M + 1) cap4) (M + 1) ((shiftAt L junk m).map .string)) (fun v6 _ => (intOf v6).toNat)
              case atStart => exact ⟨M, ⟨#[]⟩, by go_num, hkM, Nat.le_refl _, HB4.out, HO4.out⟩
              case round =>
                clear HB4 HO4
                obtain ⟨m, junk, rfl, hkm, hmM, hb5, ho5⟩ := hrel
                obtain ⟨w5, rfl⟩ : ∃ w5 : World, w5 = wr := ⟨_, rfl⟩
                have HB5 := Lib.hid hb5
                have HO5 := Lib.hid ho5
                have hs5 := hb5.size
                have hbw5 : b < w5.heap.size := Nat.lt_of_lt_of_le hbw0 hs5
                have hgB : w.heap.size ≤ g4 := (ho5.lt g4 rfl).1
                by_cases hmk : k < m
                · exfalso; have := HKM.out; omega
                · have hmk2 : m = k := by omega
                  subst hmk2
                  have ci := HCL.out w5 hb5
                  obtain ⟨xc, ct⟩ := own_cell ho5 m (by omega)
                  have f5 := ho5.frozenAt m
                  have hst := (ho5.stored m (.string x)).1
                  rw [← List.map_set, shiftAt_put (by rw [← HM.out]; exact hmM), HPUT.out] at hst
                  have hle : (labSet (tauT :: ls.take (i + 1))).length = M + 1 := by
                    have := hst.1
                    rw [List.length_map] at this
                    omega
                  have HST := Lib.hid hst
                  have HLE := Lib.hid hle
                  clear hst hb5 ho5 hle
                  go_wp2
                  go_roundw
                  case rel => exact ⟨i + 1, labSet (tauT :: ls.take (i + 1)), by go_num, by omega, rfl, by rw [HLE.out]; omega, HB5.out.setCell hgB _, by rw [HLE.out]; exact HST.out⟩
                  case measure => simp [intOf]; omega
      · obtain ⟨n, hn1, hn2, hn3⟩ := textAt_some hneg
        have hxL : x ∈ L := by
          have := toList_inj hn3
          rw [← this]
          exact List.getElem_mem _
        have HSA : Hid (L = labSet (tauT :: ls.take (i + 1))) := by unfold Hid; rw [HST.out]; exact InOrd.same HL.out hxL
        obtain ⟨tx, htx⟩ : ∃ tx, tx = textAt L x := ⟨_, rfl⟩
        rw [← htx] at HFI hneg
        clear hL hbl ho hM hx htx hn1 hn2 hn3 hxL
        go_wp2_with fail
        refine Calls.mono HFI.out ?_
        rintro e w1 ⟨rfl, hb1⟩
        have HB1 := Lib.hid (HBL.out.trans (hb1.mono hsz))
        have HO1 := Lib.hid (owns_below HO.out hb1)
        clear hb1 c0 HC0
        go_wp2
        go_roundw
        case rel => exact ⟨i + 1, L, by go_num, by omega, HSA.out, by rw [← HM.out]; omega, HB1.out, by rw [← HM.out]; exact HO1.out⟩
        case measure => simp [intOf]; omega
    · have hiN2 : i = N := by omega
      have HFI : Hid (L = labSet (tauT :: ls)) := by
        have h := HL.out
        rw [hiN2, HN.out, List.take_length] at h
        exact h
      clear hL hbl ho hM
      go_wp2
      go_ret
      exact ⟨_, rfl, HBL.out, by rw [← HFI.out, ← HM.out]; exact HO.out⟩

end Go.Proofs.YtpoleaekcjjedaaGreatDoor
