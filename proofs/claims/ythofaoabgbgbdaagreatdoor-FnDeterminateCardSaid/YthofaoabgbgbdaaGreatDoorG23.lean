/-
  What the implementation's determinize computes: the same as the reference's l12Sets.
  The implementation's firstAfter: the first trace after which the states are as asked.
  What both texts of IsDeterminate return.
  The implementation's undetermined.
  The implementation's IsDeterminate.
  DeterminizeLts: the reference's and the implementation's.
  The implementation's DeterminizeLts.
-/
import Derived.Test.YthofaoabgbgbdaaGreatDoorG21
import Derived.Test.YthofaoabgbgbdaaGreatDoorG22
import Derived.Test.YthofaoabgbgbdaaGreatDoorG14
import Derived.Test.YthofaoabgbgbdaaGreatDoorG13
import Derived.Test.YthofaoabgbgbdaaGreatDoorG1
import Derived.Test.YthofaoabgbgbdaaGreatDoorG19
import Derived.Test.YthofaoabgbgbdaaGreatDoorG15
import Derived.Test.YthofaoabgbgbdaaGreatDoorG16
import Derived.Test.YthofaoabgbgbdaaGreatDoorG17
import Derived.Test.YthofaoabgbgbdaaGreatDoorG8
import Derived.Test.YthofaoabgbgbdaaGreatDoorG12
import Derived.Test.YthofaoabgbgbdaaGreatDoorRows
import Derived.BigQuiet
import Derived.Deep.QuietTactic
import Derived.Deep.LoopGhost
import Derived.Test.YthofaoabgbgbdaaGreatDoorG18
namespace Go.Proofs.YthofaoabgbgbdaaGreatDoor
open Go Go.RowKit

theorem deter_results {w : World} {b : Nat} {v0 v1 v2 v3 : Value} {tmps : Array Value} (hc : tmps.getD 2 undef = .pointer (some ⟨b, 0, none⟩)) (hb : Blk w b [v0, v1, v2, v3] 27) :
  (results Tryz.f20 tmps).run Tryz.prog w = .ok (.tuple #[.agg #[v0, v1, v2, v3], tmps.getD 3 undef, tmps.getD 4 undef]) w := by
 have h0 := hb.cell 0 rfl
 have h1 := hb.cell 1 rfl
 have h2 := hb.cell 2 rfl
 have h3 := hb.cell 3 rfl
 simp only [Array.getD_eq_getD_getElem?] at hc
 simp [results, Tryz.results20, go_sem, hc, h0, h1, h2, h3, Result.andThen]

set_option maxRecDepth 100000 in
set_option maxHeartbeats 4000000 in
theorem determinize_any (lo : Nat) (t : Lts) (lv ev : Value) (w : World) (hv : Valid t) (hsh : Short20 t.labels) (hl : SliceK 1 encS lo w lv t.labels) (he : SliceK 3 encE lo w ev t.edges) (g : Glob w) :
  Calls Tryz.prog 20 #[.agg #[.int .i64 t.states, .int .i64 t.initial, lv, ev]] w (RetSets t w) := by
 have HV := Lib.hid hv
 have HSH := Lib.hid hsh
 obtain ⟨tb, htb⟩ : ∃ tb, tb = w.heap.size := ⟨_, rfl⟩
 obtain ⟨wA, hwA⟩ : ∃ wA, wA = (w.alloc (.cells #[.int .i64 t.states, .int .i64 t.initial, lv, ev] 27)).alloc (.cells #[.int .i64 0, .int .i64 0, .slice none 0 0, .slice none 0 0] 27) := ⟨_, rfl⟩
 have hbA : Below w.heap.size w wA := by rw [hwA]; exact ((Below.refl _ _).alloc (Nat.le_refl _) _).alloc (by simp) _
 have hsA : wA.heap.size = tb + 1 + 1 := by rw [hwA, htb]; simp
 have hT : Blk wA tb [.int .i64 t.states, .int .i64 t.initial, lv, ev] 27 := by rw [hwA, htb]; exact (Blk.new w _ _).alloc _
 have hR : Blk wA (tb + 1) [.int .i64 0, .int .i64 0, .slice none 0 0, .slice none 0 0] 27 := by
  have := Blk.new (w.alloc (.cells #[.int .i64 t.states, .int .i64 t.initial, lv, ev] 27)) [.int .i64 0, .int .i64 0, .slice none 0 0, .slice none 0 0] 27
  rw [World.size_alloc, ← htb] at this
  rw [hwA]
  exact this
 obtain ⟨w1, hw1⟩ : ∃ w1, w1 = wA.alloc (.cells #[.int .i64 t.initial] 2) := ⟨_, rfl⟩
 have hb1 : Below wA.heap.size wA w1 := by rw [hw1]; exact (Below.refl _ _).alloc (Nat.le_refl _) _
 have hS : SliceK 1 encI 0 w1 (.slice (some ⟨tb + 1 + 1, 0, none⟩) 1 1) [t.initial] := by
  have := World.ownsRow_lit (base := 0) (e := 2) (size := 1) wA #[.int .i64 t.initial] 1 (Nat.zero_le _) (by decide) (by simp)
  rw [hsA] at this
  rw [hw1]
  exact SliceK.of_owns (e := 2) encI_len rfl (by rw [flat_encI]; simpa using this)
 have hIN := internal_any lo 0 t lv ev _ [t.initial] w1 hv ((hl.below hbA).below hb1) ((he.below hbA).below hb1) hS (fun x hx => by rw [List.mem_singleton] at hx; subst hx; exact ⟨hv.in0, hv.in1⟩) (by simp)
 rw [firstS_eq] at hIN
 have HIN := Lib.hid hIN
 have HL := Lib.hid (hl.below hbA)
 have HE := Lib.hid (he.below hbA)
 have HG := Lib.hid (g.below hbA)
 have HBA := Lib.hid hbA
 have HB1 := Lib.hid hb1
 have HT := Lib.hid hT
 have HR := Lib.hid hR
 have HWA := Lib.hid hwA
 have HW1 := Lib.hid hw1
 have HSA := Lib.hid hsA
 have HTB := Lib.hid htb
 have hsW : w.heap.size ≤ wA.heap.size := hbA.size
 clear hv hsh hl he g hwA hbA hsA hT hR hw1 hb1 hS hIN htb
 go_enter Tryz.func20, Tryz.ntmps20
 go_wp2_with fail
 rw [← HWA.out, ← HW1.out, ← HTB.out]
 refine Calls.mono HIN.out ?_
 rintro e2 w2 ⟨fv, rfl, hb2, ho2⟩
 have HB2 := Lib.hid (HB1.out.trans (hb2.mono HB1.out.size))
 have HO2 := Lib.hid (own_lower ho2 HB1.out.size)
 obtain ⟨fa, fc, rfl, -, -⟩ := owns_slice ho2
 have HEX := Lib.hid (explored_any wA.heap.size tb lo t lv ev _ wA w2 HV.out rfl HB2.out HO2.out HL.out HE.out HT.out HG.out HSH.out)
 clear hb2 ho2 HIN
 go_wp2_with fail
 refine Calls.mono HEX.out ?_
 rintro e3 w3 ⟨hb3, ⟨hfull, a, b, a1, n1, c1, a2, n2, c2, v, rfl⟩ | ⟨st, lvS, evS, sv, hok, hG, hu, rfl, hol, hoe, vs, hiv⟩⟩
 ·have HF := Lib.hid hfull
  have HB3 := Lib.hid hb3
  have HR3 := Lib.hid (HR.out.belowB hb3 (by rw [HSA.out]; omega))
  obtain ⟨W3, hW3⟩ : ∃ W3, W3 = w3.alloc (.cells #[.int .i64 a, .int .i64 b, .slice a1 n1 c1, .slice a2 n2 c2] 27) := ⟨_, rfl⟩
  have HR4 : Hid (Blk W3 (tb + 1) [.int .i64 0, .int .i64 0, .slice none 0 0, .slice none 0 0] 27) := by unfold Hid; rw [hW3]; exact HR3.out.alloc _
  have HB4 : Hid (Below wA.heap.size wA W3) := by unfold Hid; rw [hW3]; exact hb3.alloc hb3.size _
  have HW3 := Lib.hid hW3
  have r0 := HR4.out.cell 0 rfl
  have r1 := HR4.out.cell 1 rfl
  have r2 := HR4.out.cell 2 rfl
  have r3 := HR4.out.cell 3 rfl
  have s0 := HR4.out.frozen 0
  have s1 := HR4.out.frozen 1
  have s2 := HR4.out.frozen 2
  have s3 := HR4.out.frozen 3
  rw [hW3] at r0 r1 r2 r3 s0 s1 s2 s3
  clear hfull hb3 HEX hW3
  go_wp2
  rw [← HW3.out]
  refine bodyPost_ret (deter_results rfl ((((HR4.out.set 0 _).set 1 _).set 2 _).set 3 _)) rfl ?_
  have hle : w.heap.size ≤ tb + 1 := by rw [HTB.out]; omega
  exact ⟨((((HBA.out.trans (HB4.out.mono hsW)).setCell hle _).setCell hle _).setCell hle _).setCell hle _, .inl ⟨HF.out, rfl⟩⟩
 ·have HOK := Lib.hid hok
  have HGD := Lib.hid hG
  have HU := Lib.hid hu
  have hs := hok.2
  have HSM := Lib.hid hs
  have HB3 := Lib.hid hb3
  have HR3 := Lib.hid (HR.out.belowB hb3 (by rw [HSA.out]; omega))
  have HT3 := Lib.hid (HT.out.belowB hb3 (by rw [HSA.out]; omega))
  obtain ⟨la, lc, rfl, -, -⟩ := owns_slice hol
  obtain ⟨ea, ec, rfl, -, -⟩ := owns_slice hoe
  obtain ⟨sa, sc, rfl, -, -⟩ := owns_slice hiv.2.1
  obtain ⟨R, hRR⟩ : ∃ R, R = st.rows.length := ⟨_, rfl⟩
  obtain ⟨LS, hLS⟩ : ∃ LS, LS = (sysOf t st).labels.length := ⟨_, rfl⟩
  obtain ⟨ES, hES⟩ : ∃ ES, ES = (sysOf t st).edges.length := ⟨_, rfl⟩
  have SKL : SliceK 1 encS wA.heap.size w3 (.slice la (sysOf t st).labels.length lc) (sysOf t st).labels := SliceK.of_owns (enc := encS) (e := 9) encS_len rfl (by rw [flat_encS]; exact hol)
  have SKE : SliceK 3 encE wA.heap.size w3 (.slice ea (sysOf t st).edges.length ec) (sysOf t st).edges := SliceK.of_owns (enc := encE) (e := 68) encE_len rfl hoe
  rw [← hLS] at SKL
  rw [← hES] at SKE
  rw [← hRR, ← hLS, ← hES]
  obtain ⟨W3, hW3⟩ : ∃ W3, W3 = w3.alloc (.cells #[.int .i64 R, .int .i64 0, .slice la LS lc, .slice ea ES ec] 27) := ⟨_, rfl⟩
  have hb4 : Below w3.heap.size w3 W3.drew := by rw [hW3]; exact ((Below.refl _ _).alloc (Nat.le_refl _) _).drew
  obtain ⟨b5, hb5⟩ : ∃ b5, b5 = w3.heap.size := ⟨_, rfl⟩
  have hX : Blk W3.drew b5 [.int .i64 R, .int .i64 0, .slice la LS lc, .slice ea ES ec] 27 := by rw [hW3, hb5]; exact Blk.new w3 _ _
  have HX := Lib.hid hX
  have HT4 := Lib.hid (HT3.out.below hb4)
  have HR4 := Lib.hid (HR3.out.below hb4)
  have HIV4 := Lib.hid (hiv.below hb4)
  have HB4 := Lib.hid (HB3.out.trans (hb4.mono HB3.out.size))
  have hAR := arcs_any wA.heap.size (sysOf t st) (.slice la LS lc) (.slice ea ES ec) W3.drew (sys_edge HV.out hG) (by have := hs.2; simp [sysOf, arcsOf]; omega)
   (SKL.below hb4) (SKE.below hb4)
  rw [sys_arcs HV.out hG, show (sysOf t st).states = (R : Int) from by rw [hRR]; rfl, show (sysOf t st).initial = 0 from rfl] at hAR
  have HAR := Lib.hid hAR
  have hsB : wA.heap.size ≤ W3.drew.heap.size := HB4.out.size
  have hbA4 : Below wA.heap.size wA W3.drew := HB4.out
  have HSL := Lib.hid (SrcS.of_slice (HL.out.below hbA4) HV.out.labels.pos)
  have HLB : Hid (∀ w' av, SrcS w' lv t.labels → SliceK 3 encC W3.drew.heap.size w' av (arcsOf t st) → Calls Tryz.prog 49 #[.int .i64 R, .int .i64 0, lv, av] w' (RetLts R 0 t.labels st.edges w')) := fun w' av h1 h2 => by
   have := lts_back HV.out HGD.out HU.out HSM.out h1 h2
   rw [← hRR] at this
   exact this
  have hx0 := hX.cell 0 rfl
  have hx1 := hX.cell 1 rfl
  have hx2 := hX.cell 2 rfl
  have hx3 := hX.cell 3 rfl
  have ht2 := HT4.out.cell 2 rfl
  have hy0 : W3.cell? ⟨b5, 0, none⟩ = some (.int .i64 R) := hx0
  have hy1 : W3.cell? ⟨b5, 1, none⟩ = some (.int .i64 0) := hx1
  have hy2 : W3.cell? ⟨b5, 2, none⟩ = some (.slice la LS lc) := hx2
  have hy3 : W3.cell? ⟨b5, 3, none⟩ = some (.slice ea ES ec) := hx3
  have ht2' : W3.cell? ⟨tb, 2, none⟩ = some lv := ht2
  have hxl := hX.lt
  have htl := HT4.out.lt
  have hrl := HR4.out.lt
  have hnb : b5 ≠ tb + 1 := by have := HB3.out.size; rw [HSA.out] at this; omega
  have hnt : tb ≠ tb + 1 := by omega
  have HW3 := Lib.hid hW3
  have HB5 := Lib.hid hb5
  have HRR := Lib.hid hRR
  clear hok hG hu hs hb3 hol hoe hiv hLS hES hW3 hb4 hX hAR HEX hb5 hRR hbA4 SKL SKE
  go_wp2_with fail
  rw [← HW3.out, ← HB5.out]
  go_region_held3 (fun w' => w'.cell? ⟨b5, 0, none⟩ = some (.int .i64 R) ∧ w'.cell? ⟨b5, 1, none⟩ = some (.int .i64 0) ∧ w'.cell? ⟨b5, 2, none⟩ = some (.slice la LS lc) ∧ w'.cell? ⟨b5, 3, none⟩ = some (.slice ea ES ec) ∧ w'.cell? ⟨tb, 2, none⟩ = some lv)
   (first
    | (refine ⟨?_, ?_, ?_, ?_, ?_⟩ <;> with_reducible assumption)
    | (refine ⟨?_, ?_, ?_, ?_, ?_⟩ <;> (rw [World.cell?_setCell_far _ _ _ _ (by first | exact fun e => hnb e.symm | exact fun e => hnt e.symm), World.cell?_setCell_far _ _ _ _ (by first | exact fun e => hnb e.symm | exact fun e => hnt e.symm), World.cell?_setCell_far _ _ _ _ (by first | exact fun e => hnb e.symm | exact fun e => hnt e.symm), World.cell?_setCell_far _ _ _ _ (by first | exact fun e => hnb e.symm | exact fun e => hnt e.symm)]; with_reducible assumption))
    | go_keep)
   (first
    | (go_at_call 50; refine Calls.mono HAR.out ?_; rintro e wV ⟨av, rfl, hbV, hoV⟩; have c0 := keeps hbV hxl hx0; have c1 := keeps hbV hxl hx1; have c2 := keeps hbV hxl hx2; have c3 := keeps hbV hxl hx3; have c4 := keeps hbV htl ht2; have HBV := Lib.hid hbV; have HOV := Lib.hid hoV)
    | (go_at_call 49; refine Calls.mono (HLB.out _ _ (HSL.out.below HBV.out) (SliceK.of_owns (enc := encC) encC_len rfl HOV.out)) ?_; rintro e wL ⟨lv2, ev2, he2, hbL, hlL, heL⟩; obtain ⟨la2, lc2, rfl, -, -⟩ := owns_slice hlL; obtain ⟨ea2, ec2, rfl, -, -⟩ := owns_slice heL; subst he2; have hbL2 := HBV.out.trans (hbL.mono HBV.out.size); have d0 := keeps hbL2 hxl hx0; have d1 := keeps hbL2 hxl hx1; have d2 := keeps hbL2 hxl hx2; have d3 := keeps hbL2 hxl hx3; have d4 := keeps hbL2 htl ht2; have HBL := Lib.hid hbL2; have HRL := Lib.hid (HR4.out.below hbL2); have r0 := HRL.out.cell 0 rfl; have r1 := HRL.out.cell 1 rfl; have r2 := HRL.out.cell 2 rfl; have r3 := HRL.out.cell 3 rfl; have s0 := HRL.out.frozen 0; have s1 := HRL.out.frozen 1; have s2 := HRL.out.frozen 2; have s3 := HRL.out.frozen 3; have HSV := Lib.hid HBV.out.size; have HLL := Lib.hid hlL; have HEL := Lib.hid heL))
  all_goals (
   have hle : w.heap.size ≤ tb + 1 := by rw [HTB.out]; omega
   have hle3 : w.heap.size ≤ wV.heap.size := Nat.le_trans hsW (Nat.le_trans hsB HSV.out)
   have hall := HBA.out.trans ((HB4.out.trans (HBL.out.mono hsB)).mono hsW)
   have HALL := Lib.hid hall
   have HIV5 := Lib.hid ((HIV4.out.below HBL.out).lower hsW)
   have HLL2 := Lib.hid (own_lower HLL.out hle3)
   have HEL2 := Lib.hid (own_lower HEL.out hle3)
   clear hall hle3 HLL HEL
   go_wp2
   refine bodyPost_ret (deter_results rfl ((((HRL.out.set 0 _).set 1 _).set 2 _).set 3 _)) rfl ?_
   refine ⟨(((HALL.out.setCell hle _).setCell hle _).setCell hle _).setCell hle _, .inr ⟨st, _, _, _, HOK.out, by rw [← HRR.out]; rfl, ⟨⟨vs, ?_⟩, ?_⟩, ?_⟩⟩
   ·have := (((HIV5.out.set1 HRL.out (by decide) (by decide) 0 (.int .i64 R)).set1 (HRL.out.set 0 _) (by decide) (by decide) 1 (.int .i64 0)).set1 ((HRL.out.set 0 _).set 1 _) (by decide) (by decide) 2 (.slice la2 t.labels.length lc2)).set1 (((HRL.out.set 0 _).set 1 _).set 2 _) (by decide) (by decide) 3 (.slice ea2 st.edges.length ec2)
    exact this
   ·exact own4 HRL.out HEL2.out (by decide)
   ·exact own4 HRL.out HLL2.out (by decide))

end Go.Proofs.YthofaoabgbgbdaaGreatDoor

namespace Go.Proofs.YthofaoabgbgbdaaGreatDoor
open Go Go.RowKit

/-- A function that is asked of a set of states. -/
def AskSet (fid : Nat) (caps : Array Value) (t : Lts) (G : List Int → Prop) (w : World) : Prop :=
 ∀ w', Below w.heap.size w w' → ∀ (lo2 : Nat) (v : Value) (S : List Int), SliceK 1 encI lo2 w' v S → (∀ x ∈ S, 0 ≤ x ∧ x < t.states) → S.length ≤ 40 → Calls Tryz.prog fid (#[v] ++ caps) w' (Decides (G S) w')
theorem AskSet.below {fid : Nat} {caps : Array Value} {t : Lts} {G : List Int → Prop} {w w1 : World} (h : AskSet fid caps t G w) (hb : Below w.heap.size w w1) : AskSet fid caps t G w1 :=
 fun w' hb' => h w' (hb.trans (hb'.mono hb.size))

set_option maxRecDepth 100000 in
set_option maxHeartbeats 1000000 in
theorem firstAfter1_any (lo : Nat) (t : Lts) (st : DNet) (fid : Nat) (caps : Array Value) (G : List Int → Prop) (fb sb : Nat) (vr : Value) (vs : List Value) (p q : Int) (w : World) (hG : DGood t st) (h40 : ∀ r ∈ st.rows, r.length ≤ 40) (hp0 : 0 ≤ p) (hp1 : p < (st.rows.length : Int))
  (hfl : fb < w.heap.size) (hfb : w.cell? ⟨fb, 0, none⟩ = some (.func (.func fid) #[] caps)) (hsl : sb < w.heap.size) (hsb : w.cell? ⟨sb, 0, none⟩ = some vr) (hr : OwnIntss 34 2 lo w vr vs st.rows)
  (eg : ∀ args w, (callFunc fid args).run Tryz.prog w = .ok (.enter fid args) w) (hA : AskSet fid caps t G w) :
  Calls Tryz.prog 41 #[.int .i64 p, .int .i64 q, .pointer (some ⟨fb, 0, none⟩), .pointer (some ⟨sb, 0, none⟩)] w (Decides (G (setOf st p)) w) := by
 obtain ⟨n, hn⟩ : ∃ n : Nat, (n : Int) = p := ⟨p.toNat, by omega⟩
 have hnl : n < st.rows.length := by omega
 rw [← hn, setOf_at (List.getElem?_eq_getElem hnl)]
 obtain ⟨b, c, u, rfl, hbl, hcu, -, hsu⟩ := hr.rowAt hnl
 obtain ⟨R, hR⟩ : ∃ R, R = st.rows.length := ⟨_, rfl⟩
 rw [← hR] at hsb hnl
 have hin : ∀ x ∈ st.rows[n], 0 ≤ x ∧ x < t.states := (hG.rows _ (List.getElem_mem (by omega))).1
 have hln := h40 _ (List.getElem_mem (show n < st.rows.length by omega))
 obtain ⟨S, hS⟩ : ∃ S, S = st.rows[n] := ⟨_, rfl⟩
 rw [← hS] at hsu hin hln ⊢
 have HSU := Lib.hid hsu
 have HIN := Lib.hid hin
 have HA := Lib.hid hA
 have lf := later_cell hfl hfb
 have ls := later_cell hsl hsb
 have lu := later_cell hbl hcu
 clear hr hA hG hin hsu hn hS hfb hsb hcu hR hp0 hp1
 by_cases hg : G S
 ·have HC : Hid (∀ g : Later w, Calls Tryz.prog fid (#[u] ++ caps) g.w fun e w' => e = .returned (.bool true) ∧ Below g.w.heap.size g.w w') := fun g => Decides.yes (HA.out g.w g.h lo u S (HSU.out.below g.h) HIN.out hln) hg
  have HG := Lib.hid hg
  clear hg
  go_enter Tryz.func41, Tryz.ntmps41
  go_wp2
  refine wp_region_later (by kernel_rfl) (by kernel_rfl) ?_
  repeat (go_big_quiet_step ((exact later_call (HC.out _))))
  refine wpQuiet_nil ?_
  intro _ hw9
  obtain ⟨nl, hw8⟩ := hw9
  subst hw8
  go_wp2
  go_ret
  exact ⟨true, rfl, ⟨fun _ => HG.out, fun _ => rfl⟩, nl.h⟩
 ·have HC : Hid (∀ g : Later w, Calls Tryz.prog fid (#[u] ++ caps) g.w fun e w' => e = .returned (.bool false) ∧ Below g.w.heap.size g.w w') := fun g => Decides.no (HA.out g.w g.h lo u S (HSU.out.below g.h) HIN.out hln) hg
  have HG := Lib.hid hg
  clear hg
  go_enter Tryz.func41, Tryz.ntmps41
  go_wp2
  refine wp_region_later (by kernel_rfl) (by kernel_rfl) ?_
  repeat (go_big_quiet_step ((exact later_call (HC.out _))))
  refine wpQuiet_nil ?_
  intro _ hw9
  obtain ⟨nl, hw8⟩ := hw9
  subst hw8
  go_wp2
  go_ret
  exact ⟨false, rfl, ⟨(fun h => by cases h), fun h => absurd h HG.out⟩, nl.h⟩

/-- What firstAfter returns. -/
def RetFa (t : Lts) (G : List Int → Prop) (w : World) (e : Ending) (w' : World) : Prop :=
 Below w.heap.size w w' ∧ ((DFull t ∧ e = .returned (.tuple #[.slice none 0 0, .bool false, .bool false]))
  ∨ ∃ (st : DNet) (r : Bool) (xs : List ByteArray) (v : Value), DOk t st ∧ e = .returned (.tuple #[v, .bool r, .bool true]) ∧ FirstIs (dSys t st) (dSys t st) t.labels (fun p => G (setOf st p.1)) r xs ∧ OwnStrs w.heap.size w' v xs)

set_option maxRecDepth 100000 in
set_option maxHeartbeats 4000000 in
theorem firstAfter_any (lo : Nat) (t : Lts) (lv ev : Value) (fid : Nat) (caps : Array Value) (G : List Int → Prop) (w : World) (hv : Valid t) (hsh : Short20 t.labels) (hl : SliceK 1 encS lo w lv t.labels) (he : SliceK 3 encE lo w ev t.edges) (g : Glob w)
  (eg : ∀ args w, (callFunc fid args).run Tryz.prog w = .ok (.enter fid args) w) (hA : AskSet fid caps t G w) :
  Calls Tryz.prog 16 #[.agg #[.int .i64 t.states, .int .i64 t.initial, lv, ev], .func (.func fid) #[] caps] w (RetFa t G w) := by
 obtain ⟨p, hp⟩ : ∃ p, p = w.heap.size := ⟨_, rfl⟩
 obtain ⟨W, hW⟩ : ∃ W, W = (w.alloc (.cells #[.int .i64 t.states, .int .i64 t.initial, lv, ev] 27)).alloc (.cells #[.func (.func fid) #[] caps] 49) := ⟨_, rfl⟩
 have hB0 : Below w.heap.size w W := by rw [hW]; exact ((Below.refl _ _).alloc (Nat.le_refl _) _).alloc (by simp) _
 have hF : Blk W (p + 1) [.func (.func fid) #[] caps] 49 := by
  have := Blk.new (w.alloc (.cells #[.int .i64 t.states, .int .i64 t.initial, lv, ev] 27)) [.func (.func fid) #[] caps] 49
  rw [World.size_alloc, ← hp] at this
  rw [hW]
  exact this
 have HD := Lib.hid (determinize_any lo t lv ev W hv hsh (hl.below hB0) (he.below hB0) (g.below hB0))
 have HV := Lib.hid hv
 have HF := Lib.hid hF
 have HA := Lib.hid (hA.below hB0)
 have HB0 := Lib.hid hB0
 have HW := Lib.hid hW
 have HP := Lib.hid hp
 clear hv hsh hl he g hA hB0 hF hW hp
 go_enter Tryz.func16, Tryz.ntmps16
 go_wp2_with fail
 rw [← HW.out]
 try rw [← HP.out]
 refine Calls.mono HD.out ?_
 rintro e w1 ⟨hb1, ⟨hf, rfl⟩ | ⟨st, lv2, vr, ve, hok, rfl, ⟨⟨vs, hiv⟩, hed⟩, hlb⟩⟩
 ·have HFU := Lib.hid hf
  have HB1 := Lib.hid (HB0.out.trans (hb1.mono HB0.out.size))
  clear hf hb1
  go_wp2
  go_ret3
  exact ⟨(HB1.out.alloc HB1.out.size _).alloc (by have := HB1.out.size; simp; omega) _, .inl ⟨HFU.out, rfl⟩⟩
 ·have HOK := Lib.hid hok
  have HGD := Lib.hid (dok_good HV.out hok)
  obtain ⟨al, cl, rfl, -, -⟩ := owns_slice hlb
  obtain ⟨ae, ce, rfl, -, -⟩ := owns_slice hed
  obtain ⟨av, cv, rfl, -, -⟩ := owns_slice hiv.2.1
  obtain ⟨d, hd⟩ : ∃ d, d = dSys t st := ⟨_, rfl⟩
  obtain ⟨R, hR⟩ : ∃ R, R = st.rows.length := ⟨_, rfl⟩
  have hds : d.states = (R : Int) := by rw [hd, hR]; rfl
  obtain ⟨LN, hLN⟩ : ∃ LN, LN = t.labels.length := ⟨_, rfl⟩
  obtain ⟨EN, hEN⟩ : ∃ EN, EN = st.edges.length := ⟨_, rfl⟩
  obtain ⟨VN, hVN⟩ : ∃ VN, VN = vs.length := ⟨_, rfl⟩
  rw [← hLN] at hlb
  rw [← hEN] at hed
  rw [← hVN] at hiv
  rw [← hR, ← hLN, ← hEN, ← hVN]
  obtain ⟨W2, hW2⟩ : ∃ W2, W2 = (w1.alloc (.cells #[.int .i64 R, .int .i64 0, .slice al LN cl, .slice ae EN ce] 27)).alloc (.cells #[.slice av VN cv] 31) := ⟨_, rfl⟩
  obtain ⟨q, hq⟩ : ∃ q, q = w1.heap.size := ⟨_, rfl⟩
  have hb2 : Below w1.heap.size w1 W2 := by rw [hW2]; exact ((Below.refl _ _).alloc (Nat.le_refl _) _).alloc (by simp) _
  have hX : Blk W2 q [.int .i64 R, .int .i64 0, .slice al LN cl, .slice ae EN ce] 27 := by rw [hW2, hq]; exact (Blk.new w1 _ _).alloc _
  have hY : Blk W2 (q + 1) [.slice av VN cv] 31 := by
   have := Blk.new (w1.alloc (.cells #[.int .i64 R, .int .i64 0, .slice al LN cl, .slice ae EN ce] 27)) [.slice av VN cv] 31
   rw [World.size_alloc, ← hq] at this
   rw [hW2]
   exact this
  have hbW2 : Below W.heap.size W W2 := hb1.trans (hb2.mono hb1.size)
  have hF2 := HF.out.below hbW2
  have HIV2 := Lib.hid (hiv.below hb2)
  have HA2 := Lib.hid (HA.out.below hbW2)
  have LD : LtsIn W.heap.size W2 (.slice al LN cl) (.slice ae EN ce) d := by
   refine ⟨?_, ?_⟩
   ·rw [hd]; exact SliceK.of_owns (e := 9) encS_len hLN (by rw [flat_encS]; exact owns_below hlb hb2)
   ·rw [hd]; exact SliceK.of_owns (e := 68) encE_len hEN (owns_below hed hb2)
  have hask : Asks 41 #[.pointer (some ⟨p + 1, 0, none⟩), .pointer (some ⟨q + 1, 0, none⟩)] d d (fun z => G (setOf st z.1)) W2 := by
   intro w' hb' x y hx hy hnd ⟨L, u, hu⟩
   have hxy : x = y := by
    have h := difS_twin d L u
    rw [hu] at h
    exact h.symm
   have hx0 : 0 ≤ x := by
    refine Decidable.byContradiction fun hn => hnd ⟨?_, ?_⟩
    ·show x < 0; omega
    ·show y < 0; omega
   have h := firstAfter1_any W.heap.size t st fid caps G (p + 1) (q + 1) (.slice av VN cv) vs x y w' HGD.out (fun r hr => (HGD.out.rowOk HV.out r hr).len) hx0 (by rw [← hR, ← hds]; exact hx.2) (hF2.below hb').lt ((hF2.below hb').cell 0 rfl) (hY.below hb').lt ((hY.below hb').cell 0 rfl) (by rw [hVN]; have h := HIV2.out.below hb'; rw [hVN] at h; exact h) eg (HA2.out.below hb')
   exact h
  have HFI := Lib.hid (firstTrace_any W.heap.size d d (.slice al LN cl) (.slice ae EN ce) (.slice al LN cl) (.slice ae EN ce) 41 #[.pointer (some ⟨p + 1, 0, none⟩), .pointer (some ⟨q + 1, 0, none⟩)] (fun z => G (setOf st z.1)) W2 (by rw [hd]; exact dSys_valid HV.out hok) (by rw [hd]; exact dSys_valid HV.out hok) (by rw [hd]; exact dSys_single HV.out hok) (by rw [hd]; exact dSys_single HV.out hok) (by rw [hd]; rfl) (by rw [hd]; rfl) LD LD (fun args w => by kernel_rfl) hask)
  rw [hds, show d.initial = 0 from by rw [hd]; rfl] at HFI
  have HBO : Hid (bothL d d = t.labels) := by unfold Hid; rw [hd]; exact bothL_self HV.out.labels
  have HDD := Lib.hid hd
  have HBW2 := Lib.hid hbW2
  have HW2 := Lib.hid hW2
  have HQ := Lib.hid hq
  have x0 := hX.cell 0 rfl
  have x1 := hX.cell 1 rfl
  have x2 := hX.cell 2 rfl
  have x3 := hX.cell 3 rfl
  have hxl := hX.lt
  rw [hW2] at x0 x1 x2 x3 hxl
  clear hok hlb hed hiv hb1 hb2 hX hY hbW2 hF2 LD hask hds hR hLN hEN hVN hW2 hq hd HD
  go_wp2_with fail
  try rw [← HW2.out]
  try rw [← HQ.out]
  try rw [← HW2.out]
  refine Calls.mono HFI.out ?_
  rintro e w3 ⟨hb3, r, xs, v, rfl, hfi, hown⟩
  obtain ⟨a3, c3, rfl, -, -⟩ := owns_slice hown
  have HB3 := Lib.hid (HB0.out.trans ((HBW2.out.trans (hb3.mono HBW2.out.size)).mono HB0.out.size))
  have HO3 : Hid (OwnStrs w.heap.size w3 (.slice a3 xs.length c3) xs) := own_lower hown (Nat.le_trans HB0.out.size HBW2.out.size)
  have HR3 : Hid (FirstIs (dSys t st) (dSys t st) t.labels (fun z => G (setOf st z.1)) r xs) := by
   have h := hfi
   rw [HBO.out, HDD.out] at h
   exact h
  clear hb3 hfi hown x0 x1 x2 x3 hxl HFI
  go_wp2
  go_ret3
  exact ⟨HB3.out, .inr ⟨st, r, xs, _, HOK.out, rfl, HR3.out, HO3.out⟩⟩

end Go.Proofs.YthofaoabgbgbdaaGreatDoor

namespace Go.Proofs.YthofaoabgbgbdaaGreatDoor
open Go Go.RowKit

theorem results_tmp4 {fn : Func} {t u v z : Tmp} (h : fn.results = #[.tmp t, .tmp u, .tmp v, .tmp z]) (tmps : Array Value) (P : Program) (w : World) :
  (results fn tmps).run P w = .ok (.tuple #[tmps.getD t undef, tmps.getD u undef, tmps.getD v undef, tmps.getD z undef]) w := by
 simp [results, h]

def DetmAns (t : Lts) (r : Bool) (xs : List ByteArray) (s : ByteArray) (code : Int) : Prop := DetmIs t r xs s code ∧ xs.length ≤ 2000
theorem DetmAns.unique {t : Lts} {r r' : Bool} {xs xs' : List ByteArray} {s s' : ByteArray} {code code' : Int} (h : DetmAns t r xs s code) (k : DetmAns t r' xs' s' code') : r = r' ∧ xs = xs' ∧ s = s' ∧ code = code' := h.1.unique k.1
theorem DetmAns.few {t : Lts} {r : Bool} {xs : List ByteArray} {s : ByteArray} {code : Int} (h : DetmAns t r xs s code) : xs.length ≤ 2000 := h.2
def RetDt (t : Lts) (w : World) (e : Ending) (w' : World) : Prop :=
 Below w.heap.size w w' ∧ ∃ (r : Bool) (xs : List ByteArray) (s : ByteArray) (code : Int) (v : Value), e = .returned (.tuple #[.bool r, v, .string s, .int .i64 code]) ∧ DetmAns t r xs s code ∧ OwnStrs w.heap.size w' v xs
theorem dt_none {t : Lts} {r : Bool} {code : Int} {w w' : World} (hb : Below w.heap.size w w') (h : DetmIs t r [] ByteArray.empty code) : RetDt t w (.returned (.tuple #[.bool r, .slice none 0 0, .string ⟨#[]⟩, .int .i64 code])) w' :=
 ⟨hb, r, [], ByteArray.empty, code, _, rfl, ⟨h, Nat.zero_le _⟩, ⟨rfl, .inl ⟨rfl, rfl⟩⟩⟩

theorem labK_get {L : List ByteArray} {k : Nat} (h : k + 1 < L.length) : labK L k = L[k + 1] := by
 unfold labK
 rw [List.getD_eq_getElem?_getD, List.getElem?_eq_getElem h]
 rfl
theorem undet_first {t : Lts} {S : List Int} {k : Nat} (hk : k + 1 < t.labels.length) (hs : sometimes t S (labK t.labels k) = true) (hno : ∀ j, j < k → sometimes t S (labK t.labels j) = false) : undetL t S = labK t.labels k := by
 unfold undetL
 have h9 : ∀ j (h : j < (t.labels.drop 1).length), (t.labels.drop 1)[j] = labK t.labels j := fun j h => by
  rw [List.length_drop] at h
  rw [labK_get (by omega), List.getElem_drop]
  congr 1
  omega
 have hkl : k < (t.labels.drop 1).length := by rw [List.length_drop]; omega
 rw [find_at hkl (fun j hj hjk => by rw [h9 j hj]; exact hno j hjk) (by rw [h9 k hkl]; exact hs), h9 k hkl]
 rfl
theorem undet_none {t : Lts} (hv : Valid t) {S : List Int} (hno : ∀ j, j + 1 < t.labels.length → sometimes t S (labK t.labels j) = false) : ¬ undetL t S ≠ ByteArray.empty := by
 rw [undet_iff hv]
 rintro ⟨k, hk, hs⟩
 rw [hno k hk] at hs
 cases hs

end Go.Proofs.YthofaoabgbgbdaaGreatDoor

namespace Go.Proofs.YthofaoabgbgbdaaGreatDoor
open Go Go.RowKit

set_option maxRecDepth 100000 in
set_option maxHeartbeats 4000000 in
theorem undetermined_any (lo lo2 : Nat) (t : Lts) (lv ev sv : Value) (S : List Int) (w : World) (hv : Valid t) (hl : SliceK 1 encS lo w lv t.labels) (he : SliceK 3 encE lo w ev t.edges) (hs : SliceK 1 encI lo2 w sv S) (hz : S.length ≤ 1000) :
  Calls Tryz.prog 18 #[.agg #[.int .i64 t.states, .int .i64 t.initial, lv, ev], sv] w fun e w' => e = .returned (.string (undetL t S)) ∧ Below w.heap.size w w' := by
 obtain ⟨tb, htb⟩ : ∃ tb, tb = w.heap.size := ⟨_, rfl⟩
 obtain ⟨wA, hwA⟩ : ∃ wA, wA = w.alloc (.cells #[.int .i64 t.states, .int .i64 t.initial, lv, ev] 27) := ⟨_, rfl⟩
 have hbA : Below w.heap.size w wA := by rw [hwA]; exact (Below.refl _ _).alloc (Nat.le_refl _) _
 have hT : Blk wA tb [.int .i64 t.states, .int .i64 t.initial, lv, ev] 27 := by rw [hwA, htb]; exact Blk.new w _ _
 have HV := Lib.hid hv
 have HL := Lib.hid (hl.below hbA)
 have HE := Lib.hid (he.below hbA)
 have HS := Lib.hid (hs.below hbA)
 obtain ⟨al, cl, rfl, hlc, hcc, hlrow⟩ := hl.below hbA
 have hL1 := hv.labels.pos
 have hL12 := hv.labels.most
 obtain ⟨bl, ol, rfl, hblw, hcl⟩ : ∃ bl ol, al = some ⟨bl, ol, none⟩ ∧ bl < wA.heap.size ∧ ∀ i (h : i < t.labels.length), wA.cell? ⟨bl, ol + i, none⟩ = some (.string t.labels[i]) := by
  rcases hlrow with h | ⟨bl, ol, h1, -, h3, h4⟩
  ·omega
  ·exact ⟨bl, ol, h1, h3, fun i hi => by have := h4 i hi 0 (by omega); simpa [encS] using this⟩
 obtain ⟨LN, hLN⟩ : ∃ LN, LN = t.labels.length := ⟨_, rfl⟩
 rw [← hLN] at hT hwA hlc hL1 hL12 HL ⊢
 have HLN := Lib.hid hLN
 obtain ⟨pk, hpk⟩ : ∃ pk, pk = (if cl = 1 then (⟨bl, ol, none⟩ : Addr) else (⟨bl, ol, none⟩ : Addr).add 1) := ⟨_, rfl⟩
 have HPK := Lib.hid hpk
 have hsl := slice_from 24 9 1 Tryz.underlying24 (fun _ => by kernel_rfl) ⟨bl, ol, none⟩ LN cl hL1
 rw [← hpk] at hsl
 have HCL := Lib.hid hcl
 have HT := Lib.hid hT
 have HBA := Lib.hid hbA
 have HWA := Lib.hid hwA
 have HTB := Lib.hid htb
 have c2 := hT.cell 2 rfl
 have htl := hT.lt
 rw [hwA, htb] at c2
 obtain ⟨sa, sc, rfl, -, -, -⟩ := hs
 obtain ⟨SN, hSN⟩ : ∃ SN, SN = S.length := ⟨_, rfl⟩
 rw [← hSN] at hz HS ⊢
 have HSN := Lib.hid hSN
 clear hv hl he hwA hbA hT htb hLN hcl hlrow hpk hSN
 go_enter Tryz.func18, Tryz.ntmps18
 go_wp2
 rw [← HWA.out]
 try rw [← HTB.out]
 clear hsl
 go_loopw [11] (fun v11 wr => ∃ k : Nat, k ≤ LN - 1 ∧ v11 = .int .i64 k ∧ Below wA.heap.size wA wr ∧ ∀ j, j < k → sometimes t S (labK t.labels j) = false) (fun v11 _ => LN - (intOf v11).toNat)
 case atStart => exact ⟨0, Nat.zero_le _, rfl, Below.refl _ _, fun j h => by omega⟩
 case round =>
  obtain ⟨k, hk, rfl, hbl, hno⟩ := hrel
  have HBL := Lib.hid hbl
  have HNO := Lib.hid hno
  have hsz := hbl.size
  clear hno
  by_cases hlt : k < LN - 1
  ·have hk2 : k + 1 < t.labels.length := by have := HLN.out; omega
   have hpk' : pk = ⟨bl, ol + 1, none⟩ := by rw [HPK.out, if_neg (by omega), Addr.add_lit]
   subst hpk'
   have cx := keeps hbl hblw (HCL.out (k + 1) hk2)
   rw [show ol + (k + 1) = ol + 1 + k from by omega] at cx
   have hlk := labK_get hk2
   obtain ⟨l, hl⟩ : ∃ l, l = t.labels[k + 1] := ⟨_, rfl⟩
   rw [← hl] at cx hlk
   have HLK := Lib.hid hlk
   have x0 := (HT.out.below hbl).cell 0 rfl
   have x1 := (HT.out.below hbl).cell 1 rfl
   have x2 := (HT.out.below hbl).cell 2 rfl
   have x3 := (HT.out.below hbl).cell 3 rfl
   have HFO := Lib.hid (follow_any lo lo2 t (.slice (some ⟨bl, ol, none⟩) LN cl) ev (.slice sa SN sc) S l wr HV.out (HL.out.below hbl) (HE.out.below hbl) (HS.out.below hbl))
   have hsm : sometimes t S l = (decide (0 < (followL t S l).length) && refuseB t S l) := rfl
   have hre : ((stabs t S).any (refusesAll t [l])) = refuseB t S l := by
    unfold refuseB
    congr 1
    funext j
    exact refusesAll_one t l j
   have hblr : bl < wr.heap.size := by omega
   have htlr : tb < wr.heap.size := by omega
   obtain ⟨FN, hFN⟩ : ∃ FN, FN = (followL t S l).length := ⟨_, rfl⟩
   rw [← hFN] at hsm
   have HFN := Lib.hid hFN
   have HSM := Lib.hid hsm
   have HRE := Lib.hid hre
   clear hbl hl hlk hsm hre hFN
   go_wp2_with fail
   refine Calls.mono HFO.out ?_
   rintro e w3 ⟨v3, rfl, hb3, ho3⟩
   obtain ⟨a3, c3, rfl, -, -⟩ := owns_slice ho3
   rw [← HFN.out]
   have HB3 := Lib.hid (HBL.out.trans (hb3.mono hsz))
   have hb3A := HBL.out.trans (hb3.mono hsz)
   have y0 := (HT.out.below hb3A).cell 0 rfl
   have y1 := (HT.out.below hb3A).cell 1 rfl
   have y2 := (HT.out.below hb3A).cell 2 rfl
   have y3 := (HT.out.below hb3A).cell 3 rfl
   have hsz3 := hb3A.size
   clear hb3 ho3 HFO x0 x1 x2 x3 cx
   by_cases h0 : FN = 0
   ·have hd0 : decide ((0 : Int) < (FN : Int)) = false := decide_eq_false (by omega)
    have hd1 : ¬ (0 : Int) < (FN : Int) := by omega
    have hd2 : decide (0 < FN) = false := decide_eq_false (by omega)
    have HSM2 : Hid (sometimes t S l = false) := by unfold Hid; rw [HSM.out, hd2, Bool.false_and]
    clear hb3A h0
    go_wp2
    go_roundw
    case rel => exact ⟨k + 1, by omega, by go_num, HB3.out, fun j hj => by
     by_cases e : j = k
     ·subst e; rw [HLK.out]; exact HSM2.out
     ·exact HNO.out j (by omega)⟩
    case measure => simp [intOf]; omega
   ·have hd0 : decide ((0 : Int) < (FN : Int)) = true := decide_eq_true (by omega)
    have hd1 : (0 : Int) < (FN : Int) := by omega
    have hd2 : decide (0 < FN) = true := decide_eq_true (by omega)
    obtain ⟨rb, hrb⟩ : ∃ rb, rb = refuseB t S l := ⟨_, rfl⟩
    have HSM2 : Hid (sometimes t S l = rb) := by unfold Hid; rw [HSM.out, hd2, Bool.true_and, hrb]
    have hA : Below w3.heap.size w3 (w3.alloc (.cells #[.string l] 9)) := (Below.refl _ _).alloc (Nat.le_refl _) _
    have hAA := hb3A.trans (hA.mono hsz3)
    have h2 : SliceK 1 encS w3.heap.size (w3.alloc (.cells #[.string l] 9)) (.slice (some ⟨w3.heap.size, 0, none⟩) 1 1) [l] := SliceK.of_owns (e := 9) encS_len rfl (World.ownsRow_lit (base := w3.heap.size) (e := 9) (size := 1) w3 #[.string l] 1 (Nat.le_refl _) (by decide) rfl)
    have hrf := refuse_any lo lo2 w3.heap.size t (.slice (some ⟨bl, ol, none⟩) LN cl) ev (.slice sa SN sc) (.slice (some ⟨w3.heap.size, 0, none⟩) 1 1) S [l] (w3.alloc (.cells #[.string l] 9)) HV.out (HL.out.below hAA) (HE.out.below hAA) (HS.out.below hAA) h2 (by have := HSN.out; omega) (by simp)
    rw [HRE.out, ← hrb] at hrf
    have HRF := Lib.hid hrf
    have HAA := Lib.hid hAA
    clear hb3A h0 hrb hA hAA h2 hrf
    go_wp2_with fail
    refine Calls.mono HRF.out ?_
    rintro e w4 ⟨rfl, hb4⟩
    have HB4 := Lib.hid (HAA.out.trans (hb4.mono HAA.out.size))
    clear hb4 HRF
    cases rb
    ·go_wp2
     go_roundw
     case rel => exact ⟨k + 1, by omega, by go_num, HB4.out, fun j hj => by
      by_cases e : j = k
      ·subst e; rw [HLK.out]; exact HSM2.out
      ·exact HNO.out j (by omega)⟩
     case measure => simp [intOf]; omega
    ·have HU : Hid (undetL t S = l) := by unfold Hid; rw [undet_first hk2 (by rw [HLK.out]; exact HSM2.out) HNO.out, HLK.out]
     go_wp2
     go_ret
     exact ⟨by rw [HU.out]; rfl, HBA.out.trans (HB4.out.mono HBA.out.size)⟩
  ·have HU : Hid (undetL t S = ByteArray.empty) := by
    have h := undet_none HV.out (S := S) fun j hj => HNO.out j (by have := HLN.out; omega)
    exact Classical.not_not.1 h
   clear hbl
   go_wp2
   go_ret
   exact ⟨by rw [HU.out]; rfl, HBA.out.trans (HBL.out.mono HBA.out.size)⟩

end Go.Proofs.YthofaoabgbgbdaaGreatDoor

namespace Go.Proofs.YthofaoabgbgbdaaGreatDoor
open Go Go.RowKit

set_option maxRecDepth 100000 in
theorem dt1_any (lo lo2 tb : Nat) (t : Lts) (lv ev v : Value) (S : List Int) (w : World) (hv : Valid t) (hl : SliceK 1 encS lo w lv t.labels) (he : SliceK 3 encE lo w ev t.edges) (hs : SliceK 1 encI lo2 w v S) (hz : S.length ≤ 1000) (ht : Blk w tb [.int .i64 t.states, .int .i64 t.initial, lv, ev] 27) :
  Calls Tryz.prog 17 #[v, .pointer (some ⟨tb, 0, none⟩)] w (Decides (undetL t S ≠ ByteArray.empty) w) := by
 have HU := Lib.hid (undetermined_any lo lo2 t lv ev v S w hv hl he hs hz)
 have x0 := ht.cell 0 rfl
 have x1 := ht.cell 1 rfl
 have x2 := ht.cell 2 rfl
 have x3 := ht.cell 3 rfl
 obtain ⟨u, hu⟩ : ∃ u, u = undetL t S := ⟨_, rfl⟩
 rw [← hu] at HU ⊢
 clear hv hl he hs ht hu
 go_enter Tryz.func17, Tryz.ntmps17
 go_wp2_with fail
 refine Calls.mono HU.out ?_
 rintro e w1 ⟨rfl, hb1⟩
 have HB1 := Lib.hid hb1
 clear hb1 HU
 go_wp2
 go_ret
 refine ⟨_, rfl, ?_, HB1.out⟩
 rw [Bool.not_eq_true', Bool.eq_false_iff, ne_eq, List.isEmpty_iff]
 exact not_congr ⟨fun h => toList_inj (by rw [h, Lib.toList_data]; rfl), fun h => by rw [h, Lib.toList_data]; rfl⟩

set_option maxRecDepth 100000 in
set_option maxHeartbeats 4000000 in
theorem implIsDeterminate_any (lo : Nat) (t : Lts) (lv ev : Value) (w : World) (hsh : Short20 t.labels) (hl : SliceK 1 encS lo w lv t.labels) (he : SliceK 3 encE lo w ev t.edges) (g : Glob w) :
  Calls Tryz.prog 6 #[.agg #[.int .i64 t.states, .int .i64 t.initial, lv, ev]] w (RetDt t w) := by
 obtain ⟨p, hp⟩ : ∃ p, p = w.heap.size := ⟨_, rfl⟩
 obtain ⟨W, hW⟩ : ∃ W, W = w.alloc (.cells #[.int .i64 t.states, .int .i64 t.initial, lv, ev] 27) := ⟨_, rfl⟩
 have hB0 : Below w.heap.size w W := by rw [hW]; exact (Below.refl _ _).alloc (Nat.le_refl _) _
 have hX : Blk W p [.int .i64 t.states, .int .i64 t.initial, lv, ev] 27 := by rw [hW, hp]; exact Blk.new w _ _
 have HVA := Lib.hid (ValidLts_any lo t lv ev W hsh (hl.below hB0) (he.below hB0) (g.below hB0))
 have HL := Lib.hid (hl.below hB0)
 have HE := Lib.hid (he.below hB0)
 have HG := Lib.hid (g.below hB0)
 have HSH := Lib.hid hsh
 have HX := Lib.hid hX
 have HB0 := Lib.hid hB0
 have HW := Lib.hid hW
 have HP := Lib.hid hp
 clear hsh hl he g hB0 hX hW hp
 by_cases hv : Valid t
 ·have HV := Lib.hid hv
  clear hv
  go_enter Tryz.func6, Tryz.ntmps6
  go_wp2_with fail
  rw [← HW.out]
  refine (Decides.yes HVA.out HV.out).mono ?_
  rintro e w1 ⟨rfl, hb1⟩
  have HB1 := Lib.hid hb1
  have x0 := (HX.out.below hb1).cell 0 rfl
  have x1 := (HX.out.below hb1).cell 1 rfl
  have x2 := (HX.out.below hb1).cell 2 rfl
  have x3 := (HX.out.below hb1).cell 3 rfl
  have HFA := Lib.hid (firstAfter_any lo t lv ev 17 #[.pointer (some ⟨p, 0, none⟩)] (fun S => undetL t S ≠ ByteArray.empty) w1 HV.out HSH.out (HL.out.below hb1) (HE.out.below hb1) (HG.out.below hb1) (fun args w => by kernel_rfl)
   (fun w' hb lo2 v S hs _ hz => dt1_any lo lo2 p t lv ev v S w' HV.out (HL.out.below (hb1.trans (hb.mono hb1.size))) (HE.out.below (hb1.trans (hb.mono hb1.size))) hs (by omega) (HX.out.below (hb1.trans (hb.mono hb1.size)))))
  rw [← HP.out]
  clear hb1 HVA
  go_wp2_with fail
  refine Calls.mono HFA.out ?_
  rintro e w4 ⟨hb4, ⟨hf, rfl⟩ | ⟨st, r, xs, v, hok, rfl, hfi, hown⟩⟩
  ·have HFU := Lib.hid hf
   have HB4 := Lib.hid (HB0.out.trans ((HB1.out.trans (hb4.mono HB1.out.size)).mono HB0.out.size))
   clear hf hb4 x0 x1 x2 x3 HFA
   go_wp2
   ((try simp only [Exit.inBlock, Exit.then]); refine bodyPost_ret (results_tmp4 rfl _ _ _) rfl ?_)
   exact dt_none HB4.out (.inr (.inl ⟨HV.out, HFU.out, rfl, rfl, rfl, rfl⟩))
  ·have HB14 := Lib.hid (HB1.out.trans (hb4.mono HB1.out.size))
   have HB4 := Lib.hid (HB0.out.trans (HB14.out.mono HB0.out.size))
   have HOK := Lib.hid hok
   have HFI := Lib.hid hfi
   have HOW := Lib.hid (OwnStrs.lower hown (Nat.le_trans HB0.out.size HB1.out.size))
   obtain ⟨va, vc, rfl, -, -⟩ := owns_slice hown
   clear hb4 hok hfi hown x0 x1 x2 x3 HFA
   cases r
   ·have HN : Hid (NoWord ((0 : Int), (0 : Int)) (goBoth (dSys t st) (dSys t st) t.labels) (t.labels.length - 1) (liveF fun p => undetL t (setOf st p.1) ≠ ByteArray.empty)) := by
     rcases HFI.out.2 with ⟨h, -, -⟩ | ⟨u, -, h, -⟩
     ·exact h
     ·cases h
    go_wp2
    ((try simp only [Exit.inBlock, Exit.then]); refine bodyPost_ret (results_tmp4 rfl _ _ _) rfl ?_)
    exact dt_none HB4.out (.inr (.inr ⟨HV.out, st, HOK.out, rfl, .inl ⟨HN.out, rfl, rfl, rfl⟩⟩))
   ·obtain ⟨u, hle, hxs⟩ : ∃ u, Least ((0 : Int), (0 : Int)) (goBoth (dSys t st) (dSys t st) t.labels) (t.labels.length - 1) (liveF fun p => undetL t (setOf st p.1) ≠ ByteArray.empty) u ∧ xs = txtsOf t.labels u := by
     rcases HFI.out.2 with ⟨-, h, -⟩ | ⟨u, h1, -, h2⟩
     ·cases h
     ·exact ⟨u, h1, h2⟩
    have HLE := Lib.hid hle
    have HXS := Lib.hid hxs
    have HFW := Lib.hid HFI.out.1
    have hinord : InOrd t.labels := by rw [← all_used HV.out.labels]; exact InOrd.set _
    have HAF : Hid (aftL t xs = setOf st (difS (dSys t st) (dSys t st) t.labels u).1) := by unfold Hid; rw [hxs]; exact (aft_word HV.out HV.out HOK.out HOK.out hinord u hle.1).1
    have hal : (aftL t xs).length ≤ 40 := by
     rw [HAF.out]
     have hr := difS_range (dSys_valid HV.out HOK.out) (dSys_valid HV.out HOK.out) t.labels u
     by_cases h0 : (difS (dSys t st) (dSys t st) t.labels u).1 < 0
     ·rw [setOf_neg h0]; simp
     ·have hq : (difS (dSys t st) (dSys t st) t.labels u).1.toNat < st.rows.length := by have h1 : (difS (dSys t st) (dSys t st) t.labels u).1 < (st.rows.length : Int) := hr.1.1; omega
      have e0 : (difS (dSys t st) (dSys t st) t.labels u).1 = (((difS (dSys t st) (dSys t st) t.labels u).1.toNat : Nat) : Int) := by omega
      rw [e0, setOf_at (List.getElem?_eq_getElem hq)]
      exact ((dok_good HV.out HOK.out).rowOk HV.out _ (List.getElem_mem hq)).len
    obtain ⟨XN, hXN⟩ : ∃ XN, XN = xs.length := ⟨_, rfl⟩
    have hHOW : OwnStrs w.heap.size w4 (.slice va XN vc) xs := by rw [hXN]; exact HOW.out
    have HOWX := Lib.hid hHOW
    rw [← hXN]
    have hxn : XN ≤ 2000 := by rw [hXN]; exact HFW.out
    have hD : Below w4.heap.size w4 w4.drew := (Below.refl _ _).drew
    have hbX : ∀ W9, Below w4.heap.size w4 W9 → Below W.heap.size W W9 := fun W9 h => HB14.out.trans (h.mono HB14.out.size)
    have HSW : Hid (∀ w', Below w4.heap.size w4 w' → w'.cell? ⟨p, 0, none⟩ = some (.int .i64 t.states) ∧ w'.cell? ⟨p, 1, none⟩ = some (.int .i64 t.initial) ∧ w'.cell? ⟨p, 2, none⟩ = some lv ∧ w'.cell? ⟨p, 3, none⟩ = some ev) := fun w' hb =>
     ⟨(HX.out.below (hbX w' hb)).cell 0 rfl, (HX.out.below (hbX w' hb)).cell 1 rfl, (HX.out.below (hbX w' hb)).cell 2 rfl, (HX.out.below (hbX w' hb)).cell 3 rfl⟩
    have HD := Lib.hid hD
    have HAFT := Lib.hid (after_any lo w.heap.size t lv ev (.slice va XN vc) xs w4.drew HV.out (HL.out.below (hbX _ hD)) (HE.out.below (hbX _ hD)) ((OwnStrs.below hHOW hD).at) (by have := HFW.out; omega))
    have HUN : Hid (∀ w' v9, Below w4.heap.size w4 w' → SliceK 1 encI w4.drew.heap.size w' v9 (aftL t xs) → Calls Tryz.prog 18 #[.agg #[.int .i64 t.states, .int .i64 t.initial, lv, ev], v9] w' fun e w'' => e = .returned (.string (undetL t (aftL t xs))) ∧ Below w'.heap.size w' w'') := fun w' v9 hb hs =>
     undetermined_any lo _ t lv ev v9 (aftL t xs) w' HV.out (HL.out.below (hbX _ hb)) (HE.out.below (hbX _ hb)) hs (by omega)
    obtain ⟨AN, hAN⟩ : ∃ AN, AN = (aftL t xs).length := ⟨_, rfl⟩
    have HAN := Lib.hid hAN
    clear hle hxs hinord hal hHOW hD hbX hXN hAN
    go_wp2
    go_region_held3 (fun w' => w'.cell? ⟨p, 0, none⟩ = some (.int .i64 t.states) ∧ w'.cell? ⟨p, 1, none⟩ = some (.int .i64 t.initial) ∧ w'.cell? ⟨p, 2, none⟩ = some lv ∧ w'.cell? ⟨p, 3, none⟩ = some ev)
     (first
      | exact HSW.out _ HD.out
      | exact HSW.out _ hq1
      | exact HSW.out _ hq2
      | go_keep)
     (first
      | (go_at_call 19; refine Calls.mono HAFT.out ?_; rintro e w5 ⟨v5, rfl, hb5, ho5⟩; have hq1 : Below w4.heap.size w4 w5 := HD.out.trans (hb5.mono (by simp)))
      | (go_at_call 18; refine Calls.mono (HUN.out _ _ hq1 (SliceK.of_owns (enc := encI) encI_len rfl (by rw [flat_encI]; exact ho5))) ?_; rintro e w6 ⟨rfl, hb6⟩; have hq2 : Below w4.heap.size w4 w6 := hq1.trans (hb6.mono hq1.size))
      | fail)
    all_goals (
     have HQ := Lib.hid hq2
     clear hb5 ho5 hq1 hb6 hq2
     go_wp2
     ((try simp only [Exit.inBlock, Exit.then]); refine bodyPost_ret (results_tmp4 rfl _ _ _) rfl ?_)
     refine ⟨HB4.out.trans (HQ.out.mono HB4.out.size), false, xs, undetL t (aftL t xs), 0, _, rfl, ⟨.inr (.inr ⟨HV.out, st, HOK.out, rfl, .inr ⟨u, HLE.out, rfl, HXS.out, ?_⟩⟩), HFW.out⟩, HOWX.out.below HQ.out⟩
     rw [HAF.out])
 ·have HV := Lib.hid hv
  clear hv
  go_enter Tryz.func6, Tryz.ntmps6
  go_wp2_with fail
  rw [← HW.out]
  refine (Decides.no HVA.out HV.out).mono ?_
  rintro e w1 ⟨rfl, hb1⟩
  have HB1 := Lib.hid (HB0.out.trans (hb1.mono HB0.out.size))
  clear hb1 HVA
  go_wp2
  ((try simp only [Exit.inBlock, Exit.then]); refine bodyPost_ret (results_tmp4 rfl _ _ _) rfl ?_)
  exact dt_none HB1.out (.inl ⟨HV.out, rfl, rfl, rfl, rfl⟩)

end Go.Proofs.YthofaoabgbgbdaaGreatDoor

namespace Go.Proofs.YthofaoabgbgbdaaGreatDoor
open Go Go.RowKit


/-- The system, the sets, the code. -/
def DetIs (t : Lts) (d : Lts) (xss : List (List Int)) (code : Int) : Prop :=
 (¬ Valid t ∧ d = ⟨0, 0, [], []⟩ ∧ xss = [] ∧ code = 1) ∨ (Valid t ∧ DFull t ∧ d = ⟨0, 0, [], []⟩ ∧ xss = [] ∧ code = 5) ∨ (Valid t ∧ ∃ st, DOk t st ∧ d = dSys t st ∧ xss = st.rows ∧ code = 0)
theorem DetIs.unique {t d d' : Lts} {xss xss' : List (List Int)} {code code' : Int} (h : DetIs t d xss code) (k : DetIs t d' xss' code') : d = d' ∧ xss = xss' ∧ code = code' := by
 rcases h with ⟨h1, h2, h3, h4⟩ | ⟨h1, h2, h3, h4, h5⟩ | ⟨h1, st, h2, h3, h4, h5⟩ <;> rcases k with ⟨k1, k2, k3, k4⟩ | ⟨k1, k2, k3, k4, k5⟩ | ⟨k1, st', k2, k3, k4, k5⟩ <;>
  first
  | exact absurd k1 h1
  | exact absurd h1 k1
  | exact absurd k2 h2.not_full
  | exact absurd h2 k2.not_full
  | exact ⟨h2.trans k2.symm, h3.trans k3.symm, h4.trans k4.symm⟩
  | exact ⟨h3.trans k3.symm, h4.trans k4.symm, h5.trans k5.symm⟩
  | (have := h2.1.unique k2.1; subst this; exact ⟨h3.trans k3.symm, h4.trans k4.symm, h5.trans k5.symm⟩)
/-- Ascending numbers below n are at most n. -/
theorem asc_few : ∀ (n : Nat) (l : List Int), l.Pairwise (· < ·) → (∀ x ∈ l, 0 ≤ x ∧ x < n) → l.length ≤ n
 | n, [], _, _ => by simp
 | 0, a :: l, _, h => by have := h a (by simp); omega
 | n + 1, a :: l, hp, h => by
  have hr : ∀ (k : Int) (m : List Int), m.Pairwise (· < ·) → (∀ x ∈ m, k ≤ x) → ∀ i (hi : i < m.length), k + i ≤ m[i] := by
   intro k m
   induction m generalizing k with
   | nil => intro _ _ i hi; simp at hi
   | cons b m ih =>
    intro hp hk i hi
    rw [List.pairwise_cons] at hp
    cases i with
    | zero => simpa using hk b (by simp)
    | succ i =>
     have h1 := ih (k + 1) hp.2 (fun x hx => by have h2 := hp.1 x hx; have h3 := hk b (by simp); omega) i (by simpa using hi)
     simp only [List.getElem_cons_succ]
     omega
  have h1 := hr 0 (a :: l) hp (fun x hx => (h x hx).1) l.length (by simp)
  have h2 := h ((a :: l)[l.length]'(by simp)) (List.getElem_mem _)
  simp only [List.length_cons]
  omega
theorem total_few {n : Nat} : ∀ {l : List (List Int)}, (∀ r ∈ l, r.length ≤ n) → total l ≤ n * l.length
 | [], _ => by simp [total]
 | a :: l, h => by
  have h1 := h a (by simp)
  have h2 := total_few (l := l) (fun r hr => h r (List.mem_cons_of_mem _ hr))
  simp only [total, List.length_cons, Nat.mul_add, Nat.mul_one]
  omega
theorem DetIs.few {t d : Lts} {xss : List (List Int)} {code : Int} (h : DetIs t d xss code) : (d.labels.length ≤ 12 ∧ d.edges.length ≤ 300) ∧ total xss ≤ 1600 := by
 rcases h with ⟨-, rfl, rfl, -⟩ | ⟨-, -, rfl, rfl, -⟩ | ⟨hv, st, h, rfl, rfl, -⟩
 ·simp [total]
 ·simp [total]
 ·have hG := dok_good hv h
  refine ⟨⟨hv.labels.most, h.2.2⟩, ?_⟩
  have hs := hv.st1
  have h0 := hv.st0
  have := total_few (n := 40) (l := st.rows) (fun r hr => asc_few 40 r (hG.rows r hr).2.1 (fun x hx => by have := (hG.rows r hr).1 x hx; omega))
  have := h.2.1
  have h4 : 40 * st.rows.length ≤ 40 * 40 := Nat.mul_le_mul_left 40 this
  omega
def RetDet (t : Lts) (w : World) (e : Ending) (w' : World) : Prop :=
 Below w.heap.size w w' ∧ ∃ (d : Lts) (xss : List (List Int)) (code : Int) (lv ev v : Value) (vs : List Value), e = .returned (.tuple #[.agg #[.int .i64 d.states, .int .i64 d.initial, lv, ev], v, .int .i64 code]) ∧ DetIs t d xss code ∧ OwnLts w.heap.size w' lv ev d ∧ OwnIntss 34 2 w.heap.size w' v vs xss
theorem det_none {t : Lts} {code : Int} {w w' : World} (hb : Below w.heap.size w w') (h : DetIs t ⟨0, 0, [], []⟩ [] code) : RetDet t w (.returned (.tuple #[.agg #[.int .i64 0, .int .i64 0, .slice none 0 0, .slice none 0 0], .slice none 0 0, .int .i64 code])) w' :=
 ⟨hb, ⟨0, 0, [], []⟩, [], code, _, _, _, [], rfl, h, ⟨World.ownsRow_nil _ _ _ _, World.ownsRow_nil _ _ _ _⟩, rfl, World.ownsRow_nil _ _ _ _, (fun _ h => absurd h (Nat.not_lt_zero _)), (fun _ _ h => absurd h (Nat.not_lt_zero _)), fun _ h => absurd h (Nat.not_lt_zero _)⟩

end Go.Proofs.YthofaoabgbgbdaaGreatDoor

namespace Go.Proofs.YthofaoabgbgbdaaGreatDoor
open Go Go.RowKit


theorem idet_results {w : World} {b : Nat} {v0 v1 v2 v3 : Value} {tmps : Array Value} (hc : tmps.getD 2 undef = .pointer (some ⟨b, 0, none⟩)) (hb : Blk w b [v0, v1, v2, v3] 27) :
  (results Tryz.f7 tmps).run Tryz.prog w = .ok (.tuple #[.agg #[v0, v1, v2, v3], tmps.getD 3 undef, tmps.getD 4 undef]) w := by
 have h0 := hb.cell 0 rfl
 have h1 := hb.cell 1 rfl
 have h2 := hb.cell 2 rfl
 have h3 := hb.cell 3 rfl
 simp only [Array.getD_eq_getD_getElem?] at hc
 simp [results, Tryz.results7, go_sem, hc, h0, h1, h2, h3, Result.andThen]

set_option maxRecDepth 100000 in
set_option maxHeartbeats 4000000 in
theorem implDeterminizeLts_any (lo : Nat) (t : Lts) (lv ev : Value) (w : World) (hsh : Short20 t.labels) (hl : SliceK 1 encS lo w lv t.labels) (he : SliceK 3 encE lo w ev t.edges) (g : Glob w) :
  Calls Tryz.prog 7 #[.agg #[.int .i64 t.states, .int .i64 t.initial, lv, ev]] w (RetDet t w) := by
 obtain ⟨tb, htb⟩ : ∃ tb, tb = w.heap.size := ⟨_, rfl⟩
 obtain ⟨wA, hwA⟩ : ∃ wA, wA = (w.alloc (.cells #[.int .i64 t.states, .int .i64 t.initial, lv, ev] 27)).alloc (.cells #[.int .i64 0, .int .i64 0, .slice none 0 0, .slice none 0 0] 27) := ⟨_, rfl⟩
 have hbA : Below w.heap.size w wA := by rw [hwA]; exact ((Below.refl _ _).alloc (Nat.le_refl _) _).alloc (by simp) _
 have hT : Blk wA tb [.int .i64 t.states, .int .i64 t.initial, lv, ev] 27 := by rw [hwA, htb]; exact (Blk.new w _ _).alloc _
 have hR : Blk wA (tb + 1) [.int .i64 0, .int .i64 0, .slice none 0 0, .slice none 0 0] 27 := by
  have := Blk.new (w.alloc (.cells #[.int .i64 t.states, .int .i64 t.initial, lv, ev] 27)) [.int .i64 0, .int .i64 0, .slice none 0 0, .slice none 0 0] 27
  rw [World.size_alloc, ← htb] at this
  rw [hwA]
  exact this
 have HSH := Lib.hid hsh
 have HL := Lib.hid (hl.below hbA)
 have HE := Lib.hid (he.below hbA)
 have HG := Lib.hid (g.below hbA)
 have HBA := Lib.hid hbA
 have HT := Lib.hid hT
 have HR := Lib.hid hR
 have HWA := Lib.hid hwA
 have HTB := Lib.hid htb
 have hsW : w.heap.size ≤ wA.heap.size := hbA.size
 have hle : w.heap.size ≤ tb + 1 := by rw [htb]; omega
 skip
 clear hsh hl he g hwA hbA hT hR htb
 by_cases hv : Valid t
 ·have HV := Lib.hid hv
  have HVA : Hid (Calls Tryz.prog 15 #[.agg #[.int .i64 t.states, .int .i64 t.initial, lv, ev]] wA fun e w' => e = .returned (.bool true) ∧ Below wA.heap.size wA w') := Valid_yes hv HSH.out HL.out HE.out HG.out
  clear hv
  go_enter Tryz.func7, Tryz.ntmps7
  go_wp2_with fail
  rw [← HWA.out]
  refine Calls.mono HVA.out ?_
  rintro e w1 ⟨rfl, hb1⟩
  have HB1 := Lib.hid hb1
  have HR1 := Lib.hid (HR.out.below hb1)
  have HT1 := Lib.hid (HT.out.below hb1)
  have t0 := HT1.out.cell 0 rfl
  have t1 := HT1.out.cell 1 rfl
  have t2 := HT1.out.cell 2 rfl
  have t3 := HT1.out.cell 3 rfl
  have HD : Hid (Calls Tryz.prog 20 #[.agg #[.int .i64 t.states, .int .i64 t.initial, lv, ev]] w1 (RetSets t w1)) := determinize_any lo t lv ev w1 HV.out HSH.out (HL.out.below hb1) (HE.out.below hb1) (HG.out.below hb1)
  clear hb1
  rw [← HTB.out]
  go_wp2_with fail
  refine Calls.mono HD.out ?_
  rintro e w3 ⟨hb3, ⟨hfull, rfl⟩ | ⟨st, lvS, vr, evS, hok, rfl, hmem, hol⟩⟩
  ·obtain ⟨W3, hW3⟩ : ∃ W3, W3 = w3.alloc (.cells #[.int .i64 0, .int .i64 0, .slice none 0 0, .slice none 0 0] 27) := ⟨_, rfl⟩
   have hb4 : Below w3.heap.size w3 W3 := by rw [hW3]; exact (Below.refl _ _).alloc (Nat.le_refl _) _
   have HF := Lib.hid hfull
   have HB4 := Lib.hid (HB1.out.trans ((hb3.trans (hb4.mono hb3.size)).mono HB1.out.size))
   have HR4 := Lib.hid ((HR1.out.below hb3).below hb4)
   have HW3 := Lib.hid hW3
   have r0 := HR4.out.cell 0 rfl
   have r1 := HR4.out.cell 1 rfl
   have r2 := HR4.out.cell 2 rfl
   have r3 := HR4.out.cell 3 rfl
   have s0 := HR4.out.frozen 0
   have s1 := HR4.out.frozen 1
   have s2 := HR4.out.frozen 2
   have s3 := HR4.out.frozen 3
   rw [hW3] at r0 r1 r2 r3 s0 s1 s2 s3
   clear hfull hb3 hb4 hW3 t0 t1 t2 t3
   go_wp2
   rw [← HW3.out]
   refine bodyPost_ret (idet_results rfl ((((HR4.out.set 0 _).set 1 _).set 2 _).set 3 _)) rfl ?_
   exact det_none (((((HBA.out.trans (HB4.out.mono hsW)).setCell hle _).setCell hle _).setCell hle _).setCell hle _) (.inr (.inl ⟨HV.out, HF.out, rfl, rfl, rfl⟩))
  ·obtain ⟨la, lc, rfl, -, -⟩ := owns_slice hol
   obtain ⟨ea, ec, rfl, -, -⟩ := owns_slice hmem.2
   obtain ⟨⟨vs, hiv⟩, hme⟩ := hmem
   obtain ⟨R, hRR⟩ : ∃ R, R = st.rows.length := ⟨_, rfl⟩
   obtain ⟨LN, hLN⟩ : ∃ LN, LN = t.labels.length := ⟨_, rfl⟩
   obtain ⟨EN, hEN⟩ : ∃ EN, EN = st.edges.length := ⟨_, rfl⟩
   have HME := Lib.hid hme
   have HML := Lib.hid hol
   rw [← hLN] at HML
   rw [← hEN] at HME
   rw [← hRR, ← hLN, ← hEN]
   obtain ⟨W3, hW3⟩ : ∃ W3, W3 = w3.alloc (.cells #[.int .i64 R, .int .i64 0, .slice la LN lc, .slice ea EN ec] 27) := ⟨_, rfl⟩
   have hb4 : Below w3.heap.size w3 W3 := by rw [hW3]; exact (Below.refl _ _).alloc (Nat.le_refl _) _
   have hX : Blk W3 w3.heap.size [.int .i64 R, .int .i64 0, .slice la LN lc, .slice ea EN ec] 27 := by rw [hW3]; exact Blk.new _ _ _
   have HOK := Lib.hid hok
   have HB4 := Lib.hid (HB1.out.trans ((hb3.trans (hb4.mono hb3.size)).mono HB1.out.size))
   have HR4 := Lib.hid ((HR1.out.below hb3).below hb4)
   have HW3 := Lib.hid hW3
   have HRR := Lib.hid hRR
   have HLN := Lib.hid hLN
   have HEN := Lib.hid hEN
   have hss := Nat.le_trans hsW HB1.out.size
   have HME4 := Lib.hid (own_lower (owns_below HME.out hb4) hss)
   have HML4 := Lib.hid (own_lower (owns_below HML.out hb4) hss)
   have HIV4 := Lib.hid ((hiv.below hb4).lower hss)
   have r0 := HR4.out.cell 0 rfl
   have r1 := HR4.out.cell 1 rfl
   have r2 := HR4.out.cell 2 rfl
   have r3 := HR4.out.cell 3 rfl
   have s0 := HR4.out.frozen 0
   have s1 := HR4.out.frozen 1
   have s2 := HR4.out.frozen 2
   have s3 := HR4.out.frozen 3
   rw [hW3] at r0 r1 r2 r3 s0 s1 s2 s3
   clear hok hb3 hb4 hW3 t0 t1 t2 t3 hme hiv hol hRR hLN hEN HME HML hX
   go_wp2
   rw [← HW3.out]
   refine bodyPost_ret (idet_results rfl ((((HR4.out.set 0 _).set 1 _).set 2 _).set 3 _)) rfl ?_
   refine ⟨((((HBA.out.trans (HB4.out.mono hsW)).setCell hle _).setCell hle _).setCell hle _).setCell hle _, dSys t st, st.rows, 0, .slice la LN lc, .slice ea EN ec, vr, vs, by rw [HRR.out]; rfl, .inr (.inr ⟨HV.out, st, HOK.out, rfl, rfl, rfl⟩), ⟨?_, ?_⟩, ?_⟩
   ·show World.ownsRow _ _ _ _ _ t.labels.length _
    rw [← HLN.out]; exact own4 HR4.out HML4.out (by decide)
   ·show World.ownsRow _ _ _ _ _ st.edges.length _
    rw [← HEN.out]; exact own4 HR4.out HME4.out (by decide)
   ·exact (((HIV4.out.set1 HR4.out (by decide) (by decide) 0 _).set1 (HR4.out.set 0 _) (by decide) (by decide) 1 _).set1 ((HR4.out.set 0 _).set 1 _) (by decide) (by decide) 2 _).set1 (((HR4.out.set 0 _).set 1 _).set 2 _) (by decide) (by decide) 3 _
 ·have HV := Lib.hid hv
  have HVA : Hid (Calls Tryz.prog 15 #[.agg #[.int .i64 t.states, .int .i64 t.initial, lv, ev]] wA fun e w' => e = .returned (.bool false) ∧ Below wA.heap.size wA w') := Valid_no hv HSH.out HL.out HE.out HG.out
  clear hv
  go_enter Tryz.func7, Tryz.ntmps7
  go_wp2_with fail
  rw [← HWA.out]
  refine Calls.mono HVA.out ?_
  rintro e w1 ⟨rfl, hb1⟩
  have HB1 := Lib.hid hb1
  have HR1 := Lib.hid (HR.out.below hb1)
  have r0 := HR1.out.cell 0 rfl
  have r1 := HR1.out.cell 1 rfl
  have r2 := HR1.out.cell 2 rfl
  have r3 := HR1.out.cell 3 rfl
  have s0 := HR1.out.frozen 0
  have s1 := HR1.out.frozen 1
  have s2 := HR1.out.frozen 2
  have s3 := HR1.out.frozen 3
  clear hb1
  rw [← HTB.out]
  go_wp2
  refine bodyPost_ret (idet_results rfl ((((HR1.out.set 0 _).set 1 _).set 2 _).set 3 _)) rfl ?_
  exact det_none (((((HBA.out.trans (HB1.out.mono hsW)).setCell hle _).setCell hle _).setCell hle _).setCell hle _) (.inl ⟨HV.out, rfl, rfl, rfl⟩)

end Go.Proofs.YthofaoabgbgbdaaGreatDoor
