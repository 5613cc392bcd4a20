/-
  DeterminizeLts: the reference's and the implementation's.
-/
import Derived.Test.YtbbffbnfppbibaaGreatDoorCx21
import Derived.Test.YtbbffbnfppbibaaGreatDoorCx22
import Derived.Test.YtbbffbnfppbibaaGreatDoorCx25
namespace Go.Proofs.YtbbffbnfppbibaaGreatDoor
open Go Go.RowKit

/-- The system, the sets, the code. -/
def DetIs (t : Lts) (d : Lts) (xss : List (List Int)) (code : Int) : Prop :=
  (¬ Valid t ∧ d = ⟨0, 0, [], []⟩ ∧ xss = [] ∧ code = 1) ∨ (Valid t ∧ DFull t ∧ d = ⟨0, 0, [], []⟩ ∧ xss = [] ∧ code = 5) ∨ (Valid t ∧ ∃ st, DOk t st ∧ d = dSys t st ∧ xss = st.rows ∧ code = 0)
theorem DetIs.unique {t d d' : Lts} {xss xss' : List (List Int)} {code code' : Int} (h : DetIs t d xss code) (k : DetIs t d' xss' code') : d = d' ∧ xss = xss' ∧ code = code' := by
  rcases h with ⟨h1, h2, h3, h4⟩ | ⟨h1, h2, h3, h4, h5⟩ | ⟨h1, st, h2, h3, h4, h5⟩ <;> rcases k with ⟨k1, k2, k3, k4⟩ | ⟨k1, k2, k3, k4, k5⟩ | ⟨k1, st', k2, k3, k4, k5⟩ <;>
    first
    | exact absurd k1 h1
    | exact absurd h1 k1
    | exact absurd k2 h2.not_full
    | exact absurd h2 k2.not_full
    | exact ⟨h2.trans k2.symm, h3.trans k3.symm, h4.trans k4.symm⟩
    | exact ⟨h3.trans k3.symm, h4.trans k4.symm, h5.trans k5.symm⟩
    | (have := h2.1.unique k2.1; subst this; exact ⟨h3.trans k3.symm, h4.trans k4.symm, h5.trans k5.symm⟩)
/-- Ascending numbers below n are at most n. -/
theorem asc_few : ∀ (n : Nat) (l : List Int), l.Pairwise (· < ·) → (∀ x ∈ l, 0 ≤ x ∧ x < n) → l.length ≤ n
  | n, [], _, _ => by simp
  | 0, a :: l, _, h => by have := h a (by simp); omega
  | n + 1, a :: l, hp, h => by
    have hr : ∀ (k : Int) (m : List Int), m.Pairwise (· < ·) → (∀ x ∈ m, k ≤ x) → ∀ i (hi : i < m.length), k + i ≤ m[i] := by
      intro k m
      induction m generalizing k with
      | nil => intro _ _ i hi; simp at hi
      | cons b m ih =>
        intro hp hk i hi
        rw [List.pairwise_cons] at hp
        cases i with
        | zero => simpa using hk b (by simp)
        | succ i =>
          have h1 := ih (k + 1) hp.2 (fun x hx => by have h2 := hp.1 x hx; have h3 := hk b (by simp); omega) i (by simpa using hi)
          simp only [List.getElem_cons_succ]
          omega
    have h1 := hr 0 (a :: l) hp (fun x hx => (h x hx).1) l.length (by simp)
    have h2 := h ((a :: l)[l.length]'(by simp)) (List.getElem_mem _)
    simp only [List.length_cons]
    omega
theorem total_few {n : Nat} : ∀ {l : List (List Int)}, (∀ r ∈ l, r.length ≤ n) → total l ≤ n * l.length
  | [], _ => by simp [total]
  | a :: l, h => by
    have h1 := h a (by simp)
    have h2 := total_few (l := l) (fun r hr => h r (List.mem_cons_of_mem _ hr))
    simp only [total, List.length_cons, Nat.mul_add, Nat.mul_one]
    omega
theorem DetIs.few {t d : Lts} {xss : List (List Int)} {code : Int} (h : DetIs t d xss code) : (d.labels.length ≤ 12 ∧ d.edges.length ≤ 300) ∧ total xss ≤ 1600 := by
  rcases h with ⟨-, rfl, rfl, -⟩ | ⟨-, -, rfl, rfl, -⟩ | ⟨hv, st, h, rfl, rfl, -⟩
  · simp [total]
  · simp [total]
  · have hG := dok_good hv h
    refine ⟨⟨hv.labels.most, h.2.2⟩, ?_⟩
    have hs := hv.st1
    have h0 := hv.st0
    have := total_few (n := 40) (l := st.rows) (fun r hr => asc_few 40 r (hG.rows r hr).2.1 (fun x hx => by have := (hG.rows r hr).1 x hx; omega))
    have := h.2.1
    have h4 : 40 * st.rows.length ≤ 40 * 40 := Nat.mul_le_mul_left 40 this
    omega
def RetDet (t : Lts) (w : World) (e : Ending) (w' : World) : Prop :=
  Below w.heap.size w w' ∧ ∃ (d : Lts) (xss : List (List Int)) (code : Int) (lv ev v : Value) (vs : List Value), e = .returned (.tuple #[.agg #[.int .i64 d.states, .int .i64 d.initial, lv, ev], v, .int .i64 code]) ∧ DetIs t d xss code ∧ OwnLts w.heap.size w' lv ev d ∧ OwnIntss 60 2 w.heap.size w' v vs xss
theorem det_none {t : Lts} {code : Int} {w w' : World} (hb : Below w.heap.size w w') (h : DetIs t ⟨0, 0, [], []⟩ [] code) : RetDet t w (.returned (.tuple #[.agg #[.int .i64 0, .int .i64 0, .slice none 0 0, .slice none 0 0], .slice none 0 0, .int .i64 code])) w' :=
  ⟨hb, ⟨0, 0, [], []⟩, [], code, _, _, _, [], rfl, h, ⟨World.ownsRow_nil _ _ _ _, World.ownsRow_nil _ _ _ _⟩, rfl, World.ownsRow_nil _ _ _ _, (fun i h => absurd h (Nat.not_lt_zero _)), (fun i j h => absurd h (Nat.not_lt_zero _)), fun i h => absurd h (Nat.not_lt_zero _)⟩

theorem sdet_results {w : World} {b : Nat} {v0 v1 v2 v3 : Value} {tmps : Array Value} (hc : tmps.getD 2 undef = .pointer (some ⟨b, 0, none⟩)) (hb : Blk w b [v0, v1, v2, v3] 31) :
    (results Tryz.f14 tmps).run Tryz.prog w = .ok (.tuple #[.agg #[v0, v1, v2, v3], tmps.getD 3 undef, tmps.getD 4 undef]) w := by
  have h0 := hb.cell 0 rfl
  have h1 := hb.cell 1 rfl
  have h2 := hb.cell 2 rfl
  have h3 := hb.cell 3 rfl
  simp only [Array.getD_eq_getD_getElem?] at hc
  simp [results, Tryz.results14, go_sem, hc, h0, h1, h2, h3, Result.andThen]

set_option maxRecDepth 100000 in
set_option maxHeartbeats 4000000 in
theorem specDeterminizeLts_any (lo : Nat) (t : Lts) (lv ev : Value) (w : World) (hsh : Short t.labels) (hl : SliceK 1 encS lo w lv t.labels) (he : SliceK 3 encE lo w ev t.edges) :
    Calls Tryz.prog 14 #[.agg #[.int .i64 t.states, .int .i64 t.initial, lv, ev]] w (RetDet t w) := by
  obtain ⟨tb, htb⟩ : ∃ tb, tb = w.heap.size := ⟨_, rfl⟩
  obtain ⟨wA, hwA⟩ : ∃ wA, wA = (w.alloc (.cells #[.int .i64 t.states, .int .i64 t.initial, lv, ev] 31)).alloc (.cells #[.int .i64 0, .int .i64 0, .slice none 0 0, .slice none 0 0] 31) := ⟨_, rfl⟩
  have hbA : Below w.heap.size w wA := by rw [hwA]; exact ((Below.refl _ _).alloc (Nat.le_refl _) _).alloc (by simp) _
  have hT : Blk wA tb [.int .i64 t.states, .int .i64 t.initial, lv, ev] 31 := by rw [hwA, htb]; exact (Blk.new w _ _).alloc _
  have hR : Blk wA (tb + 1) [.int .i64 0, .int .i64 0, .slice none 0 0, .slice none 0 0] 31 := by
    have := Blk.new (w.alloc (.cells #[.int .i64 t.states, .int .i64 t.initial, lv, ev] 31)) [.int .i64 0, .int .i64 0, .slice none 0 0, .slice none 0 0] 31
    rw [World.size_alloc, ← htb] at this
    rw [hwA]
    exact this
  have HSH := Lib.hid hsh
  have HL := Lib.hid (hl.below hbA)
  have HE := Lib.hid (he.below hbA)
  skip
  have HBA := Lib.hid hbA
  have HT := Lib.hid hT
  have HR := Lib.hid hR
  have HWA := Lib.hid hwA
  have HTB := Lib.hid htb
  have hsW : w.heap.size ≤ wA.heap.size := hbA.size
  have hle : w.heap.size ≤ tb + 1 := by rw [htb]; omega
  have HP : Hid (LtsPtr lo wA tb t) := ⟨lv, ev, hT.lt, hT.cell 0 rfl, hT.cell 1 rfl, hT.cell 2 rfl, hT.cell 3 rfl, HL.out, HE.out⟩
  clear hsh hl he  hwA hbA hT hR htb
  by_cases hv : Valid t
  · have HV := Lib.hid hv
    have HVA : Hid (Calls Tryz.prog 37 #[.pointer (some ⟨tb, 0, none⟩)] wA fun e w' => e = .returned (.bool true) ∧ Below wA.heap.size wA w') := Decides.yes (l11Is_any _ lo t _ HSH.out HP.out) hv
    clear hv
    go_enter Tryz.func14, Tryz.ntmps14
    go_wp2_with fail
    rw [← HWA.out, ← HTB.out]
    refine Calls.mono HVA.out ?_
    rintro e w1 ⟨rfl, hb1⟩
    have HB1 := Lib.hid hb1
    have HR1 := Lib.hid (HR.out.below hb1)
    have HT1 := Lib.hid (HT.out.below hb1)
    have t0 := HT1.out.cell 0 rfl
    have t1 := HT1.out.cell 1 rfl
    have t2 := HT1.out.cell 2 rfl
    have t3 := HT1.out.cell 3 rfl
    have HD : Hid (Calls Tryz.prog 39 #[.pointer (some ⟨tb, 0, none⟩)] w1 (RetSets t w1)) := l12Sets_any _ lo t _ HV.out (HP.out.below hb1)
    clear hb1
    skip
    go_wp2_with fail
    refine Calls.mono HD.out ?_
    rintro e w3 ⟨hb3, ⟨hfull, rfl⟩ | ⟨st, lvS, vr, evS, hok, rfl, hmem, hol⟩⟩
    · obtain ⟨W3, hW3⟩ : ∃ W3, W3 = w3.alloc (.cells #[.int .i64 0, .int .i64 0, .slice none 0 0, .slice none 0 0] 31) := ⟨_, rfl⟩
      have hb4 : Below w3.heap.size w3 W3 := by rw [hW3]; exact (Below.refl _ _).alloc (Nat.le_refl _) _
      have HF := Lib.hid hfull
      have HB4 := Lib.hid (HB1.out.trans ((hb3.trans (hb4.mono hb3.size)).mono HB1.out.size))
      have HR4 := Lib.hid ((HR1.out.below hb3).below hb4)
      have HW3 := Lib.hid hW3
      have r0 := HR4.out.cell 0 rfl
      have r1 := HR4.out.cell 1 rfl
      have r2 := HR4.out.cell 2 rfl
      have r3 := HR4.out.cell 3 rfl
      have s0 := HR4.out.frozen 0
      have s1 := HR4.out.frozen 1
      have s2 := HR4.out.frozen 2
      have s3 := HR4.out.frozen 3
      rw [hW3] at r0 r1 r2 r3 s0 s1 s2 s3
      clear hfull hb3 hb4 hW3 t0 t1 t2 t3
      go_wp2
      rw [← HW3.out]
      refine bodyPost_ret (sdet_results rfl ((((HR4.out.set 0 _).set 1 _).set 2 _).set 3 _)) rfl ?_
      exact det_none (((((HBA.out.trans (HB4.out.mono hsW)).setCell hle _).setCell hle _).setCell hle _).setCell hle _) (.inr (.inl ⟨HV.out, HF.out, rfl, rfl, rfl⟩))
    · obtain ⟨la, lc, rfl, -, -⟩ := owns_slice hol
      obtain ⟨ea, ec, rfl, -, -⟩ := owns_slice hmem.2
      obtain ⟨⟨vs, hiv⟩, hme⟩ := hmem
      obtain ⟨R, hRR⟩ : ∃ R, R = st.rows.length := ⟨_, rfl⟩
      obtain ⟨LN, hLN⟩ : ∃ LN, LN = t.labels.length := ⟨_, rfl⟩
      obtain ⟨EN, hEN⟩ : ∃ EN, EN = st.edges.length := ⟨_, rfl⟩
      have HME := Lib.hid hme
      have HML := Lib.hid hol
      rw [← hLN] at HML
      rw [← hEN] at HME
      rw [← hRR, ← hLN, ← hEN]
      obtain ⟨W3, hW3⟩ : ∃ W3, W3 = w3.alloc (.cells #[.int .i64 R, .int .i64 0, .slice la LN lc, .slice ea EN ec] 31) := ⟨_, rfl⟩
      have hb4 : Below w3.heap.size w3 W3 := by rw [hW3]; exact (Below.refl _ _).alloc (Nat.le_refl _) _
      have hX : Blk W3 w3.heap.size [.int .i64 R, .int .i64 0, .slice la LN lc, .slice ea EN ec] 31 := by rw [hW3]; exact Blk.new _ _ _
      have HOK := Lib.hid hok
      have HB4 := Lib.hid (HB1.out.trans ((hb3.trans (hb4.mono hb3.size)).mono HB1.out.size))
      have HR4 := Lib.hid ((HR1.out.below hb3).below hb4)
      have HW3 := Lib.hid hW3
      have HRR := Lib.hid hRR
      have HLN := Lib.hid hLN
      have HEN := Lib.hid hEN
      have hss := Nat.le_trans hsW HB1.out.size
      have HME4 := Lib.hid (own_lower (owns_below HME.out hb4) hss)
      have HML4 := Lib.hid (own_lower (owns_below HML.out hb4) hss)
      have HIV4 := Lib.hid ((hiv.below hb4).lower hss)
      have r0 := HR4.out.cell 0 rfl
      have r1 := HR4.out.cell 1 rfl
      have r2 := HR4.out.cell 2 rfl
      have r3 := HR4.out.cell 3 rfl
      have s0 := HR4.out.frozen 0
      have s1 := HR4.out.frozen 1
      have s2 := HR4.out.frozen 2
      have s3 := HR4.out.frozen 3
      rw [hW3] at r0 r1 r2 r3 s0 s1 s2 s3
      clear hok hb3 hb4 hW3 t0 t1 t2 t3 hme hiv hol hRR hLN hEN HME HML hX
      go_wp2
      rw [← HW3.out]
      refine bodyPost_ret (sdet_results rfl ((((HR4.out.set 0 _).set 1 _).set 2 _).set 3 _)) rfl ?_
      refine ⟨((((HBA.out.trans (HB4.out.mono hsW)).setCell hle _).setCell hle _).setCell hle _).setCell hle _, dSys t st, st.rows, 0, .slice la LN lc, .slice ea EN ec, vr, vs, by rw [HRR.out]; rfl, .inr (.inr ⟨HV.out, st, HOK.out, rfl, rfl, rfl⟩), ⟨?_, ?_⟩, ?_⟩
      · show World.ownsRow _ _ _ _ _ t.labels.length _
        rw [← HLN.out]; exact own4 HR4.out HML4.out (by decide)
      · show World.ownsRow _ _ _ _ _ st.edges.length _
        rw [← HEN.out]; exact own4 HR4.out HME4.out (by decide)
      · exact (((HIV4.out.set1 HR4.out (by decide) (by decide) 0 _).set1 (HR4.out.set 0 _) (by decide) (by decide) 1 _).set1 ((HR4.out.set 0 _).set 1 _) (by decide) (by decide) 2 _).set1 (((HR4.out.set 0 _).set 1 _).set 2 _) (by decide) (by decide) 3 _
  · have HV := Lib.hid hv
    have HVA : Hid (Calls Tryz.prog 37 #[.pointer (some ⟨tb, 0, none⟩)] wA fun e w' => e = .returned (.bool false) ∧ Below wA.heap.size wA w') := Decides.no (l11Is_any _ lo t _ HSH.out HP.out) hv
    clear hv
    go_enter Tryz.func14, Tryz.ntmps14
    go_wp2_with fail
    rw [← HWA.out, ← HTB.out]
    refine Calls.mono HVA.out ?_
    rintro e w1 ⟨rfl, hb1⟩
    have HB1 := Lib.hid hb1
    have HR1 := Lib.hid (HR.out.below hb1)
    have r0 := HR1.out.cell 0 rfl
    have r1 := HR1.out.cell 1 rfl
    have r2 := HR1.out.cell 2 rfl
    have r3 := HR1.out.cell 3 rfl
    have s0 := HR1.out.frozen 0
    have s1 := HR1.out.frozen 1
    have s2 := HR1.out.frozen 2
    have s3 := HR1.out.frozen 3
    clear hb1
    skip
    go_wp2
    refine bodyPost_ret (sdet_results rfl ((((HR1.out.set 0 _).set 1 _).set 2 _).set 3 _)) rfl ?_
    exact det_none (((((HBA.out.trans (HB1.out.mono hsW)).setCell hle _).setCell hle _).setCell hle _).setCell hle _) (.inl ⟨HV.out, rfl, rfl, rfl⟩)

theorem idet_results {w : World} {b : Nat} {v0 v1 v2 v3 : Value} {tmps : Array Value} (hc : tmps.getD 2 undef = .pointer (some ⟨b, 0, none⟩)) (hb : Blk w b [v0, v1, v2, v3] 31) :
    (results Tryz.f15 tmps).run Tryz.prog w = .ok (.tuple #[.agg #[v0, v1, v2, v3], tmps.getD 3 undef, tmps.getD 4 undef]) w := by
  have h0 := hb.cell 0 rfl
  have h1 := hb.cell 1 rfl
  have h2 := hb.cell 2 rfl
  have h3 := hb.cell 3 rfl
  simp only [Array.getD_eq_getD_getElem?] at hc
  simp [results, Tryz.results15, go_sem, hc, h0, h1, h2, h3, Result.andThen]

set_option maxRecDepth 100000 in
set_option maxHeartbeats 4000000 in
theorem implDeterminizeLts_any (lo : Nat) (t : Lts) (lv ev : Value) (w : World) (hsh : Short20 t.labels) (hl : SliceK 1 encS lo w lv t.labels) (he : SliceK 3 encE lo w ev t.edges) (g : Glob w) :
    Calls Tryz.prog 15 #[.agg #[.int .i64 t.states, .int .i64 t.initial, lv, ev]] w (RetDet t w) := by
  obtain ⟨tb, htb⟩ : ∃ tb, tb = w.heap.size := ⟨_, rfl⟩
  obtain ⟨wA, hwA⟩ : ∃ wA, wA = (w.alloc (.cells #[.int .i64 t.states, .int .i64 t.initial, lv, ev] 31)).alloc (.cells #[.int .i64 0, .int .i64 0, .slice none 0 0, .slice none 0 0] 31) := ⟨_, rfl⟩
  have hbA : Below w.heap.size w wA := by rw [hwA]; exact ((Below.refl _ _).alloc (Nat.le_refl _) _).alloc (by simp) _
  have hT : Blk wA tb [.int .i64 t.states, .int .i64 t.initial, lv, ev] 31 := by rw [hwA, htb]; exact (Blk.new w _ _).alloc _
  have hR : Blk wA (tb + 1) [.int .i64 0, .int .i64 0, .slice none 0 0, .slice none 0 0] 31 := by
    have := Blk.new (w.alloc (.cells #[.int .i64 t.states, .int .i64 t.initial, lv, ev] 31)) [.int .i64 0, .int .i64 0, .slice none 0 0, .slice none 0 0] 31
    rw [World.size_alloc, ← htb] at this
    rw [hwA]
    exact this
  have HSH := Lib.hid hsh
  have HL := Lib.hid (hl.below hbA)
  have HE := Lib.hid (he.below hbA)
  have HG := Lib.hid (g.below hbA)
  have HBA := Lib.hid hbA
  have HT := Lib.hid hT
  have HR := Lib.hid hR
  have HWA := Lib.hid hwA
  have HTB := Lib.hid htb
  have hsW : w.heap.size ≤ wA.heap.size := hbA.size
  have hle : w.heap.size ≤ tb + 1 := by rw [htb]; omega
  skip
  clear hsh hl he g hwA hbA hT hR htb
  by_cases hv : Valid t
  · have HV := Lib.hid hv
    have HVA : Hid (Calls Tryz.prog 44 #[.agg #[.int .i64 t.states, .int .i64 t.initial, lv, ev]] wA fun e w' => e = .returned (.bool true) ∧ Below wA.heap.size wA w') := Valid_yes hv HSH.out HL.out HE.out HG.out
    clear hv
    go_enter Tryz.func15, Tryz.ntmps15
    go_wp2_with fail
    rw [← HWA.out]
    refine Calls.mono HVA.out ?_
    rintro e w1 ⟨rfl, hb1⟩
    have HB1 := Lib.hid hb1
    have HR1 := Lib.hid (HR.out.below hb1)
    have HT1 := Lib.hid (HT.out.below hb1)
    have t0 := HT1.out.cell 0 rfl
    have t1 := HT1.out.cell 1 rfl
    have t2 := HT1.out.cell 2 rfl
    have t3 := HT1.out.cell 3 rfl
    have HD : Hid (Calls Tryz.prog 45 #[.agg #[.int .i64 t.states, .int .i64 t.initial, lv, ev]] w1 (RetSets t w1)) := determinize_any lo t lv ev w1 HV.out HSH.out (HL.out.below hb1) (HE.out.below hb1) (HG.out.below hb1)
    clear hb1
    rw [← HTB.out]
    go_wp2_with fail
    refine Calls.mono HD.out ?_
    rintro e w3 ⟨hb3, ⟨hfull, rfl⟩ | ⟨st, lvS, vr, evS, hok, rfl, hmem, hol⟩⟩
    · obtain ⟨W3, hW3⟩ : ∃ W3, W3 = w3.alloc (.cells #[.int .i64 0, .int .i64 0, .slice none 0 0, .slice none 0 0] 31) := ⟨_, rfl⟩
      have hb4 : Below w3.heap.size w3 W3 := by rw [hW3]; exact (Below.refl _ _).alloc (Nat.le_refl _) _
      have HF := Lib.hid hfull
      have HB4 := Lib.hid (HB1.out.trans ((hb3.trans (hb4.mono hb3.size)).mono HB1.out.size))
      have HR4 := Lib.hid ((HR1.out.below hb3).below hb4)
      have HW3 := Lib.hid hW3
      have r0 := HR4.out.cell 0 rfl
      have r1 := HR4.out.cell 1 rfl
      have r2 := HR4.out.cell 2 rfl
      have r3 := HR4.out.cell 3 rfl
      have s0 := HR4.out.frozen 0
      have s1 := HR4.out.frozen 1
      have s2 := HR4.out.frozen 2
      have s3 := HR4.out.frozen 3
      rw [hW3] at r0 r1 r2 r3 s0 s1 s2 s3
      clear hfull hb3 hb4 hW3 t0 t1 t2 t3
      go_wp2
      rw [← HW3.out]
      refine bodyPost_ret (idet_results rfl ((((HR4.out.set 0 _).set 1 _).set 2 _).set 3 _)) rfl ?_
      exact det_none (((((HBA.out.trans (HB4.out.mono hsW)).setCell hle _).setCell hle _).setCell hle _).setCell hle _) (.inr (.inl ⟨HV.out, HF.out, rfl, rfl, rfl⟩))
    · obtain ⟨la, lc, rfl, -, -⟩ := owns_slice hol
      obtain ⟨ea, ec, rfl, -, -⟩ := owns_slice hmem.2
      obtain ⟨⟨vs, hiv⟩, hme⟩ := hmem
      obtain ⟨R, hRR⟩ : ∃ R, R = st.rows.length := ⟨_, rfl⟩
      obtain ⟨LN, hLN⟩ : ∃ LN, LN = t.labels.length := ⟨_, rfl⟩
      obtain ⟨EN, hEN⟩ : ∃ EN, EN = st.edges.length := ⟨_, rfl⟩
      have HME := Lib.hid hme
      have HML := Lib.hid hol
      rw [← hLN] at HML
      rw [← hEN] at HME
      rw [← hRR, ← hLN, ← hEN]
      obtain ⟨W3, hW3⟩ : ∃ W3, W3 = w3.alloc (.cells #[.int .i64 R, .int .i64 0, .slice la LN lc, .slice ea EN ec] 31) := ⟨_, rfl⟩
      have hb4 : Below w3.heap.size w3 W3 := by rw [hW3]; exact (Below.refl _ _).alloc (Nat.le_refl _) _
      have hX : Blk W3 w3.heap.size [.int .i64 R, .int .i64 0, .slice la LN lc, .slice ea EN ec] 31 := by rw [hW3]; exact Blk.new _ _ _
      have HOK := Lib.hid hok
      have HB4 := Lib.hid (HB1.out.trans ((hb3.trans (hb4.mono hb3.size)).mono HB1.out.size))
      have HR4 := Lib.hid ((HR1.out.below hb3).below hb4)
      have HW3 := Lib.hid hW3
      have HRR := Lib.hid hRR
      have HLN := Lib.hid hLN
      have HEN := Lib.hid hEN
      have hss := Nat.le_trans hsW HB1.out.size
      have HME4 := Lib.hid (own_lower (owns_below HME.out hb4) hss)
      have HML4 := Lib.hid (own_lower (owns_below HML.out hb4) hss)
      have HIV4 := Lib.hid ((hiv.below hb4).lower hss)
      have r0 := HR4.out.cell 0 rfl
      have r1 := HR4.out.cell 1 rfl
      have r2 := HR4.out.cell 2 rfl
      have r3 := HR4.out.cell 3 rfl
      have s0 := HR4.out.frozen 0
      have s1 := HR4.out.frozen 1
      have s2 := HR4.out.frozen 2
      have s3 := HR4.out.frozen 3
      rw [hW3] at r0 r1 r2 r3 s0 s1 s2 s3
      clear hok hb3 hb4 hW3 t0 t1 t2 t3 hme hiv hol hRR hLN hEN HME HML hX
      go_wp2
      rw [← HW3.out]
      refine bodyPost_ret (idet_results rfl ((((HR4.out.set 0 _).set 1 _).set 2 _).set 3 _)) rfl ?_
      refine ⟨((((HBA.out.trans (HB4.out.mono hsW)).setCell hle _).setCell hle _).setCell hle _).setCell hle _, dSys t st, st.rows, 0, .slice la LN lc, .slice ea EN ec, vr, vs, by rw [HRR.out]; rfl, .inr (.inr ⟨HV.out, st, HOK.out, rfl, rfl, rfl⟩), ⟨?_, ?_⟩, ?_⟩
      · show World.ownsRow _ _ _ _ _ t.labels.length _
        rw [← HLN.out]; exact own4 HR4.out HML4.out (by decide)
      · show World.ownsRow _ _ _ _ _ st.edges.length _
        rw [← HEN.out]; exact own4 HR4.out HME4.out (by decide)
      · exact (((HIV4.out.set1 HR4.out (by decide) (by decide) 0 _).set1 (HR4.out.set 0 _) (by decide) (by decide) 1 _).set1 ((HR4.out.set 0 _).set 1 _) (by decide) (by decide) 2 _).set1 (((HR4.out.set 0 _).set 1 _).set 2 _) (by decide) (by decide) 3 _
  · have HV := Lib.hid hv
    have HVA : Hid (Calls Tryz.prog 44 #[.agg #[.int .i64 t.states, .int .i64 t.initial, lv, ev]] wA fun e w' => e = .returned (.bool false) ∧ Below wA.heap.size wA w') := Valid_no hv HSH.out HL.out HE.out HG.out
    clear hv
    go_enter Tryz.func15, Tryz.ntmps15
    go_wp2_with fail
    rw [← HWA.out]
    refine Calls.mono HVA.out ?_
    rintro e w1 ⟨rfl, hb1⟩
    have HB1 := Lib.hid hb1
    have HR1 := Lib.hid (HR.out.below hb1)
    have r0 := HR1.out.cell 0 rfl
    have r1 := HR1.out.cell 1 rfl
    have r2 := HR1.out.cell 2 rfl
    have r3 := HR1.out.cell 3 rfl
    have s0 := HR1.out.frozen 0
    have s1 := HR1.out.frozen 1
    have s2 := HR1.out.frozen 2
    have s3 := HR1.out.frozen 3
    clear hb1
    rw [← HTB.out]
    go_wp2
    refine bodyPost_ret (idet_results rfl ((((HR1.out.set 0 _).set 1 _).set 2 _).set 3 _)) rfl ?_
    exact det_none (((((HBA.out.trans (HB1.out.mono hsW)).setCell hle _).setCell hle _).setCell hle _).setCell hle _) (.inl ⟨HV.out, rfl, rfl, rfl⟩)

end Go.Proofs.YtbbffbnfppbibaaGreatDoor
