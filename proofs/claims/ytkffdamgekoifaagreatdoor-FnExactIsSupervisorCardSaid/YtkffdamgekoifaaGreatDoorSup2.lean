/-
  What the implementation's functions on plants compute: whether one is valid, the code of the arguments, where a label leads, what is controlled and what is marked.
-/
import Derived.Test.YtkffdamgekoifaaGreatDoorSup1
namespace Go.Proofs.YtkffdamgekoifaaGreatDoor
open Go Go.RowKit

theorem Decides.iff {p q : Prop} {P : Program} {f : FuncId} {args : Array Value} {w : World} (h : Calls P f args w (Decides p w)) (hpq : p ↔ q) : Calls P f args w (Decides q w) :=
  h.mono fun _ _ ⟨b, he, hb, hw⟩ => ⟨b, he, hb.trans hpq, hw⟩

theorem IsDet_free (lo : Nat) (t : Lts) (lv ev : Value) (w : World) (hsh : Short20 t.labels) (hl : SliceK 1 encS lo w lv t.labels) (he : SliceK 3 encE lo w ev t.edges) (g : Glob w) :
    Calls Tryz.prog 43 #[.agg #[.int .i64 t.states, .int .i64 t.initial, lv, ev]] w (Decides (Free t) w) :=
  Decides.iff (IsDet_any lo t lv ev w hsh hl he g) ⟨fun h => ⟨h.1, h.2⟩, fun h => ⟨h.valid, h.single⟩⟩

theorem box6 {w W : World} {b : Nat} {c0 c1 c2 c3 c4 c5 : Value} {T : TypeId} (_ : b = w.heap.size) (hW : W = w.alloc (.cells #[c0, c1, c2, c3, c4, c5] T)) : Below w.heap.size w W ∧ Blk W w.heap.size [c0, c1, c2, c3, c4, c5] T := by
  subst hW; exact ⟨box_below _ _ _, Blk.new w _ _⟩

set_option maxRecDepth 100000 in
set_option maxHeartbeats 2000000 in
theorem ValidPlant_any (lo : Nat) (p : Plant) (lv ev mv nv : Value) (w : World) (hsh : Short20 p.sys.labels) (hsn : Short20 p.names) (hp : PlantIn lo w lv ev mv nv p) (g : Glob w) :
    Calls Tryz.prog 40 #[.agg #[.int .i64 p.sys.states, .int .i64 p.sys.initial, lv, ev, mv, nv]] w (Decides (PlantOk p) w) := by
  obtain ⟨W, hW⟩ : ∃ W, W = w.alloc (.cells #[.int .i64 p.sys.states, .int .i64 p.sys.initial, lv, ev, mv, nv] 36) := ⟨_, rfl⟩
  obtain ⟨b0, hb0⟩ : ∃ b0, b0 = w.heap.size := ⟨_, rfl⟩
  obtain ⟨hB0, hBX⟩ := box6 hb0 hW
  rw [← hb0] at hBX
  have HB0 := Lib.hid hB0
  have HBX := Lib.hid hBX
  have HW := Lib.hid hW
  have HP := Lib.hid (hp.below hB0)
  have G := Lib.hid (g.below hB0)
  have HSH := Lib.hid hsh
  have HSN := Lib.hid hsn
  have HZ0 := Lib.hid hb0
  obtain ⟨⟨al, cl, rfl, -⟩, ⟨ae, ce, rfl, -⟩, ⟨am, cm, rfl, -⟩, ⟨an, cn, rfl, -⟩⟩ := hp
  clear hsh hsn g hB0 hBX hW hb0
  by_cases hf : Free p.sys
  · have HF := Lib.hid hf
    have hst := hf.valid.st0
    have hst2 := hf.valid.st1
    clear hf
    by_cases hr : Rises p.marks p.sys.states
    · have HR := Lib.hid hr
      clear hr
      by_cases hk : NamesOk p.names
      · have HK := Lib.hid hk
        clear hk
        go_enter Tryz.func40, Tryz.ntmps40
        go_wp2_with fail
        rw [← HW.out]
        refine (Decides.yes (IsDet_free lo p.sys _ _ _ HSH.out HP.out.labels HP.out.edges G.out) HF.out).mono ?_
        rintro e w1 ⟨rfl, hb1⟩
        have HB1 := Lib.hid hb1
        have x0 := (HBX.out.below hb1).cell 0 rfl
        have x1 := (HBX.out.below hb1).cell 1 rfl
        have x2 := (HBX.out.below hb1).cell 2 rfl
        have x3 := (HBX.out.below hb1).cell 3 rfl
        have x4 := (HBX.out.below hb1).cell 4 rfl
        clear hb1
        rw [← HZ0.out]
        go_wp2_with fail
        refine (Decides.yes (statesOk_any lo p.sys _ _ _ p.marks _ hst hst2 (HP.out.marks.below HB1.out)) HR.out).mono ?_
        rintro e w2 ⟨rfl, hb2⟩
        have HB2 := Lib.hid (HB1.out.trans (hb2.mono HB1.out.size))
        clear hb2 x0 x1 x2 x3 x4
        have x5 := (HBX.out.below HB2.out).cell 5 rfl
        go_wp2_with fail
        refine (Decides.yes (namesOk_any lo _ p.names _ HSN.out (HP.out.names.below HB2.out)) HK.out).mono ?_
        rintro e w3 ⟨rfl, hb3⟩
        have HB3 := Lib.hid (HB2.out.trans (hb3.mono HB2.out.size))
        clear hb3 x5
        go_wp2_with fail
        go_ret
        exact ⟨true, rfl, ⟨fun _ => ⟨HF.out, HR.out, HK.out⟩, fun _ => rfl⟩, HB0.out.trans (HB3.out.mono HB0.out.size)⟩
      · have HK := Lib.hid hk
        clear hk
        go_enter Tryz.func40, Tryz.ntmps40
        go_wp2_with fail
        rw [← HW.out]
        refine (Decides.yes (IsDet_free lo p.sys _ _ _ HSH.out HP.out.labels HP.out.edges G.out) HF.out).mono ?_
        rintro e w1 ⟨rfl, hb1⟩
        have HB1 := Lib.hid hb1
        have x0 := (HBX.out.below hb1).cell 0 rfl
        have x1 := (HBX.out.below hb1).cell 1 rfl
        have x2 := (HBX.out.below hb1).cell 2 rfl
        have x3 := (HBX.out.below hb1).cell 3 rfl
        have x4 := (HBX.out.below hb1).cell 4 rfl
        clear hb1
        rw [← HZ0.out]
        go_wp2_with fail
        refine (Decides.yes (statesOk_any lo p.sys _ _ _ p.marks _ hst hst2 (HP.out.marks.below HB1.out)) HR.out).mono ?_
        rintro e w2 ⟨rfl, hb2⟩
        have HB2 := Lib.hid (HB1.out.trans (hb2.mono HB1.out.size))
        clear hb2 x0 x1 x2 x3 x4
        have x5 := (HBX.out.below HB2.out).cell 5 rfl
        go_wp2_with fail
        refine (Decides.no (namesOk_any lo _ p.names _ HSN.out (HP.out.names.below HB2.out)) HK.out).mono ?_
        rintro e w3 ⟨rfl, hb3⟩
        have HB3 := Lib.hid (HB2.out.trans (hb3.mono HB2.out.size))
        clear hb3 x5
        go_wp2_with fail
        go_ret
        exact ⟨false, rfl, ⟨(fun h => by cases h), fun h => absurd h.names HK.out⟩, HB0.out.trans (HB3.out.mono HB0.out.size)⟩
    · have HR := Lib.hid hr
      clear hr
      go_enter Tryz.func40, Tryz.ntmps40
      go_wp2_with fail
      rw [← HW.out]
      refine (Decides.yes (IsDet_free lo p.sys _ _ _ HSH.out HP.out.labels HP.out.edges G.out) HF.out).mono ?_
      rintro e w1 ⟨rfl, hb1⟩
      have HB1 := Lib.hid hb1
      have x0 := (HBX.out.below hb1).cell 0 rfl
      have x1 := (HBX.out.below hb1).cell 1 rfl
      have x2 := (HBX.out.below hb1).cell 2 rfl
      have x3 := (HBX.out.below hb1).cell 3 rfl
      have x4 := (HBX.out.below hb1).cell 4 rfl
      clear hb1
      rw [← HZ0.out]
      go_wp2_with fail
      refine (Decides.no (statesOk_any lo p.sys _ _ _ p.marks _ hst hst2 (HP.out.marks.below HB1.out)) HR.out).mono ?_
      rintro e w2 ⟨rfl, hb2⟩
      have HB2 := Lib.hid (HB1.out.trans (hb2.mono HB1.out.size))
      clear hb2 x0 x1 x2 x3 x4
      go_wp2_with fail
      go_ret
      exact ⟨false, rfl, ⟨(fun h => by cases h), fun h => absurd h.marks HR.out⟩, HB0.out.trans (HB2.out.mono HB0.out.size)⟩
  · have HF := Lib.hid hf
    clear hf
    go_enter Tryz.func40, Tryz.ntmps40
    go_wp2_with fail
    rw [← HW.out]
    refine (Decides.no (IsDet_free lo p.sys _ _ _ HSH.out HP.out.labels HP.out.edges G.out) HF.out).mono ?_
    rintro e w1 ⟨rfl, hb1⟩
    have HB1 := Lib.hid hb1
    clear hb1
    go_wp2_with fail
    go_ret
    exact ⟨false, rfl, ⟨(fun h => by cases h), fun h => absurd h.free HF.out⟩, HB0.out.trans (HB1.out.mono HB0.out.size)⟩

theorem plantCode1_any (lo : Nat) (t : Lts) (lv ev : Value) (w : World) (hsh : Short20 t.labels) (ht : LtsIn lo w lv ev t) (g : Glob w) :
    Calls Tryz.prog 42 #[.agg #[.int .i64 t.states, .int .i64 t.initial, lv, ev]] w (Decides (¬ Free t) w) := by
  obtain ⟨W, hW⟩ : ∃ W, W = w.alloc (.cells #[.int .i64 t.states, .int .i64 t.initial, lv, ev] 34) := ⟨_, rfl⟩
  have hB0 : Below w.heap.size w W := by rw [hW]; exact box_below _ _ _
  have HB0 := Lib.hid hB0
  have HW := Lib.hid hW
  have HC := Lib.hid (IsDet_free lo t lv ev W hsh (ht.labels.below hB0) (ht.edges.below hB0) (g.below hB0))
  clear hB0 hW hsh ht g
  go_enter Tryz.func42, Tryz.ntmps42
  go_wp2_with fail
  rw [← HW.out]
  refine Calls.mono HC.out ?_
  rintro e w1 ⟨b, rfl, hb, hb1⟩
  have HB1 := Lib.hid (HB0.out.trans (hb1.mono HB0.out.size))
  have HBB := Lib.hid hb
  clear hb1 hb
  go_wp2_with fail
  go_ret
  refine ⟨!b, rfl, ?_, HB1.out⟩
  rw [← HBB.out]
  cases b <;> simp

/-- Systems side by side in one block. -/
structure LtsRow (lo : Nat) (w : World) (b : Nat) (ts : List Lts) (lvs evs : Nat → Value) : Prop where
  lt : b < w.heap.size
  c0 : ∀ i (h : i < ts.length), w.cell? ⟨b, i * 4, none⟩ = some (.int .i64 ts[i].states)
  c1 : ∀ i (h : i < ts.length), w.cell? ⟨b, i * 4 + 1, none⟩ = some (.int .i64 ts[i].initial)
  c2 : ∀ i (_ : i < ts.length), w.cell? ⟨b, i * 4 + 2, none⟩ = some (lvs i)
  c3 : ∀ i (_ : i < ts.length), w.cell? ⟨b, i * 4 + 3, none⟩ = some (evs i)
  each : ∀ i (h : i < ts.length), LtsIn lo w (lvs i) (evs i) ts[i]
  short : ∀ i (h : i < ts.length), Short20 ts[i].labels
theorem LtsRow.below {lo : Nat} {w w' : World} {b : Nat} {ts : List Lts} {lvs evs : Nat → Value} (h : LtsRow lo w b ts lvs evs) (hb : Below w.heap.size w w') : LtsRow lo w' b ts lvs evs :=
  ⟨Nat.lt_of_lt_of_le h.lt hb.size, fun i hi => keeps hb h.lt (h.c0 i hi), fun i hi => keeps hb h.lt (h.c1 i hi), fun i hi => keeps hb h.lt (h.c2 i hi), fun i hi => keeps hb h.lt (h.c3 i hi), fun i hi => (h.each i hi).below hb, h.short⟩

set_option maxRecDepth 100000 in
set_option maxHeartbeats 1000000 in
theorem IndexFunc_lts (lo b n c : Nat) (ts : List Lts) (lvs evs : Nat → Value) (w : World) (hn : n = ts.length) (hn2 : n ≤ 1000) (hr : LtsRow lo w b ts lvs evs) (g : Glob w) :
    Calls Tryz.prog 60 #[.slice (some ⟨b, 0, none⟩) n c, .func (.func 42) #[] #[]] w fun e w' => ∃ r : Int, e = .returned (.int .i64 r) ∧ (0 ≤ r ↔ ¬ ∀ i (h : i < ts.length), Free ts[i]) ∧ Below w.heap.size w w' := by
  have HR := Lib.hid hr
  have G := Lib.hid g
  clear hr g
  subst hn
  go_enter Tryz.func60, Tryz.ntmps60
  go_wp2_with fail
  go_loopw [8] (fun i wr => ∃ k : Nat, k ≤ ts.length ∧ i = .int .i64 k ∧ Below w.heap.size w wr ∧ ∀ j (h : j < ts.length), j < k → Free ts[j]) (fun i _ => ts.length - (intOf i).toNat)
  case atStart => exact ⟨0, Nat.zero_le _, rfl, Below.refl _ _, fun _ _ h => by omega⟩
  case round =>
    obtain ⟨k, hk, rfl, hbl, ha⟩ := hrel
    have HA := Lib.hid ha
    have HBL := Lib.hid hbl
    have hsz := hbl.size
    have hr2 := HR.out.below hbl
    have hg2 := G.out.below hbl
    clear ha hbl
    by_cases hlt : k < ts.length
    · have x0 := hr2.c0 k hlt
      have x1 := hr2.c1 k hlt
      have x2 := hr2.c2 k hlt
      have x3 := hr2.c3 k hlt
      have HC := Lib.hid (plantCode1_any lo ts[k] (lvs k) (evs k) wr (hr2.short k hlt) (hr2.each k hlt) hg2)
      obtain ⟨t, ht⟩ : ∃ t, t = ts[k] := ⟨_, rfl⟩
      rw [← ht] at x0 x1 HC
      have HT := Lib.hid ht
      clear hr2 hg2 ht
      by_cases hf : Free t
      · have HF := Lib.hid hf
        clear hf
        go_wp2_with fail
        refine (Decides.no HC.out (fun h => h HF.out)).mono ?_
        rintro e w' ⟨rfl, hb1⟩
        have HB1 := Lib.hid (HBL.out.trans (hb1.mono hsz))
        clear hb1
        go_wp2_with fail
        go_roundw
        case rel => exact ⟨k + 1, by omega, by go_num, HB1.out, fun j h hj => by
          by_cases e : j = k
          · subst e; rw [← HT.out]; exact HF.out
          · exact HA.out j h (by omega)⟩
        case measure => simp [intOf]; omega
      · have HF := Lib.hid hf
        clear hf
        go_wp2_with fail
        refine (Decides.yes HC.out HF.out).mono ?_
        rintro e w' ⟨rfl, hb1⟩
        have HB1 := Lib.hid (HBL.out.trans (hb1.mono hsz))
        clear hb1
        go_wp2_with fail
        go_ret
        exact ⟨_, rfl, ⟨fun _ h => HF.out (by rw [HT.out]; exact h k hlt), fun _ => by omega⟩, HB1.out⟩
    · clear hr2 hg2
      go_wp2_with fail
      go_ret
      exact ⟨_, rfl, ⟨fun h => absurd h (by decide), fun h => absurd (fun i hi => HA.out i hi (by omega)) h⟩, HBL.out⟩

theorem ContainsFunc_lts (lo b n c : Nat) (ts : List Lts) (lvs evs : Nat → Value) (w : World) (hn : n = ts.length) (hn2 : n ≤ 1000) (hr : LtsRow lo w b ts lvs evs) (g : Glob w) :
    Calls Tryz.prog 41 #[.slice (some ⟨b, 0, none⟩) n c, .func (.func 42) #[] #[]] w (Decides (¬ ∀ i (h : i < ts.length), Free ts[i]) w) := by
  have HC := Lib.hid (IndexFunc_lts lo b n c ts lvs evs w hn hn2 hr g)
  clear hn hn2 hr g
  go_enter Tryz.func41, Tryz.ntmps41
  go_wp2_with fail
  refine Calls.mono HC.out ?_
  rintro e w' ⟨r, rfl, hr, hb⟩
  have HR := Lib.hid hr
  have HB := Lib.hid hb
  clear hr hb
  go_wp2_with fail
  go_ret
  exact ⟨_, rfl, by rw [← HR.out, decide_eq_true_eq], HB.out⟩

theorem plantCode_good (lo b n c : Nat) (p : Plant) (ts : List Lts) (lv ev mv nv : Value) (lvs evs : Nat → Value) (w : World) (hsh : Short20 p.sys.labels) (hsn : Short20 p.names) (hp : PlantIn lo w lv ev mv nv p) (hn : n = ts.length) (hn2 : n ≤ 1000) (hr : LtsRow lo w b ts lvs evs) (g : Glob w)
    (hv : PlantOk p) (ha : ∀ i (h : i < ts.length), Free ts[i]) :
    Calls Tryz.prog 21 #[.agg #[.int .i64 p.sys.states, .int .i64 p.sys.initial, lv, ev, mv, nv], .slice (some ⟨b, 0, none⟩) n c] w fun e w' => e = .returned (.int .i64 0) ∧ Below w.heap.size w w' := by
  obtain ⟨W, hW⟩ : ∃ W, W = w.alloc (.cells #[.int .i64 p.sys.states, .int .i64 p.sys.initial, lv, ev, mv, nv] 36) := ⟨_, rfl⟩
  have hB0 : Below w.heap.size w W := by rw [hW]; exact box_below _ _ _
  have HB0 := Lib.hid hB0
  have HW := Lib.hid hW
  have HP := Lib.hid (hp.below hB0)
  have G := Lib.hid (g.below hB0)
  have HR := Lib.hid (hr.below hB0)
  have HSH := Lib.hid hsh
  have HSN := Lib.hid hsn
  have HN := Lib.hid hn
  clear hp g hr hsh hsn hn hB0 hW
  have HV := Lib.hid hv
  have HA : Hid (¬ ¬ ∀ i (h : i < ts.length), Free ts[i]) := fun h => h ha
  clear hv ha
  go_enter Tryz.func21, Tryz.ntmps21
  go_wp2_with fail
  rw [← HW.out]
  refine (Decides.yes (ValidPlant_any lo p lv ev mv nv _ HSH.out HSN.out HP.out G.out) HV.out).mono ?_
  rintro e w1 ⟨rfl, hb1⟩
  have HB1 := Lib.hid hb1
  clear hb1
  go_wp2_with fail
  refine (Decides.no (ContainsFunc_lts lo b n c ts lvs evs _ HN.out hn2 (HR.out.below HB1.out) (G.out.below HB1.out)) HA.out).mono ?_
  rintro e w2 ⟨rfl, hb2⟩
  have HB2 := Lib.hid (HB1.out.trans (hb2.mono HB1.out.size))
  clear hb2
  go_wp2_with fail
  go_ret
  exact ⟨rfl, HB0.out.trans (HB2.out.mono HB0.out.size)⟩

theorem plantCode_bad (lo b n c : Nat) (p : Plant) (ts : List Lts) (lv ev mv nv : Value) (lvs evs : Nat → Value) (w : World) (hsh : Short20 p.sys.labels) (hsn : Short20 p.names) (hp : PlantIn lo w lv ev mv nv p) (hn : n = ts.length) (hn2 : n ≤ 1000) (hr : LtsRow lo w b ts lvs evs) (g : Glob w)
    (hx : ¬ (PlantOk p ∧ ∀ i (h : i < ts.length), Free ts[i])) :
    Calls Tryz.prog 21 #[.agg #[.int .i64 p.sys.states, .int .i64 p.sys.initial, lv, ev, mv, nv], .slice (some ⟨b, 0, none⟩) n c] w fun e w' => e = .returned (.int .i64 1) ∧ Below w.heap.size w w' := by
  obtain ⟨W, hW⟩ : ∃ W, W = w.alloc (.cells #[.int .i64 p.sys.states, .int .i64 p.sys.initial, lv, ev, mv, nv] 36) := ⟨_, rfl⟩
  have hB0 : Below w.heap.size w W := by rw [hW]; exact box_below _ _ _
  have HB0 := Lib.hid hB0
  have HW := Lib.hid hW
  have HP := Lib.hid (hp.below hB0)
  have G := Lib.hid (g.below hB0)
  have HR := Lib.hid (hr.below hB0)
  have HSH := Lib.hid hsh
  have HSN := Lib.hid hsn
  have HN := Lib.hid hn
  clear hp g hr hsh hsn hn hB0 hW
  by_cases hv : PlantOk p
  · have HV := Lib.hid hv
    have HA : Hid (¬ ∀ i (h : i < ts.length), Free ts[i]) := fun h => hx ⟨hv, h⟩
    clear hv hx
    go_enter Tryz.func21, Tryz.ntmps21
    go_wp2_with fail
    rw [← HW.out]
    refine (Decides.yes (ValidPlant_any lo p lv ev mv nv _ HSH.out HSN.out HP.out G.out) HV.out).mono ?_
    rintro e w1 ⟨rfl, hb1⟩
    have HB1 := Lib.hid hb1
    clear hb1
    go_wp2_with fail
    refine (Decides.yes (ContainsFunc_lts lo b n c ts lvs evs _ HN.out hn2 (HR.out.below HB1.out) (G.out.below HB1.out)) HA.out).mono ?_
    rintro e w2 ⟨rfl, hb2⟩
    have HB2 := Lib.hid (HB1.out.trans (hb2.mono HB1.out.size))
    clear hb2
    go_wp2_with fail
    go_ret
    exact ⟨rfl, HB0.out.trans (HB2.out.mono HB0.out.size)⟩
  · have HV := Lib.hid hv
    clear hv hx
    go_enter Tryz.func21, Tryz.ntmps21
    go_wp2_with fail
    rw [← HW.out]
    refine (Decides.no (ValidPlant_any lo p lv ev mv nv _ HSH.out HSN.out HP.out G.out) HV.out).mono ?_
    rintro e w1 ⟨rfl, hb1⟩
    have HB1 := Lib.hid hb1
    clear hb1
    go_wp2_with fail
    go_ret
    exact ⟨rfl, HB0.out.trans (HB1.out.mono HB0.out.size)⟩

/-- Where a label leads. -/
theorem along_any (lo : Nat) (t : Lts) (k : Int) (l : ByteArray) (lv ev : Value) (w : World) (hv : Valid t) (hs : Single t) (ht : LtsIn lo w lv ev t) :
    Calls Tryz.prog 46 #[.agg #[.int .i64 t.states, .int .i64 t.initial, lv, ev], .int .i64 k, .string l] w fun e w' => ∃ x : Int, e = .returned (.tuple #[.int .i64 x, .bool (alongB t k l)]) ∧ Below w.heap.size w w' ∧ (alongB t k l = true → x = alongV t k l) := by
  obtain ⟨W, hW⟩ : ∃ W, W = w.alloc (.cells #[.int .i64 t.states, .int .i64 t.initial, lv, ev] 34) := ⟨_, rfl⟩
  have hB0 : Below w.heap.size w W := by rw [hW]; exact box_below _ _ _
  have HB0 := Lib.hid hB0
  have HW := Lib.hid hW
  have HC := Lib.hid (Contains_strs lo lv l t.labels W (ht.labels.below hB0))
  have HS := Lib.hid (fun w1 (hb : Below W.heap.size W w1) => step_any lo t lv ev k l w1 hv hs ((ht.labels.below hB0).below hb) ((ht.edges.below hB0).below hb))
  clear hv hs ht hB0 hW
  change Hid (Calls Tryz.prog 62 #[lv, .string l] W fun e w' => e = .returned (.bool (labIn t l)) ∧ W = w') at HC
  cases hl : labIn t l
  · rw [hl] at HC
    have HL := Lib.hid hl
    clear hl
    go_enter Tryz.func46, Tryz.ntmps46
    go_wp2_with fail
    rw [← HW.out]
    refine Calls.mono HC.out ?_
    rintro e w1 ⟨rfl, rfl⟩
    go_wp2_with fail
    go_ret2
    exact ⟨k, by unfold alongB; rw [HL.out]; rfl, HB0.out, fun _ => by unfold alongV; rw [HL.out]; simp⟩
  · rw [hl] at HC
    have HL := Lib.hid hl
    clear hl
    have hbx : Blk W w.heap.size [.int .i64 t.states, .int .i64 t.initial, lv, ev] 34 := by rw [HW.out]; exact Blk.new w _ _
    have x0 := hbx.cell 0 rfl
    have x1 := hbx.cell 1 rfl
    have x2 := hbx.cell 2 rfl
    have x3 := hbx.cell 3 rfl
    obtain ⟨gt, hgt⟩ : ∃ gt, gt = goTo t k l := ⟨_, rfl⟩
    rw [← hgt] at HS
    have HG := Lib.hid hgt
    clear hbx hgt
    go_enter Tryz.func46, Tryz.ntmps46
    go_wp2_with fail
    rw [← HW.out]
    refine Calls.mono HC.out ?_
    rintro e w1 ⟨rfl, rfl⟩
    go_wp2_with fail
    refine Calls.mono (HS.out _ (Below.refl _ _)) ?_
    rintro e w2 ⟨rfl, hb2⟩
    have HB2 := Lib.hid (HB0.out.trans (hb2.mono HB0.out.size))
    clear hb2 x0 x1 x2 x3
    go_wp2_with fail
    go_ret2
    exact ⟨gt, by unfold alongB; rw [HL.out, ← HG.out]; rfl, HB2.out, fun _ => by unfold alongV; rw [HL.out, HG.out]; rfl⟩

theorem controlled_any (lo : Nat) (p : Plant) (l : ByteArray) (lv ev mv nv : Value) (w : World) (hl : labelOk l.data.toList = true) (hlz : l.size ≤ 1048576) (hp : PlantIn lo w lv ev mv nv p) (g : Glob w) :
    Calls Tryz.prog 47 #[.agg #[.int .i64 p.sys.states, .int .i64 p.sys.initial, lv, ev, mv, nv], .string l] w fun e w' => e = .returned (.bool (ctlOf p l)) ∧ Below w.heap.size w w' := by
  obtain ⟨W, hW⟩ : ∃ W, W = w.alloc (.cells #[.int .i64 p.sys.states, .int .i64 p.sys.initial, lv, ev, mv, nv] 36) := ⟨_, rfl⟩
  obtain ⟨hB0, hbx⟩ := box6 rfl hW
  have hx5 := later_cell hbx.lt (hbx.cell 5 rfl)
  have HB0 := Lib.hid hB0
  have HW := Lib.hid hW
  have HLN := Lib.hid (fun (gg : Later W) => LabelName_any l gg.w hlz hl ((g.below hB0).below gg.h))
  have HCS := Lib.hid (fun (gg : Later W) => Contains_strs lo nv ⟨(labName l).toArray⟩ p.names gg.w ((hp.names.below hB0).below gg.h))
  have HE : Hid ((p.names.any fun y => y.toList == (⟨(labName l).toArray⟩ : ByteArray).toList) = ctlOf p l) := by
    unfold Hid ctlOf
    congr 1
    funext y
    rw [Lib.toList_data, Lib.toList_data]
  rw [HE.out] at HCS
  obtain ⟨nm, hnm⟩ : ∃ nm : ByteArray, nm = ⟨(labName l).toArray⟩ := ⟨_, rfl⟩
  rw [← hnm] at HLN HCS
  obtain ⟨⟨al, cl, rfl, -⟩, ⟨ae, ce, rfl, -⟩, ⟨am, cm, rfl, -⟩, ⟨an, cn, rfl, -⟩⟩ := hp
  obtain ⟨cb, hcb⟩ : ∃ cb, cb = ctlOf p l := ⟨_, rfl⟩
  rw [← hcb] at HCS
  have HCB := Lib.hid hcb
  obtain ⟨b0, hb0⟩ : ∃ b0, b0 = w.heap.size := ⟨_, rfl⟩
  rw [← hb0] at hx5
  have HZ0 := Lib.hid hb0
  clear hl hlz g hB0 hbx hW hnm hcb HE hb0
  go_enter Tryz.func47, Tryz.ntmps47
  go_wp2
  rw [← HW.out, ← HZ0.out]
  refine wp_region_later (by kernel_rfl) (by kernel_rfl) ?_
  repeat (go_big_quiet_step ((first | (go_at_call 64; exact later_call (HLN.out _)) | (go_at_call 62; exact later_same (HCS.out _)))))
  refine wpQuiet_nil ?_
  intro _ hw9
  obtain ⟨nl, hw8⟩ := hw9
  subst hw8
  go_wp2
  go_ret
  exact ⟨by rw [← HCB.out]; rfl, HB0.out.trans (nl.h.mono HB0.out.size)⟩

theorem marked_any (lo : Nat) (p : Plant) (k : Int) (lv ev mv nv : Value) (w : World) (hp : PlantIn lo w lv ev mv nv p) :
    Calls Tryz.prog 23 #[.agg #[.int .i64 p.sys.states, .int .i64 p.sys.initial, lv, ev, mv, nv], .int .i64 k] w fun e w' => e = .returned (.bool (p.marks.contains k)) ∧ Below w.heap.size w w' := by
  obtain ⟨W, hW⟩ : ∃ W, W = w.alloc (.cells #[.int .i64 p.sys.states, .int .i64 p.sys.initial, lv, ev, mv, nv] 36) := ⟨_, rfl⟩
  obtain ⟨hB0, -⟩ := box6 rfl hW
  have HB0 := Lib.hid hB0
  have HW := Lib.hid hW
  have HC := Lib.hid (Contains_ints lo mv k p.marks W (hp.marks.below hB0))
  have HE : Hid ((p.marks.any fun y => y == k) = p.marks.contains k) := by
    unfold Hid
    rw [Bool.eq_iff_iff, List.any_eq_true, List.contains_iff_mem]
    exact ⟨fun ⟨x, hx, h⟩ => by rw [beq_iff_eq] at h; exact h ▸ hx, fun h => ⟨k, h, beq_self_eq_true _⟩⟩
  rw [HE.out] at HC
  obtain ⟨cb, hcb⟩ : ∃ cb, cb = p.marks.contains k := ⟨_, rfl⟩
  rw [← hcb] at HC
  have HCB := Lib.hid hcb
  clear hp hB0 hW hcb HE
  go_enter Tryz.func23, Tryz.ntmps23
  go_wp2_with fail
  rw [← HW.out]
  refine Calls.mono HC.out ?_
  rintro e w1 ⟨rfl, rfl⟩
  go_wp2_with fail
  go_ret
  exact ⟨by rw [← HCB.out]; rfl, HB0.out⟩

end Go.Proofs.YtkffdamgekoifaaGreatDoor
