/-
  The program's joinedNodes.
-/
import Derived.Test.YtjoacldbgnphkaaGreatDoorE14
import Derived.Deep.AppendLies
namespace Go.Proofs.YtjoacldbgnphkaaGreatDoor
open Go Go.RowKit


attribute [local go_sem] Oper.semAt_some

theorem info_nodesJ : (Tryz.prog.info? 27).map (fun i => (i.zero, i.size, i.bytes)) = some (some (.slice none 0 0), 1, 24) := by kernel_rfl
theorem accL_len (kind : Int) {D : List (List Nd)} (last : List Nd) (h : ∀ f ∈ D, f.length ≤ 200) : ∀ l : List Nat, (accL kind D last l).length ≤ last.length + l.length * 201 := by
 intro l
 have key : ∀ (l : List Nat) (out : List Nd), (accL kind D out l).length ≤ out.length + l.length * 201 := by
  intro l
  induction l with
  | nil => intro out; simp [accL]
  | cons k l ih =>
   intro out
   have h1 := ih (⟨kind, ByteArray.empty⟩ :: (D.getD k [] ++ out))
   have h2 : (D.getD k []).length ≤ 200 := by
    rw [List.getD_eq_getElem?_getD]
    cases hk : D[k]? with
    | none => simp
    | some f => exact h f (List.mem_of_getElem? hk)
   unfold accL at *
   rw [List.foldl_cons]
   simp only [List.length_cons, List.length_append] at h1 ⊢
   omega
 exact key l last
theorem accL_ne (kind : Int) (D : List (List Nd)) {last : List Nd} (h : last ≠ []) (l : List Nat) : accL kind D last l ≠ [] := by
 have key : ∀ (l : List Nat) (out : List Nd), out ≠ [] → accL kind D out l ≠ [] := by
  intro l
  induction l with
  | nil => intro out h; exact h
  | cons k l ih =>
   intro out _
   exact ih (⟨kind, ByteArray.empty⟩ :: (D.getD k [] ++ out)) (by simp)
 exact key l last h
/-- What lies in cells abides the turn of what is none. -/
theorem SliceK.keptObj {α : Type} {k : Nat} {enc : α → List Value} (hk : 0 < k) (hen : ∀ x, (enc x)[0]? ≠ none) {lo : Nat} {w w' : World} {v : Value} {xs : List α} {row : Option Nat} (h : SliceK k enc lo w v xs) (hg : w.grownBy w' row) (hr : ∀ r, row = some r → ∃ o : Obj, w.heap[r]? = some o ∧ o.isCells = false) : SliceK k enc lo w' v xs := by
 obtain ⟨a, cap, h1, h2, h4, h3⟩ := h
 refine ⟨a, cap, h1, h2, h4, ?_⟩
 rcases h3 with h | ⟨b, off, ha, h1, h2, h3⟩
 ·exact .inl h
 ·by_cases h0 : xs.length = 0
  ·exact .inl h0
  ·have hne : some b ≠ row := by
    intro e
    obtain ⟨o, ho, hc⟩ := hr b e.symm
    have h4 := h3 0 (by omega) 0 hk
    have h5 : w.cell? ⟨b, off + 0 * k + 0, none⟩ = none := by cases o <;> simp_all [World.cell?, Obj.isCells]
    rw [h5] at h4
    exact hen _ h4.symm
   exact .inr ⟨b, off, ha, h1, Nat.lt_of_lt_of_le h2 hg.size, fun i hi j hj => by
    rw [World.cell?_of_block (w := w) (hg.block b h2 hne)]; exact h3 i hi j hj⟩
/-- What the loop over Backward keeps between two rounds. -/
def InvJ (w wL : World) (ob : Nat) (kind : Int) (D : List (List Nd)) (last : List Nd) {m : Nat} (pre : List (Fin m)) (W : World) : Prop :=
 (∃ v, Boxed W ob 27 v ∧ SliceK 4 encN 0 W v (accL kind D last (pre.map Fin.val))) ∧ Below w.heap.size w W ∧ KeepsBut wL.heap.size ob wL W
theorem InvJ.own {w wL : World} {ob : Nat} {kind : Int} {D : List (List Nd)} {last : List Nd} {m : Nat} (hsz : w.heap.size ≤ wL.heap.size) : OwnFrom wL.heap.size (InvJ w wL ob kind D last (m := m)) := by
 rintro s X Y row ⟨⟨v, hv, hs⟩, hb, hk⟩ hg hr
 refine ⟨⟨v, hv.kept hg (fun e => ?_), hs.keptObj (by decide) (fun x => by simp [encN]) hg (fun r e => (hr r e).2)⟩, hb.grown hg hb.size (fun k e => Nat.le_trans hsz (hr k e).1), Nat.le_trans hk.1 hg.size, fun k hk1 hk2 => ?_⟩
 ·obtain ⟨-, o, ho, hc⟩ := hr ob e.symm
  rw [show X.heap[ob]? = _ from hv] at ho
  cases ho
  cases hc
 ·refine (hg.block k (Nat.lt_of_lt_of_le hk1 hk.1) (fun e => ?_)).trans (hk.2 k hk1 hk2)
  have := (hr k e.symm).1
  omega
theorem lastN_any (g M c : Nat) (u : Value) (w : World) (hm : 0 < M) (hM : M ≤ 1000) (hc : w.cell? ⟨g, M - 1, none⟩ = some u) :
  Calls Tryz.prog 94 #[.slice (some ⟨g, 0, none⟩) M c] w fun e w' => e = .returned u ∧ w = w' := by
 obtain ⟨m, hmm⟩ : ∃ m : Nat, m = M - 1 := ⟨_, rfl⟩
 have hki : (M : Int) - 1 = (m : Int) := by omega
 rw [← hmm] at hc
 have hmM : m < M := by omega
 clear hmm
 go_enter Tryz.func94, Tryz.ntmps94
 go_wp2
 go_ret
 exact ⟨rfl, rfl⟩

set_option maxRecDepth 100000 in
set_option maxHeartbeats 4000000 in
theorem joinedNodes_any (lo : Nat) (v : Value) (hs : List Value) (fs : List (List Nd)) (jn nn : Int) (w : World) (hv : SliceK 1 encV lo w v hs) (hl : hs.length = fs.length) (hrow : ∀ (i : Nat) (h : i < hs.length) (h' : i < fs.length), SliceK 4 encN 0 w hs[i] fs[i]) (hne : [] ∉ fs) (h200 : ∀ f ∈ fs, f.length ≤ 200) (h300 : fs.length ≤ 300) :
  Calls Tryz.prog 75 #[v, .int .i64 jn, .int .i64 nn] w fun e w' => ∃ v', e = .returned v' ∧ Below w.heap.size w w' ∧ SliceK 4 encN 0 w' v' (joinN jn nn fs) := by
 obtain ⟨a, c, rfl, hcn, hcc, hrk⟩ := hv
 have HRK := Lib.hid hrk
 have HROW := Lib.hid hrow
 have HNE := Lib.hid hne
 have H200 := Lib.hid h200
 have HL := Lib.hid hl
 obtain ⟨N, hN⟩ : ∃ N, N = hs.length := ⟨_, rfl⟩
 rw [← hN] at hcn ⊢
 have HN := Lib.hid hN
 have hN300 : N ≤ 300 := by omega
 obtain ⟨i2, hi2, hz20, hz21, hz22⟩ := info_parts info_nodesJ
 obtain ⟨kb, hkb⟩ : ∃ kb, kb = w.heap.size := ⟨_, rfl⟩
 obtain ⟨w1, hw1⟩ : ∃ w1, w1 = w.alloc (.cells #[.int .i64 jn] 2) := ⟨_, rfl⟩
 have hb1 : Below w.heap.size w w1 := by rw [hw1]; exact (Below.refl _ _).alloc (Nat.le_refl _) _
 have HKB : Hid (Blk w1 kb [.int .i64 jn] 2) := by unfold Hid; rw [hw1, hkb]; exact Blk.new w _ _
 have HB1 := Lib.hid hb1
 have HW1 := Lib.hid hw1
 have HKE := Lib.hid hkb
 have hs1 : w.heap.size ≤ w1.heap.size := hb1.size
 have eg : ∀ args w, (callFunc 92 args).run Tryz.prog w = .ok (.enter 92 args) w := fun args w => by kernel_rfl
 have HEG := Lib.hid eg
 clear hrk hrow hne h200 hl hN hb1 hw1 hkb h300 eg
 refine (callsIn_wide (n := 3)).1 ?_
 refine callsIn_of_wp_marks Tryz.func75 rfl trivial ?_ rfl
 refine wpIn_wide.2 ?_
 simp only [Tryz.ntmps75, List.size_toArray, List.length_cons, List.length_nil, Nat.reduceAdd, Nat.reduceSub, Array.replicate_succ, Array.replicate_zero, List.push_toArray, List.append_toArray, List.nil_append, List.cons_append]
 go_wp2
 rw [← HW1.out, ← HKE.out]
 go_loopw [7, 15] (fun v7 v15 wr => ∃ (i : Nat) (ds : List Value), i ≤ N ∧ v15 = .int .i64 i ∧ Below w1.heap.size w1 wr ∧ RowsR w ds (diffL (fs.take i)) ∧ wr.ownsRow w1.heap.size 27 1 v7 ds.length ds) (fun _ v15 _ => N - (intOf v15).toNat)
 case atStart => exact ⟨0, [], Nat.zero_le _, rfl, Below.refl _ _, by rw [List.take_zero]; exact RowsR.nil w, World.ownsRow_nil _ _ _ _⟩
 case round =>
  obtain ⟨i, ds, hi, rfl, hbl, hrr, ho⟩ := hrel
  obtain ⟨wC, rfl⟩ : ∃ wC : World, wC = wr := ⟨_, rfl⟩
  have HBC := Lib.hid hbl
  have HRR := Lib.hid hrr
  have HO := Lib.hid ho
  have hszC := hbl.size
  have HBW : Hid (Below w.heap.size w wC) := HB1.out.trans (hbl.mono hs1)
  obtain ⟨da, dc, rfl, hdc, -⟩ := owns_slice ho
  have hsv : SliceK 1 encV w1.heap.size wC (.slice da ds.length dc) ds := SliceK.of_owns (enc := encV) encV_len rfl (by rw [flat_encV]; exact ho)
  have HSV := Lib.hid hsv
  obtain ⟨M, hM⟩ : ∃ M, M = ds.length := ⟨_, rfl⟩
  have hdl : ds.length ≤ i := by
   rw [hrr.1]
   exact Nat.le_trans (diffL_len _) (by rw [List.length_take]; omega)
  rw [← hM] at hdl hdc HSV HO ⊢
  have HM := Lib.hid hM
  clear hbl hrr ho hsv hM
  by_cases hlt : i < N
  ·have hif : i < fs.length := by rw [← HL.out, ← HN.out]; exact hlt
   have hih : i < hs.length := by rw [← HN.out]; exact hlt
   obtain ⟨b, o, rfl, -, hbw, hcu⟩ := (HRK.out.below HBW.out).one hih
   simp only [encV, List.getElem?_cons_zero] at hcu
   have hsu := HROW.out i hih hif
   have hfl := H200.out _ (List.getElem_mem hif)
   have hfn : fs[i] ≠ [] := fun e => HNE.out (by rw [← e]; exact List.getElem_mem hif)
   have HFT : Hid (fs.take (i + 1) = fs.take i ++ [fs[i]]) := List.take_succ_eq_append_getElem hif
   obtain ⟨f, hf⟩ : ∃ f, f = fs[i] := ⟨_, rfl⟩
   obtain ⟨u, hu⟩ : ∃ u, u = hs[i] := ⟨_, rfl⟩
   rw [← hf] at hsu hfl hfn HFT
   rw [← hu] at hsu hcu
   obtain ⟨ua, uc, hue, -⟩ := id hsu
   obtain ⟨UL, hUL⟩ : ∃ UL, UL = f.length := ⟨_, rfl⟩
   rw [← hUL] at hue
   subst hue
   obtain ⟨D, hD⟩ : ∃ D, D = diffL (fs.take i) := ⟨_, rfl⟩
   rw [← hD] at HRR
   have hDl : D.length = M := by rw [HM.out, HRR.out.1]
   have HD2 : Hid (∀ x ∈ D, x.length ≤ 200) := fun x hx => by
    rw [hD, diffL_mem] at hx
    exact H200.out x (List.mem_of_mem_take hx)
   have HDN : Hid (diffL (fs.take (i + 1)) = addD D f) := by unfold Hid; rw [HFT.out, diffL_snoc, ← hD]
   obtain ⟨fb, hfb⟩ : ∃ fb, fb = wC.heap.size := ⟨_, rfl⟩
   obtain ⟨WF, hWF⟩ : ∃ WF, WF = wC.alloc (.cells #[.slice ua UL uc] 27) := ⟨_, rfl⟩
   have hbF : Below wC.heap.size wC WF := by rw [hWF]; exact (Below.refl _ _).alloc (Nat.le_refl _) _
   have HFB : Hid (Blk WF fb [.slice ua UL uc] 27) := by unfold Hid; rw [hWF, hfb]; exact Blk.new wC _ _
   have HB1F : Hid (Below w1.heap.size w1 WF) := HBC.out.trans (hbF.mono hszC)
   have HBWF : Hid (Below w.heap.size w WF) := HBW.out.trans (hbF.mono HBW.out.size)
   have HOF := Lib.hid (owns_below HO.out hbF)
   have hdsl : ds.length = D.length := by rw [← HM.out, hDl]
   have HCF := Lib.hid (ContainsFuncN w1.heap.size (.slice da M dc) ds 92 #[.pointer (some ⟨fb, 0, none⟩)] (fun k => decide (f = D.getD k [])) WF (HSV.out.below hbF) HEG.out (fun w' hb k hk => by
    have hkD : k < D.length := by omega
    have hg : D.getD k [] = D[k] := by rw [List.getD_eq_getElem?_getD, List.getElem?_eq_getElem hkD]; rfl
    have h := jn1_any 0 0 fb (.slice ua UL uc) ds[k] f D[k] w' (by omega) (hsu.below (HBWF.out.trans (hb.mono HBWF.out.size))) ((HRR.out.2 k hk hkD).below (HBWF.out.trans (hb.mono HBWF.out.size))) (HFB.out.below hb)
    show Calls Tryz.prog 92 (#[ds[k]] ++ #[.pointer (some ⟨fb, 0, none⟩)]) w' fun e w'' => e = .returned (.bool (decide (f = D.getD k []))) ∧ Below w'.heap.size w' w''
    rw [hg]
    exact h))
   have HIN : Hid ((∃ k, k < ds.length ∧ decide (f = D.getD k []) = true) ↔ f ∈ D) := by
    constructor
    ·rintro ⟨k, hk, h⟩
     have hkD : k < D.length := by omega
     have hg : D.getD k [] = D[k] := by rw [List.getD_eq_getElem?_getD, List.getElem?_eq_getElem hkD]; rfl
     rw [of_decide_eq_true h, hg]
     exact List.getElem_mem hkD
    ·intro h
     obtain ⟨k, hk, e⟩ := List.mem_iff_getElem.1 h
     have hg : D.getD k [] = D[k] := by rw [List.getD_eq_getElem?_getD, List.getElem?_eq_getElem hk]; rfl
     exact ⟨k, by omega, decide_eq_true (by rw [hg, e])⟩
   have HWF := Lib.hid hWF
   have HFE := Lib.hid hfb
   have hszF := HB1F.out.size
   have HSU := Lib.hid hsu
   clear hf hu hUL hD hfb hWF hbF hdsl hsu hfn hfl
   go_wp2_with fail
   rw [← HWF.out]
   try rw [← HFE.out]
   refine Calls.mono HCF.out ?_
   rintro e w4 ⟨r, rfl, hr, hb4⟩
   rw [HIN.out] at hr
   have HRI := Lib.hid hr
   have HFB4 := Lib.hid (HFB.out.below hb4)
   have HB14 : Hid (Below w1.heap.size w1 w4) := HB1F.out.trans (hb4.mono hszF)
   have HO4 := Lib.hid (owns_below HOF.out hb4)
   have hsz4 := HB14.out.size
   have k0 := HFB4.out.cell 0 rfl
   clear hr hb4 HCF hcu
   cases r
   ·have hnm : f ∉ D := fun h => by have := HRI.out.2 h; cases this
    have HDA : Hid (diffL (fs.take (i + 1)) = D ++ [f]) := by unfold Hid; rw [HDN.out]; unfold addD; rw [if_neg hnm]
    clear hnm
    go_wp2_with (at_builtin; refine wpList_append_own _ rfl _ _ 47 rfl w1.heap.size 27 i2 (.slice none 0 0) 1 24 Tryz.underlying47 hi2 hz20 hz21 hz22 rfl (by decide) _ M _ rfl (HO4.out.alloc _) ⟨w4.heap.size, 0, none⟩ 1 1 [.slice ua UL uc] rfl rfl ?c1 ?c2 ?c3 ?c4 ?c5 ?_)
    case c1 => exact World.news_of_block (cs := #[.slice ua UL uc]) (t := 27) (fr := (0, 0)) (heap_alloc_new _ _)
    case c2 => intro u hu; simp at hu; subst hu; rfl
    case c3 => simp [maxLen]; omega
    case c4 => omega
    case c5 => first | omega | (simp; omega)
    intro v7 w7 ho7 hg7 _
    have HB7 : Hid (Below w1.heap.size w1 w7) := (HB14.out.alloc hsz4 _).grown hg7 (by simp; omega) (fun b e => (HO4.out.lt b e).1)
    have HR7 : Hid (RowsR w (ds ++ [.slice ua UL uc]) (D ++ [f])) := HRR.out.snoc HSU.out
    have HLD : Hid ((ds ++ [Value.slice ua UL uc]).length = M + 1) := by unfold Hid; rw [List.length_append, ← HM.out]; rfl
    have HO7 := Lib.hid ho7
    clear ho7 hg7 k0
    go_wp2
    go_roundw
    case rel => exact ⟨i + 1, ds ++ [.slice ua UL uc], by omega, by go_num, HB7.out, by rw [HDA.out]; exact HR7.out, by rw [HLD.out]; exact HO7.out⟩
    case measure => simp [intOf]; omega
   ·have HDA : Hid (diffL (fs.take (i + 1)) = D) := by unfold Hid; rw [HDN.out]; unfold addD; rw [if_pos (HRI.out.1 rfl)]
    clear k0
    go_wp2
    go_roundw
    case rel => exact ⟨i + 1, ds, by omega, by go_num, HB14.out, by rw [HDA.out]; exact HRR.out, by rw [← HM.out]; exact HO4.out⟩
    case measure => simp [intOf]; omega
  ·have HALL : Hid (fs.take i = fs) := by unfold Hid; rw [List.take_of_length_le (by rw [← HL.out, ← HN.out]; omega)]
   rw [HALL.out] at HRR
   have hDl := HRR.out.1
   obtain ⟨D, hD⟩ : ∃ D, D = diffL fs := ⟨_, rfl⟩
   rw [← hD] at HRR hDl
   have HD := Lib.hid hD
   have HD2 : Hid (∀ x ∈ D, x.length ≤ 200 ∧ x ≠ []) := fun x hx => by
    rw [hD, diffL_mem] at hx
    exact ⟨H200.out x hx, fun e => HNE.out (by rw [← e]; exact hx)⟩
   have HDM : Hid (D.length = M) := by unfold Hid; rw [HM.out, hDl]
   clear hD hDl
   by_cases hM0 : M = 0
   ·subst hM0
    have HV : Hid (joinN jn nn fs = [⟨nn, ByteArray.empty⟩]) := by
     unfold Hid joinN
     rw [if_pos]
     rw [← HD.out]
     exact List.length_eq_zero_iff.1 HDM.out
    go_wp2
    refine ⟨_, results_tmp rfl _ _ _, _, rfl, HBW.out.alloc HBW.out.size _, ?_⟩
    rw [HV.out]
    have h := World.ownsRow_lit (base := 0) (size := 4) wC #[.int .i64 nn, .int .i64 0, .string ⟨#[]⟩, .bool false] (e := 55) 1 (Nat.zero_le _) (by simp [maxLen]) rfl
    exact SliceK.of_owns (e := 55) (xs := [⟨nn, ByteArray.empty⟩]) encN_len rfl h
   ·obtain ⟨m, rfl⟩ : ∃ m, M = m + 1 := ⟨M - 1, by omega⟩
    obtain ⟨g, rfl⟩ : ∃ g, da = some ⟨g, 0, none⟩ := by
     rcases HO.out.2 with ⟨-, h0⟩ | ⟨g, cap, cur, he, -⟩
     ·omega
     ·simp only [Value.slice.injEq] at he
      exact ⟨g, he.1⟩
    have hgl := HO.out.lt g rfl
    have hmd : m < ds.length := by rw [← HM.out]; omega
    have hmD : m < D.length := by rw [HDM.out]; omega
    have c7 := HO.out.cellAt m (by omega)
    rw [List.getElem?_eq_getElem hmd] at c7
    have hls := HRR.out.2 m hmd hmD
    have HLA : Hid (D[m]? = some D[m]) := List.getElem?_eq_getElem hmD
    obtain ⟨last, hlast⟩ : ∃ last, last = D[m] := ⟨_, rfl⟩
    have hl2 := HD2.out _ (List.getElem_mem hmD)
    rw [← hlast] at hls HLA hl2
    obtain ⟨ua, uc, hue, -⟩ := id hls
    obtain ⟨UL, hUL⟩ : ∃ UL, UL = last.length := ⟨_, rfl⟩
    rw [← hUL] at hue
    rw [hue] at c7 hls
    have HV : Hid (joinN jn nn fs = joinD jn D) := by
     unfold Hid joinN
     rw [← HD.out, if_neg (fun e => by have := HDM.out; rw [e] at this; simp at this)]
    have HLL := Lib.hid (lastN_any g (m + 1) dc (.slice ua UL uc) wC (by omega) (by omega) (by simpa using c7))
    have HLS := Lib.hid hls
    have HL2 := Lib.hid hl2
    obtain ⟨ob, hob⟩ : ∃ ob, ob = wC.heap.size := ⟨_, rfl⟩
    obtain ⟨WO, hWO⟩ : ∃ WO, WO = wC.alloc (.cells #[.slice ua UL uc] 27) := ⟨_, rfl⟩
    have hbO : Below wC.heap.size wC WO := by rw [hWO]; exact (Below.refl _ _).alloc (Nat.le_refl _) _
    have hWOs : WO.heap.size = ob + 1 := by rw [hWO, hob]; simp
    have HOB : Hid (Boxed WO ob 27 (.slice ua UL uc)) := by unfold Hid; rw [hWO, hob]; exact Boxed.new wC _ _
    have HWO := Lib.hid hWO
    have HOE := Lib.hid hob
    have HBO := Lib.hid hbO
    have HOS := Lib.hid hWOs
    have HBK := Lib.hid ((callsIn_wide (n := 3)).1 (back_in Fence.wide 3 trivial rfl (some ⟨g, 0, none⟩) m dc WO))
    clear hM0 c7 hls hlast hue hUL hl2 hob hWO hbO hWOs hmd hmD
    go_wp2_with fail
    refine Calls.mono HLL.out ?_
    rintro e w2 ⟨rfl, rfl⟩
    go_wp2_with fail
    rw [← HWO.out]
    try rw [← HOE.out]
    refine Calls.mono HBK.out ?_
    rintro e w3 ⟨rfl, rfl⟩
    go_wp2_with fail
    obtain ⟨wL, hwL⟩ : ∃ wL, wL = WO.alloc (.cells #[.slice (some ⟨g, 0, none⟩) m dc] 47) := ⟨_, rfl⟩
    obtain ⟨Bs, hBs⟩ : ∃ Bs, Bs = WO.heap.size := ⟨_, rfl⟩
    have hbL : Below WO.heap.size WO wL := by rw [hwL]; exact (Below.refl _ _).alloc (Nat.le_refl _) _
    have hWLs : wL.heap.size = ob + 2 := by rw [hwL, World.size_alloc, HOS.out]
    have hBsb : Bs = ob + 1 := by rw [hBs, HOS.out]
    have hBS : wL.cell? ⟨Bs, 0, none⟩ = some (.slice (some ⟨g, 0, none⟩) m dc) := by rw [hwL, hBs]; exact (Blk.new WO [.slice (some ⟨g, 0, none⟩) m dc] 47).cell 0 rfl
    have hbCL : Below wC.heap.size wC wL := HBO.out.trans (hbL.mono HBO.out.size)
    have hOBL : Boxed wL ob 27 (.slice ua UL uc) := (hbL.block ob HOB.out.lt).trans HOB.out
    have hgl2 : g < wC.heap.size := hgl.2
    have hobC : ob = wC.heap.size := HOE.out
    have hdsc : ∀ j, j < m → wL.cell? ⟨g, j, none⟩ = some (ds[j]?.getD undef) := fun j hj => by
     have hjd : j < ds.length := by rw [← HM.out]; omega
     have h := HO.out.cellAt j (by omega)
     rw [List.getElem?_eq_getElem hjd] at h
     rw [List.getElem?_eq_getElem hjd]
     exact keeps hbCL hgl2 h
    have HBWL : Hid (Below w.heap.size w wL) := HBW.out.trans (hbCL.mono HBW.out.size)
    have HKBL : Hid (wL.cell? ⟨kb, 0, none⟩ = some (.int .i64 jn)) := ((HKB.out.below HBC.out).below hbCL).cell 0 rfl
    have HLSL : Hid (SliceK 4 encN 0 wL (.slice ua UL uc) last) := HLS.out.below HBWL.out
    have hszL : w.heap.size ≤ wL.heap.size := HBWL.out.size
    have hkbL : kb < ob := by have := HKE.out; have := HBW.out.size; have := (HKB.out.below HBC.out).lt; omega
    have HDS : Hid (∀ j, j < m → ∃ xa xc, ds[j]?.getD undef = .slice xa (D.getD j []).length xc ∧ SliceK 4 encN 0 w (ds[j]?.getD undef) (D.getD j []) ∧ D.getD j [] ≠ [] ∧ (D.getD j []).length ≤ 200) := fun j hj => by
     have hjd : j < ds.length := by rw [← HM.out]; omega
     have hjD : j < D.length := by rw [HDM.out]; omega
     have h := HRR.out.2 j hjd hjD
     have h2 := HD2.out _ (List.getElem_mem hjD)
     rw [List.getElem?_eq_getElem hjd, List.getD_eq_getElem?_getD, List.getElem?_eq_getElem hjD]
     obtain ⟨xa, xc, hx, -⟩ := id h
     exact ⟨xa, xc, hx, h, h2.2, h2.1⟩
    rw [← hwL, ← hBs]
    have hA1 : m ≤ ds.length := by have := HM.out; omega
    have hA2 : m ≤ 1000 := by omega
    have hA3 : g < wL.heap.size := by omega
    have hA4 : g ≠ ob := by omega
    have hA5 : Bs < wL.heap.size := by omega
    have hA6 : Bs ≠ ob := by omega
    have hkbw : kb < wL.heap.size := by omega
    have hkbo : kb ≠ ob := by omega
    have hobn : w.heap.size ≤ ob := by have := HBW.out.size; omega
    have HSZL : Hid (w.heap.size ≤ wL.heap.size) := hszL
    clear hobC hBsb hwL hBs hbL hbCL hWLs hgl2 hgl hkbL hszL
    refine (wpIn_wide (n := 3)).1 ?_
    refine' wpIn_rangeFunc_ownG (F := Fence.wide) (n := 3) rfl (by omega) (gf := 124) (lb := #[.pointer (some ⟨Bs, 0, none⟩)]) rfl trivial (enters_of Tryz.func124 (by kernel_rfl) rfl)
     (back_stops Fence.wide (3 - 1) trivial rfl (by omega) Bs wL.heap.size ob g m dc ds hA1 hA2 wL (Nat.le_refl _) hA3 hA4 hA5 hA6 hBS hdsc)
     (fun h k => h.trans k) (KeepsBut.putObj (Nat.le_refl _)) (Below.refl _ _) (fun _ => rfl) (InvJ w wL ob jn D last (m := m)) (fun _ _ _ => False) (InvJ.own HSZL.out) (fun _ _ _ _ _ hs _ _ => hs)
     ⟨⟨_, hOBL, HLSL.out⟩, HBWL.out, KeepsBut.refl _ _ _⟩ _ ?assign ?body ?done ?stop
    case assign =>
     intro l x W K hK
     gi_wp2
     exact hK
    case body =>
     rintro l pre x W ⟨⟨vo, hbx, hso⟩, hbw, hkk⟩ hlt
     have hkc := (hkk.cell (o := 0) hkbw hkbo).trans HKBL.out
     obtain ⟨xa, xc, hxe, hxs, hxn, hxl⟩ := HDS.out x.1 x.2
     have hAn := accL_ne jn D HL2.out.2 (pre.map Fin.val)
     have hAl := accL_len jn last (fun f hf => (HD2.out f hf).1) (pre.map Fin.val)
     have hLl := HL2.out.1
     rw [List.length_map] at hAl
     obtain ⟨A, hA⟩ : ∃ A, A = accL jn D last (pre.map Fin.val) := ⟨_, rfl⟩
     rw [← hA] at hso hAn hAl
     obtain ⟨va, vc, hve, -⟩ := id hso
     obtain ⟨AL, hAL⟩ : ∃ AL, AL = A.length := ⟨_, rfl⟩
     rw [← hAL] at hve hAl
     obtain ⟨X, hX⟩ : ∃ X, X = D.getD x.1 [] := ⟨_, rfl⟩
     rw [← hX] at hxe hxs hxn hxl
     obtain ⟨XL, hXL⟩ : ∃ XL, XL = X.length := ⟨_, rfl⟩
     rw [← hXL] at hxe hxl
     subst hve
     rw [hxe] at hxs ⊢
     have hbc := hbx.cell
     have hbf := hbx.frozen
     obtain ⟨nb, hnb⟩ : ∃ nb, nb = W.heap.size := ⟨_, rfl⟩
     have hbN : Below W.heap.size W (W.alloc (.cells #[.int .i64 jn, .int .i64 0, .string ⟨#[]⟩, .bool false] 55)) := (Below.refl _ _).alloc (Nat.le_refl _) _
     have hbH : Below W.heap.size W ((W.alloc (.cells #[.int .i64 jn, .int .i64 0, .string ⟨#[]⟩, .bool false] 55)).alloc (.cells #[.slice (some ⟨W.heap.size, 0, none⟩) 1 1, .slice xa XL xc, .slice va AL vc] 27)) := hbN.alloc (by simp) _
     have hbH2 : Below (W.alloc (.cells #[.int .i64 jn, .int .i64 0, .string ⟨#[]⟩, .bool false] 55)).heap.size (W.alloc (.cells #[.int .i64 jn, .int .i64 0, .string ⟨#[]⟩, .bool false] 55)) ((W.alloc (.cells #[.int .i64 jn, .int .i64 0, .string ⟨#[]⟩, .bool false] 55)).alloc (.cells #[.slice (some ⟨W.heap.size, 0, none⟩) 1 1, .slice xa XL xc, .slice va AL vc] 27)) := (Below.refl _ _).alloc (Nat.le_refl _) _
     have h0 : SliceK 4 encN 0 ((W.alloc (.cells #[.int .i64 jn, .int .i64 0, .string ⟨#[]⟩, .bool false] 55)).alloc (.cells #[.slice (some ⟨W.heap.size, 0, none⟩) 1 1, .slice xa XL xc, .slice va AL vc] 27)) (.slice (some ⟨W.heap.size, 0, none⟩) 1 1) [⟨jn, ByteArray.empty⟩] := by
      have h := World.ownsRow_lit (base := 0) (size := 4) W #[.int .i64 jn, .int .i64 0, .string ⟨#[]⟩, .bool false] (e := 55) 1 (Nat.zero_le _) (by simp [maxLen]) rfl
      exact (SliceK.of_owns (e := 55) (xs := [⟨jn, ByteArray.empty⟩]) encN_len rfl h).below hbH2
     have hBH : Blk ((W.alloc (.cells #[.int .i64 jn, .int .i64 0, .string ⟨#[]⟩, .bool false] 55)).alloc (.cells #[.slice (some ⟨W.heap.size, 0, none⟩) 1 1, .slice xa XL xc, .slice va AL vc] 27)) (W.heap.size + 1) [.slice (some ⟨W.heap.size, 0, none⟩) 1 1, .slice xa XL xc, .slice va AL vc] 27 := by
      have h := Blk.new (W.alloc (.cells #[.int .i64 jn, .int .i64 0, .string ⟨#[]⟩, .bool false] 55)) [.slice (some ⟨W.heap.size, 0, none⟩) 1 1, .slice xa XL xc, .slice va AL vc] 27
      rw [World.size_alloc] at h
      exact h
     have HC := Lib.hid (ConcatN3 (.slice (some ⟨W.heap.size, 0, none⟩) 1 1) (.slice xa XL xc) (.slice va AL vc) [⟨jn, ByteArray.empty⟩] X A _ h0 ((hxs.below hbw).below hbH) (hso.below hbH) (by simp) hxn hAn (by simp; omega) (W.heap.size + 1) hBH)
     have hmx : Tryz.prog.follows .mixedOrders = true := by kernel_rfl
     have HBH := Lib.hid hbH
     have HBX := Lib.hid hbx
     have HKK := Lib.hid hkk
     have HBWW := Lib.hid hbw
     have HAE := Lib.hid hA
     have HXE := Lib.hid hX
     have hWsz := hkk.1
     have hobW : ob < W.heap.size := hbx.lt
     clear hBH hxe hxs hxn hAn hso hbN hbH hbH2 h0 hbx hkk hbw hA hX hAL hXL hnb
     gi_wp2_with fail
     refine ⟨trivial, ?_⟩
     refine (CallsIn.inRound l (callsIn_wide.2 HC.out)).mono ?_
     rintro e w5 ⟨v5, rfl, hb5, ho5⟩
     obtain ⟨a5, c5, rfl⟩ := ho5.slice
     have hbW5 : Below W.heap.size W w5 := HBH.out.trans (hb5.mono HBH.out.size)
     have hbx5 : Boxed w5 ob 27 (.slice va AL vc) := (hbW5.block ob hobW).trans HBX.out
     have k5 := hbx5.cell
     have f5 := hbx5.frozen
     have hoL : ob < ((W.alloc (.cells #[.int .i64 jn, .int .i64 0, .string ⟨#[]⟩, .bool false] 55)).alloc (.cells #[.slice (some ⟨W.heap.size, 0, none⟩) 1 1, .slice xa XL xc, .slice va AL vc] 27)).heap.size := Nat.lt_of_lt_of_le hobW HBH.out.size
     have HSO5 := Lib.hid (ho5.at.mono (show ob + 1 ≤ _ from hoL))
     obtain ⟨FL5, hFL5⟩ : ∃ F5, F5 = (([⟨jn, ByteArray.empty⟩] : List Nd) ++ X ++ A).length := ⟨_, rfl⟩
     rw [← hFL5] at HSO5 ⊢
     clear hFL5
     have HBW5 := Lib.hid hbW5
     have HBX5 := Lib.hid hbx5
     have HFL5 : Hid (accL jn D last ((pre ++ [x]).map Fin.val) = [⟨jn, ByteArray.empty⟩] ++ X ++ A) := by
      unfold Hid
      rw [List.map_append, List.map_cons, List.map_nil, accL_snoc, HAE.out, HXE.out]
      rfl
     clear hb5 ho5 hbW5 hbx5 hoL HC
     gi_wp2
     have hg : w5.grownBy (w5.setCell ⟨ob, 0, none⟩ (.slice a5 FL5 c5)) (some ob) := grownBy_setCell' _ _ _
     have hkb5 : KeepsBut wL.heap.size ob W (w5.setCell ⟨ob, 0, none⟩ (.slice a5 FL5 c5)) := ⟨Nat.le_trans HBW5.out.size hg.size, fun k hk hn => (hg.block k (Nat.lt_of_lt_of_le hk (Nat.le_trans hWsz HBW5.out.size)) (fun e => hn (Option.some.inj e))).trans (HBW5.out.block k (Nat.lt_of_lt_of_le hk hWsz))⟩
     refine ⟨((⟨HBW5.out.size, fun k o hk _ => (HBW5.out.block k (Array.getElem?_eq_some_iff.1 hk).1).trans hk⟩ : KeepsOthers W w5).trans (KeepsOthers.setCell _ _ _)).from _, hkb5, ⟨_, HBX5.out.set _, ?_⟩, (HBWW.out.trans (HBW5.out.mono HBWW.out.size)).setCell hobn _, ?_⟩
     ·rw [HFL5.out]
      exact (HSO5.out.grown hg (fun k e => by cases e; omega)).mono (Nat.zero_le _)
     ·exact HKK.out.trans hkb5
    case done =>
     rintro D' ys W hD' hys ⟨⟨vo, hbx, hso⟩, hbw, hkk⟩ hK
     have hszD : w.heap.size ≤ D' := Nat.le_trans HSZL.out hD'
     have hbc := hbx.cell
     have HACC : Hid (accL jn D last (ys.map Fin.val) = joinN jn nn fs) := by unfold Hid; rw [hys, HV.out]; exact accL_all m HDM.out HLA.out
     rw [HACC.out] at hso
     have HSO := Lib.hid hso
     have HBWW := Lib.hid hbw
     clear hso hbw hkk hbx hys
     go_wp2
     refine ⟨by simp, .inl ⟨_, _, rfl, run_takeDeferred hK, ?_⟩⟩
     refine ⟨_, results_tmp rfl _ _ _, _, rfl, HBWW.out.trans (belowK_b (w := w) (Nat.le_refl _) W D' _ _ hszD hK rfl rfl), ?_⟩
     exact HSO.out.keptObj (by decide) (fun x => by simp [encN]) (grownBy_putObj' W D' (.deferred none)) (fun r e => by cases e; exact ⟨_, hK, rfl⟩)
    case stop =>
     rintro D' c' pre W _ _ h _
     exact h.elim

end Go.Proofs.YtjoacldbgnphkaaGreatDoor
