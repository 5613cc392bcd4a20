/-
  The reference's TracesOf.
  What TestsOf returns. Plain.
  The reference's TestsOf.
  The library's slices.IndexFunc and slices.ContainsFunc at a slice of texts, with a function that may lay blocks of its own.
  The library's slices.IndexFunc and slices.ContainsFunc at a slice of numbers, with a function that may lay blocks of its own.
-/
import Derived.Test.YtkbgncenjfebdaaGreatDoorT17
import Derived.Test.YtkbgncenjfebdaaGreatDoorT19
import Derived.Test.YtkbgncenjfebdaaGreatDoorT11
import Derived.Test.YtkbgncenjfebdaaGreatDoorT9
import Derived.Test.YtkbgncenjfebdaaGreatDoorT6
import Derived.Test.YtkbgncenjfebdaaGreatDoorT13
import Derived.Test.YtkbgncenjfebdaaGreatDoorProg
import Derived.Test.YtkbgncenjfebdaaGreatDoorT1
namespace Go.Proofs.YtkbgncenjfebdaaGreatDoor
open Go Go.RowKit

theorem info_strR : (Tryz.prog.info? 9).map (fun i => (i.zero, i.size, i.bytes)) = some (some (.string ⟨#[]⟩), 1, 16) := by kernel_rfl
theorem info_strsR : (Tryz.prog.info? 22).map (fun i => (i.zero, i.size, i.bytes)) = some (some (.slice none 0 0), 1, 24) := by kernel_rfl
theorem info_intR : (Tryz.prog.info? 2).map (fun i => (i.zero, i.size, i.bytes)) = some (some (.int .i64 0), 1, 8) := by kernel_rfl

/-- The step by a label's number is the edge with it. -/
theorem goTo_lab {d : Lts} (hv : Valid d) {x : Int} (hx : 0 ≤ x) {k : Nat} (hk : k < d.labels.length) : goTo d x d.labels[k] = (((outOf d x).find? fun e => e.lab == (k : Int)).map Edge.dst).getD (-1) := by
 unfold goTo
 rw [if_neg (by omega)]
 congr 2
 have he : ∀ e ∈ d.edges, hitB d x d.labels[k] e = ((e.src == x) && (e.lab == (k : Int))) := by
  intro e he
  obtain ⟨i, hi, rfl⟩ := List.mem_iff_getElem.1 he
  have hok := hv.edge i hi
  obtain ⟨hlt, hla⟩ := labAt_idx hok
  unfold hitB
  congr 1
  rw [hla]
  cases hb : (d.edges[i].lab == (k : Int)) with
  | true =>
   rw [beq_iff_eq] at hb
   have : d.edges[i].lab.toNat = k := by omega
   simp [this]
  | false =>
   rw [beq_eq_false_iff_ne] at hb ⊢
   intro e2
   have := labels_inj hv.labels _ _ hlt hk e2
   have := hok.l0
   omega
 unfold outOf
 rw [List.find?_filter]
 generalize d.edges = es at he
 induction es with
 | nil => rfl
 | cons a es ih =>
  rw [List.find?_cons, List.find?_cons, he a (by simp), ih (fun e h => he e (List.mem_cons_of_mem _ h))]
  simp only [Bool.decide_and, Bool.decide_eq_true]
theorem outTo_next {d : Lts} (hu : Up d.edges) (x : Int) (k : Nat) : outTo d x (k + 1) = outTo d x k ++ ((outOf d x).find? fun e => e.lab == (k : Int)).toList := by
 have := filter_next (k := (k : Int)) (out_up hu x)
 unfold outTo
 have h1 : ((k + 1 : Nat) : Int) = (k : Int) + 1 := by omega
 rw [h1]
 exact this
theorem outTo_le (d : Lts) (x : Int) (k : Nat) : (outTo d x k).length ≤ (outOf d x).length := List.length_filter_le _ _
/-- In which order the traces end up in the memory. -/
structure OwnTE (B : Nat) (w : World) (vo ve : Value) (ns : List (TNode × Value)) : Prop where
 out : OwnStrss B w vo (ns.map Prod.snd) (ns.map fun p => p.1.tr)
 ends : w.ownsRow B 2 1 ve ns.length ((ns.map fun p => p.1.at_).map (Value.int .i64))
theorem OwnTE.below {B : Nat} {w w' : World} {vo ve : Value} {ns : List (TNode × Value)} (h : OwnTE B w vo ve ns) (hb : Below w.heap.size w w') : OwnTE B w' vo ve ns := ⟨h.out.below hb, owns_below h.ends hb⟩
theorem OwnTE.row {B : Nat} {w : World} {vo ve : Value} {ns : List (TNode × Value)} (h : OwnTE B w vo ve ns) {i : Nat} (hi : i < ns.length) : w.ownsRow B 9 1 ns[i].2 ns[i].1.tr.length (txts ns[i].1.tr) := by
 have := h.out.rowAt i (by simpa using hi) (by simpa using hi)
 simpa using this
theorem OwnTE.push {B : Nat} {w wA w3 wB w4 : World} {vo ve vo' ve' tv : Value} {ns : List (TNode × Value)} {p : TNode} (h : OwnTE B w vo ve ns) (hB : B ≤ w.heap.size) (hb : Below w.heap.size w wA) (hr : wA.ownsRow w.heap.size 9 1 tv p.tr.length (txts p.tr))
  (hg : wA.grownBy w3 vo.ownBlock) (ho : w3.ownsRow B 22 1 vo' (ns.length + 1) (ns.map Prod.snd ++ [tv])) (hb2 : Below w3.heap.size w3 wB) (hg2 : wB.grownBy w4 ve.ownBlock)
  (he : w4.ownsRow B 2 1 ve' (ns.length + 1) ((ns.map fun p => p.1.at_).map (Value.int .i64) ++ [.int .i64 p.at_])) : OwnTE B w4 vo' ve' (ns ++ [(p, tv)]) := by
 have h1 := h.out.rows.push (Nat.le_refl _) hb (by rw [txts_len]; exact hr) hB
 have hoA := owns_below h.out.out hb
 have h2 := (h1.other (by decide) hoA hg).below hb2
 have heA := owns_below ((owns_below h.ends hb).kept hg (own_types (owns_below h.ends hb) hoA (by decide))) hb2
 have h3 := h2.other (by decide) heA hg2
 have ho2 := (owns_below ho hb2).kept hg2 (own_types (owns_below ho hb2) heA (by decide))
 refine ⟨⟨?_, ?_⟩, ?_⟩
 ·simpa using ho2
 ·simpa using h3
 ·simpa using he

set_option maxRecDepth 100000 in
set_option maxHeartbeats 8000000 in
theorem specTracesOf_any (lo : Nat) (t : Lts) (lv ev : Value) (q : Int) (w : World) (hsh : Short t.labels) (hl : SliceK 1 encS lo w lv t.labels) (he : SliceK 3 encE lo w ev t.edges) :
  Calls Tryz.prog 58 #[.agg #[.int .i64 t.states, .int .i64 t.initial, lv, ev], .int .i64 q] w (RetTrc t q w) := by
 obtain ⟨W, hW⟩ : ∃ W, W = w.alloc (.cells #[.int .i64 t.states, .int .i64 t.initial, lv, ev] 30) := ⟨_, rfl⟩
 have hB0 : Below w.heap.size w W := by rw [hW]; exact (Below.refl _ _).alloc (Nat.le_refl _) _
 have e1 : Blk W w.heap.size [.int .i64 t.states, .int .i64 t.initial, lv, ev] 30 := by rw [hW]; exact Blk.new w _ _
 have HP : Hid (LtsPtr lo W w.heap.size t) := ⟨lv, ev, e1.lt, e1.cell 0 rfl, e1.cell 1 rfl, e1.cell 2 rfl, e1.cell 3 rfl, hl.below hB0, he.below hB0⟩
 have HB0 := Lib.hid hB0
 have HW := Lib.hid hW
 have HSH := Lib.hid hsh
 clear hsh hl he hB0 hW e1
 by_cases hv : Valid t
 ·have HV := Lib.hid hv
  cases hr : inB q 0 12
  ·have HR : Hid (¬ (0 ≤ q ∧ q ≤ 12)) := by unfold inB at hr; simp only [Bool.and_eq_false_iff, decide_eq_false_iff_not] at hr; unfold Hid; omega
   have HI := Lib.hid (fun w' => l00In_any q 0 12 w')
   rw [hr] at HI
   clear hr hv
   go_enter Tryz.func58, Tryz.ntmps58
   go_wp2_with fail
   rw [← HW.out]
   refine (Decides.yes (l11Is_any _ lo t _ HSH.out HP.out) HV.out).mono ?_
   rintro e w1 ⟨rfl, hb1⟩
   have HB1 := Lib.hid hb1
   clear hb1
   go_wp2_with fail
   refine Calls.mono (HI.out _) ?_
   rintro e w2 ⟨rfl, rfl⟩
   go_wp2
   go_ret2
   exact trc_none (HB0.out.trans (HB1.out.mono HB0.out.size)) (.inr (.inl ⟨HV.out, HR.out, rfl, rfl⟩))
  ·have HR0 : Hid (0 ≤ q ∧ q ≤ 12) := by unfold inB at hr; simp only [Bool.and_eq_true, decide_eq_true_eq] at hr; unfold Hid; omega
   have HI := Lib.hid (fun w' => l00In_any q 0 12 w')
   rw [hr] at HI
   clear hr
   go_enter Tryz.func58, Tryz.ntmps58
   go_wp2_with fail
   rw [← HW.out]
   refine (Decides.yes (l11Is_any _ lo t _ HSH.out HP.out) HV.out).mono ?_
   rintro e w1 ⟨rfl, hb1⟩
   have HB1 := Lib.hid hb1
   clear hb1
   go_wp2_with fail
   refine Calls.mono (HI.out _) ?_
   rintro e w2 ⟨rfl, rfl⟩
   go_wp2_with fail
   refine Calls.mono (l12Sets_any _ lo t _ HV.out (HP.out.below HB1.out)) ?_
   rintro e w3 ⟨hb3, ⟨hfull, rfl⟩ | ⟨st, lv2, vr, ve, hok, rfl, hmem, hown⟩⟩
   ·have HB3 := Lib.hid (HB0.out.trans ((HB1.out.trans (hb3.mono HB1.out.size)).mono HB0.out.size))
    have HF := Lib.hid hfull
    clear hb3 hfull
    go_wp2
    go_ret2
    exact trc_none (HB3.out.alloc HB3.out.size _) (.inr (.inr (.inl ⟨HV.out, HR0.out, HF.out, rfl, rfl⟩)))
   ·have HB3 := Lib.hid (HB1.out.trans (hb3.mono HB1.out.size))
    have HOK := Lib.hid hok
    obtain ⟨⟨vs, hrows⟩, hed⟩ := hmem
    have HG := Lib.hid (dok_good hv hok)
    have hr0 := HG.out.some
    have hr40 := hok.2.1
    have he300 := hok.2.2
    have hlab := hv.labels.most
    obtain ⟨al2, cl2, rfl, -, -⟩ := owns_slice hown
    obtain ⟨ae2, ce2, rfl, -, -⟩ := owns_slice hed
    obtain ⟨av2, cv2, rfl, -, -⟩ := owns_slice hrows.2.1
    obtain ⟨d, hd⟩ : ∃ d, d = dSys t st := ⟨_, rfl⟩
    have HDV : Hid (Valid d) := by unfold Hid; rw [hd]; exact dSys_valid hv hok
    have HDU : Hid (Up d.edges) := by unfold Hid; rw [hd]; exact dok_up hok
    have HDE : Hid (∀ e ∈ d.edges, (1 ≤ e.lab ∧ e.lab < d.labels.length) ∧ 0 ≤ e.dst ∧ e.dst < d.states) := by
     intro e he
     rw [hd] at he ⊢
     have := HG.out.edges e he
     exact ⟨this.2.1, this.2.2⟩
    have hds : d.states = (st.rows.length : Int) := by rw [hd]; rfl
    have hdi : d.initial = 0 := by rw [hd]; rfl
    have hdl : d.labels = t.labels := by rw [hd]; rfl
    have hde : d.edges = st.edges := by rw [hd]; rfl
    rw [← hdl] at hown hlab
    rw [← hde] at hed he300
    rw [← hds, ← hdl, ← hde]
    obtain ⟨LL, hLL⟩ : ∃ LL, LL = d.labels.length := ⟨_, rfl⟩
    obtain ⟨E, hE⟩ : ∃ E, E = d.edges.length := ⟨_, rfl⟩
    rw [← hLL] at hown hlab
    rw [← hE] at hed he300
    rw [← hLL, ← hE]
    obtain ⟨W4, hW4⟩ : ∃ W4, W4 = w3.alloc (.cells #[.int .i64 d.states, .int .i64 0, .slice al2 LL cl2, .slice ae2 E ce2] 30) := ⟨_, rfl⟩
    have hb4 : Below w3.heap.size w3 W4 := by rw [hW4]; exact (Below.refl _ _).alloc (Nat.le_refl _) _
    obtain ⟨xb, hxb⟩ : ∃ xb, xb = w3.heap.size := ⟨_, rfl⟩
    have e4 : Blk W4 xb [.int .i64 d.states, .int .i64 0, .slice al2 LL cl2, .slice ae2 E ce2] 30 := by rw [hW4, hxb]; exact Blk.new w3 _ _
    have HX4 := Lib.hid e4
    have HED := Lib.hid (owns_below hed hb4)
    have HLB := Lib.hid (owns_below hown hb4)
    have HPD : Hid (LtsPtr w1.heap.size W4 xb d) := ⟨_, _, e4.lt, e4.cell 0 rfl, by rw [hdi]; exact e4.cell 1 rfl, e4.cell 2 rfl, e4.cell 3 rfl, by rw [hLL]; exact SliceK.of_owns (e := 9) encS_len rfl (by rw [flat_encS, ← hLL]; exact HLB.out), by rw [hE]; exact SliceK.of_owns (e := 93) encE_len rfl (by rw [← hE]; exact HED.out)⟩
    have HBW := Lib.hid (HB0.out.trans ((HB3.out.trans (hb4.mono HB3.out.size)).mono HB0.out.size))
    have HW4 := Lib.hid hW4
    have HXB := Lib.hid hxb
    obtain ⟨B, hB⟩ : ∃ B, B = W4.heap.size := ⟨_, rfl⟩
    have hxbB : xb < B := by rw [hB]; exact HX4.out.lt
    have HBB := Lib.hid hB
    have HD := Lib.hid hd
    have HLL := Lib.hid hLL
    have HEE := Lib.hid hE
    have hd1 : 1 ≤ d.states := by rw [hds]; omega
    have hLpos : 0 < LL := by rw [hLL, hdl]; exact hv.labels.pos
    obtain ⟨bl, hal, hblB⟩ : ∃ bl, al2 = some ⟨bl, 0, none⟩ ∧ bl < B := by
     rcases HLB.out.2 with ⟨h, h0⟩ | ⟨g, cap, cur, h, -, hg, -⟩
     ·omega
     ·simp only [Value.slice.injEq, true_and] at h
      exact ⟨g, h.1, by rw [hB]; exact (Array.getElem?_eq_some_iff.1 hg).1⟩
    subst hal
    -- the first trace, its slice, the first end
    obtain ⟨W5, hW5⟩ : ∃ W5, W5 = ((W4.alloc (.cells #[] 9)).alloc (.cells #[.slice (some ⟨B, 0, none⟩) 0 0] 22)).alloc (.cells #[.int .i64 0] 2) := ⟨_, rfl⟩
    have HB5 : Hid (Below B W4 W5) := by unfold Hid; rw [hW5, hB]; exact (((Below.refl _ _).alloc (Nat.le_refl _) _).alloc (by simp) _).alloc (by simp; omega) _
    have HA5 : Hid (OwnTE B W5 (.slice (some ⟨B + 1, 0, none⟩) 1 1) (.slice (some ⟨B + 1 + 1, 0, none⟩) 1 1) [(⟨0, []⟩, .slice (some ⟨B, 0, none⟩) 0 0)]) := by
     have r1 : (W4.alloc (.cells #[] 9)).ownsRow B 9 1 (.slice (some ⟨B, 0, none⟩) 0 0) 0 [] := by
      have := World.ownsRow_lit (base := B) (e := 9) (size := 1) W4 #[] 0 (by rw [hB]; exact Nat.le_refl _) (by decide) rfl
      rw [← hB] at this
      exact this
     have r2 : ((W4.alloc (.cells #[] 9)).alloc (.cells #[.slice (some ⟨B, 0, none⟩) 0 0] 22)).ownsRow B 22 1 (.slice (some ⟨B + 1, 0, none⟩) 1 1) 1 [.slice (some ⟨B, 0, none⟩) 0 0] := by
      have := World.ownsRow_lit (base := B) (e := 22) (size := 1) (W4.alloc (.cells #[] 9)) #[.slice (some ⟨B, 0, none⟩) 0 0] 1 (by simp; omega) (by decide) rfl
      rw [World.size_alloc, ← hB] at this
      exact this
     have r3 := World.ownsRow_lit (base := B) (e := 2) (size := 1) ((W4.alloc (.cells #[] 9)).alloc (.cells #[.slice (some ⟨B, 0, none⟩) 0 0] 22)) #[.int .i64 0] 1 (by simp; omega) (by decide) rfl
     rw [World.size_alloc, World.size_alloc, ← hB] at r3
     unfold Hid
     rw [hW5]
     exact ⟨⟨r2.alloc _, Pile.one (B := B) ((r1.alloc _).alloc _) (Nat.le_refl _)⟩, r3⟩
    have HW5 := Lib.hid hW5
    have HBS : Hid (xb + 1 = B) := by unfold Hid; rw [hB, hW4, hxb]; simp
    obtain ⟨i1, hi1, hz10, hz11, hz12⟩ := info_parts info_strR
    obtain ⟨i2, hi2, hz20, hz21, hz22⟩ := info_parts info_strsR
    obtain ⟨i3, hi3, hz30, hz31, hz32⟩ := info_parts info_intR
    clear hb3 hok hed hown hrows hE hW4 hb4 e4 hxb hB hLL hv hd hdi hdl hde hds hW5 hr0
    go_wp2
    rw [← HW4.out, ← HXB.out]
    try rw [HBS.out]
    try rw [← HW5.out]
    go_loopw [9, 10, 11] (fun v9 v10 v11 wr => ∃ (i : Nat) (ns : List (TNode × Value)), v11 = .int .i64 i ∧ TCome d q i ∧ ns.map Prod.fst = trAt d q i ∧ ns.length ≤ 200 ∧ i ≤ ns.length ∧ Below B W4 wr ∧ OwnTE B wr v9 v10 ns) (fun _ _ v11 _ => 1000 - (intOf v11).toNat)
    case atStart => exact ⟨0, [(⟨0, []⟩, .slice (some ⟨B, 0, none⟩) 0 0)], rfl, TCome.zero d q, rfl, by simp, by simp, HB5.out, HA5.out⟩
    case round =>
     clear HA5 HB5
     obtain ⟨i, ns, rfl, hcome, hfst, hn200, hin, hbl, ha⟩ := hrel
     obtain ⟨wC, rfl⟩ : ∃ wC : World, wC = wr := ⟨_, rfl⟩
     have HCO := Lib.hid hcome
     have HFS := Lib.hid hfst
     have HBL := Lib.hid hbl
     have HA := Lib.hid ha
     have HNL : Hid (ns.length = (trAt d q i).length) := by unfold Hid; rw [← hfst, List.length_map]
     have hszB : B ≤ wC.heap.size := by have := hbl.size; rw [← HBB.out] at this; exact this
     obtain ⟨oa, oc, rfl, -, -⟩ := owns_slice ha.out.out
     obtain ⟨ea, ec, rfl, -, -⟩ := owns_slice ha.ends
     have hml : (ns.map Prod.snd).length = ns.length := List.length_map ..
     rw [hml] at ha HA ⊢
     obtain ⟨N, hN⟩ : ∃ N, N = ns.length := ⟨_, rfl⟩
     rw [← hN] at hn200 hin ha HA ⊢
     have HN := Lib.hid hN
     clear hcome hfst hbl hml
     by_cases hlt : i < N
     ·have hilt : i < ns.length := by rw [← HN.out]; exact hlt
      have hrow := ha.out.out
      rw [List.length_map, ← hN] at hrow
      obtain ⟨ob, hoa, hobw⟩ : ∃ ob, oa = some ⟨ob, 0, none⟩ ∧ ob < wC.heap.size := by
       rcases hrow.2 with ⟨h, h0⟩ | ⟨g, cap, cur, h, -, hg, -⟩
       ·omega
       ·simp only [Value.slice.injEq, true_and] at h
        exact ⟨g, h.1, (Array.getElem?_eq_some_iff.1 hg).1⟩
      subst hoa
      have c2 := hrow.cellAt i (by omega)
      rw [List.getElem?_map, List.getElem?_eq_getElem hilt, Option.map_some] at c2
      have hrowi := ha.row hilt
      have hMI : ns[i]? = some ns[i] := List.getElem?_eq_getElem hilt
      have hpi : (trAt d q i)[i]? = some ns[i].1 := by rw [← HFS.out, List.getElem?_map, hMI]; rfl
      obtain ⟨pt, hpt⟩ : ∃ pt, pt = ns[i] := ⟨_, rfl⟩
      rw [← hpt] at c2 hrowi hMI hpi
      obtain ⟨p, tv⟩ := pt
      simp only at c2 hrowi hpi
      have HPI := Lib.hid hpi
      have hpg := TGood.at (d := d) HR0.out.1 hd1 (fun e he => (HDE.out e he).2) i p (List.mem_of_getElem? hpi)
      have hpa0 := hpg.at0
      have hpa1 := hpg.at1
      have hplen := hpg.len
      obtain ⟨ta, tc, rfl, -, -⟩ := owns_slice hrowi
      obtain ⟨TL, hTL⟩ : ∃ TL, TL = p.tr.length := ⟨_, rfl⟩
      rw [← hTL] at c2 hrowi hplen hMI
      have HTL := Lib.hid hTL
      have HMI0 := Lib.hid hMI
      by_cases hen : (TL : Int) = q
      ·have HNX : Hid (trAt d q (i + 1) = trAt d q i) := by
        unfold Hid
        rw [trAt_succ HPI.out]
        unfold trow
        rw [← HTL.out, if_pos hen]
        simp
       have hpos : ((TL : Int) == q) = true := by rw [beq_iff_eq]; exact hen
       have HSU : Hid (TCome d q (i + 1)) := HCO.out.succ (by have := HNL.out; have := HN.out; omega)
       clear hpi hpg hTL hrowi hen hMI hrow ha hpt hilt hN
       go_wp2
       go_roundw
       case rel => exact ⟨i + 1, ns, by go_num, HSU.out, by rw [HNX.out]; exact HFS.out, by rw [← HN.out]; exact hn200, by rw [← HN.out]; omega, HBL.out, HA.out⟩
       case measure => simp [intOf]; omega
      ·have hneg : ((TL : Int) == q) = false := by rw [beq_eq_false_iff_ne]; exact hen
       have HROW : Hid (trow d q p = (outOf d p.at_).map (tnew d p)) := by unfold Hid trow; rw [← HTL.out, if_neg hen]
       have HALL : Hid (outTo d p.at_ LL = outOf d p.at_) := by unfold Hid; rw [HLL.out]; exact outTo_all (fun e he => (HDE.out e he).1.2)
       have HONE : Hid (outTo d p.at_ 1 = []) := outTo_one (fun e he => (HDE.out e he).1.1)
       have hTL12 : TL ≤ 12 := by have := HR0.out.2; omega
       clear hpi hpg hTL hrowi hen hMI hrow ha hpt hilt hN
       go_wp2
       go_loopw [9, 10, 12] (fun v9 v10 v12 wr => ∃ (k : Nat) (ms : List (TNode × Value)), v12 = .int .i64 k ∧ 1 ≤ k ∧ k ≤ LL ∧ ms.map Prod.fst = trAt d q i ++ (outTo d p.at_ k).map (tnew d p) ∧ ms.length ≤ 200 ∧ N ≤ ms.length ∧ ms[i]? = some (p, .slice ta TL tc) ∧ Below B W4 wr ∧ OwnTE B wr v9 v10 ms) (fun _ _ v12 _ => LL - (intOf v12).toNat)
       case atStart => exact ⟨1, ns, rfl, Nat.le_refl _, hLpos, by rw [HONE.out, List.map_nil, List.append_nil]; exact HFS.out, by rw [← HN.out]; exact hn200, by rw [← HN.out]; exact Nat.le_refl _, HMI0.out, HBL.out, HA.out⟩
       case round =>
        obtain ⟨k, ms, rfl, hk1, hkL, hms, hm200, hmN, hmi, hbl, ha⟩ := hrel
        obtain ⟨wC2, rfl⟩ : ∃ wC2 : World, wC2 = wr := ⟨_, rfl⟩
        have HMS := Lib.hid hms
        have HMI := Lib.hid hmi
        have HBL2 := Lib.hid hbl
        have HA2 := Lib.hid ha
        have hszC : B ≤ wC2.heap.size := by have := hbl.size; rw [← HBB.out] at this; exact this
        obtain ⟨ob2, oc2, hv9, -, -⟩ := owns_slice ha.out.out
        obtain ⟨eb2, ec2, hv10, -, -⟩ := owns_slice ha.ends
        subst hv9 hv10
        have hml : (ms.map Prod.snd).length = ms.length := List.length_map ..
        rw [hml] at ha HA2 ⊢
        obtain ⟨M, hM⟩ : ∃ M, M = ms.length := ⟨_, rfl⟩
        rw [← hM] at hm200 hmN ha HA2 ⊢
        have HM := Lib.hid hM
        by_cases hltk : k < LL
        ·have hkd : k < d.labels.length := by rw [← HLL.out]; exact hltk
         obtain ⟨him, hie⟩ := List.getElem?_eq_some_iff.1 hmi
         have hiM : i < M := by omega
         have hends := ha.ends
         rw [← hM] at hends
         have hrow2 := ha.out.out
         rw [List.length_map, ← hM] at hrow2
         obtain ⟨eb3, hea, hebw⟩ : ∃ eb3, eb2 = some ⟨eb3, 0, none⟩ ∧ eb3 < wC2.heap.size := by
          rcases hends.2 with ⟨h, h0⟩ | ⟨g, cap, cur, h, -, hg, -⟩
          ·omega
          ·simp only [Value.slice.injEq, true_and] at h
           exact ⟨g, h.1, (Array.getElem?_eq_some_iff.1 hg).1⟩
         subst hea
         obtain ⟨ob3, hoa, hobw2⟩ : ∃ ob3, ob2 = some ⟨ob3, 0, none⟩ ∧ ob3 < wC2.heap.size := by
          rcases hrow2.2 with ⟨h, h0⟩ | ⟨g, cap, cur, h, -, hg, -⟩
          ·omega
          ·simp only [Value.slice.injEq, true_and] at h
           exact ⟨g, h.1, (Array.getElem?_eq_some_iff.1 hg).1⟩
         subst hoa
         have ce := hends.cellAt i (by omega)
         rw [List.getElem?_map, List.getElem?_map, hmi, Option.map_some, Option.map_some] at ce
         have co := hrow2.cellAt i (by omega)
         rw [List.getElem?_map, hmi, Option.map_some] at co
         have hrowi := ha.row him
         rw [hie] at hrowi
         simp only at hrowi ce co
         rw [← HTL.out] at hrowi
         have HPC : Hid (LtsPtr w1.heap.size wC2 xb d) := HPD.out.below (by have h := hbl; rw [HBB.out] at h; exact h)
         have HXC := Lib.hid (HX4.out.belowB hbl hxbB)
         have hxbC := HXC.out.lt
         have q2 := HXC.out.cell 2 rfl
         have HLBC := owns_below HLB.out (by have h := hbl; rw [HBB.out] at h; exact h)
         have cl := HLBC.cellAt k (by omega)
         rw [List.getElem?_map, List.getElem?_eq_getElem hkd, Option.map_some] at cl
         obtain ⟨l, hl⟩ : ∃ l, l = d.labels[k] := ⟨_, rfl⟩
         rw [← hl] at cl
         have hblC : bl < wC2.heap.size := by omega
         have HGO : Hid (∀ w', Below wC2.heap.size wC2 w' → Calls Tryz.prog 93 #[.pointer (some ⟨xb, 0, none⟩), .int .i64 p.at_, .string l] w' fun e w'' => e = .returned (.int .i64 (goTo d p.at_ l)) ∧ Below w'.heap.size w' w'') := fun w' hb => l12Go_any xb _ d p.at_ l w' HDV.out.edge (HPC.out.below hb)
         have hgo := goTo_lab HDV.out hpa0 hkd
         rw [← hl] at hgo
         have hnx := outTo_next HDU.out p.at_ k
         have lce := later_cell hebw ce
         have lcl := later_cell hblC cl
         have lq2 := later_cell hxbC q2
         obtain ⟨gv, hgv⟩ : ∃ gv, gv = goTo d p.at_ l := ⟨_, rfl⟩
         rw [← hgv] at HGO hgo
         have HRI := Lib.hid hrowi
         have HCO2 := Lib.hid co
         have HLBC2 := Lib.hid cl
         have HKI : Hid ((k : Int) < (LL : Int)) := by unfold Hid; omega
         have hkI := HKI.out
         cases hf : (outOf d p.at_).find? fun e => e.lab == (k : Int) with
         | none =>
          rw [hf] at hgo hnx
          have hgm : gv = -1 := by rw [hgo]; rfl
          have HNX : Hid (outTo d p.at_ (k + 1) = outTo d p.at_ k) := by unfold Hid; rw [hnx]; simp
          subst hgm
          clear hms hmi hbl ha hml hM hends hrow2 ce co hrowi cl hl hgo hnx hgv hf hie HLBC
          go_wp2
          refine wp_region_later (by kernel_rfl) (by kernel_rfl) ?_
          repeat (go_big_quiet_step ((go_at_call 93; exact later_call (HGO.out _ (Later.h _)))))
          refine wpQuiet_nil ?_
          intro _ hw9
          obtain ⟨nl, hw8⟩ := hw9
          subst hw8
          have HBN := Lib.hid (HBL2.out.trans (nl.h.mono hszC))
          have HAN := Lib.hid (HA2.out.below nl.h)
          clear lce lcl lq2
          go_wp2
          go_roundw
          case rel => exact ⟨k + 1, ms, by go_num, by omega, by omega, by rw [HNX.out]; exact HMS.out, by rw [← HM.out]; exact hm200, by rw [← HM.out]; exact hmN, HMI.out, HBN.out, HAN.out⟩
          case measure => simp [intOf]; omega
         | some x =>
          rw [hf] at hgo hnx
          have hgx : gv = x.dst := by rw [hgo]; rfl
          have hxm : x ∈ d.edges := (List.mem_filter.1 (List.mem_of_find?_eq_some hf)).1
          have hxl : x.lab = (k : Int) := by have := List.find?_some hf; simpa using this
          have hxd := (HDE.out x hxm).2
          have HLA : Hid (labAt d x = l) := by
           unfold Hid labAt
           rw [List.getD_eq_getElem?_getD, show x.lab.toNat = k from by omega, List.getElem?_eq_getElem hkd, hl]
           rfl
          have HNX : Hid (outTo d p.at_ (k + 1) = outTo d p.at_ k ++ [x]) := by unfold Hid; rw [hnx]; rfl
          subst hgx
          have hxd0 := hxd.1
          have hnl : ¬ x.dst < 0 := by omega
          clear hms hmi hbl ha hml hM hends hrow2 ce co hrowi cl hl hgo hnx hgv hf hie HLBC hxm hxl hxd
          by_cases h200 : M = 200
          ·have HFU : Hid (TFull d q) := by
            refine ⟨i + 1, HCO.out.succ (by have := HNL.out; have := HN.out; omega), ?_⟩
            rw [trAt_succ HPI.out, HROW.out, List.length_append, List.length_map]
            have h1 := outTo_le d p.at_ (k + 1)
            have h2 := congrArg List.length HMS.out
            rw [List.length_map, List.length_append, List.length_map, ← HM.out] at h2
            rw [HNX.out, List.length_append, List.length_singleton] at h1
            omega
           have hM2 : ((M : Int) == 200) = true := by rw [beq_iff_eq]; omega
           clear h200
           go_wp2
           refine wp_region_later (by kernel_rfl) (by kernel_rfl) ?_
           repeat (go_big_quiet_step ((go_at_call 93; exact later_call (HGO.out _ (Later.h _)))))
           refine wpQuiet_nil ?_
           intro _ hw9
           obtain ⟨nl, hw8⟩ := hw9
           subst hw8
           have HBN := Lib.hid (HBW.out.trans ((HBL2.out.trans (nl.h.mono hszC)).mono (by rw [HBB.out]; exact HBW.out.size)))
           clear lce lcl lq2
           go_wp2
           go_ret2
           exact trc_none HBN.out (.inr (.inr (.inr ⟨HV.out, HR0.out, st, HOK.out, .inl ⟨by rw [← HD.out]; exact HFU.out, rfl, rfl⟩⟩)))
          ·have hM2 : ((M : Int) == 200) = false := by rw [beq_eq_false_iff_ne]; omega
           have HM2 := Lib.hid hM2
           go_wp2
           refine wp_region_later (by kernel_rfl) (by kernel_rfl) ?_
           repeat (go_big_quiet_step ((go_at_call 93; exact later_call (HGO.out _ (Later.h _)))))
           refine wpQuiet_nil ?_
           intro _ hw9
           obtain ⟨nl, hw8⟩ := hw9
           subst hw8
           obtain ⟨wL, hwL⟩ : ∃ wL, wL = nl.w := ⟨_, rfl⟩
           have hbL : Below wC2.heap.size wC2 wL := by rw [hwL]; exact nl.h
           rw [← hwL]
           have HbL := Lib.hid hbL
           have hsL := hbL.size
           have cL := keeps (hbL.alloc hsL (.cells #[] 9)) hobw2 HCO2.out
           have HRL := owns_below HRI.out hbL
           have HSR : Hid (SrcS (wL.alloc (.cells #[] 9)) (.slice ta TL tc) p.tr) := by
            have h : SrcS wL (.slice ta TL tc) p.tr := SrcS.of_own (base := B) (e := 9) (by rw [← HTL.out]; exact HRL)
            exact h.below ((Below.refl _ _).alloc (Nat.le_refl _) _)
           have hE0 : (wL.alloc (.cells #[] 9)).ownsRow wC2.heap.size 9 1 (.slice (some ⟨wL.heap.size, 0, none⟩) 0 0) 0 [] := World.ownsRow_lit (base := wC2.heap.size) (e := 9) (size := 1) wL #[] 0 hsL (by decide) rfl
           have HE0 := Lib.hid hE0
           have hTLt := HTL.out
           have HTL2 : Hid (p.tr.length ≤ 12) := by unfold Hid; omega
           clear lce lcl lq2 hwL hbL HRL hE0 hTLt
           go_wp2_with (at_builtin; refine append_src rfl _ _ 22 rfl wC2.heap.size 9 i1 (.string ⟨#[]⟩) 16 Tryz.underlying22 hi1 hz10 hz11 hz12 rfl _ 0 _ rfl HE0.out p.tr HSR.out ?c3 ?c4 ?c5 ?_)
           case c3 => have := HTL2.out; simp [maxLen]; omega
           case c4 => have := HTL2.out; omega
           case c5 => simp; omega
           intro v1 wM ho1 hg1
           have hlM : (wL.alloc (.cells #[] 9)).heap.size = wL.heap.size + 1 := by simp
           have HbM : Hid (Below wC2.heap.size wC2 wM) := (HbL.out.alloc hsL _).grown hg1 (by simp; omega) (fun b e => by cases e; show wC2.heap.size ≤ wL.heap.size; exact hsL)
           have hgM : (wL.alloc (.cells #[] 9)).heap.size ≤ wM.heap.size := hg1.size
           obtain ⟨va1, vc1, rfl, -, -⟩ := owns_slice ho1
           have HO1 := Lib.hid ho1
           have hsM := HbM.out.size
           rw [← HTL.out] at ho1 ⊢
           have HXM : Hid (Blk wM xb [.int .i64 d.states, .int .i64 0, .slice (some ⟨bl, 0, none⟩) LL cl2, .slice ae2 E ce2] 30) := HXC.out.below HbM.out
           have qM := HXM.out.cell 2 rfl
           have clM := keeps HbM.out hblC HLBC2.out
           have hkM := HKI.out
           have HO1T : Hid (wM.ownsRow wC2.heap.size 9 1 (.slice va1 TL vc1) TL (txts p.tr)) := ho1
           clear ho1 hg1 hlM cL
           go_wp2_with (at_builtin; refine wpList_append_own _ rfl _ _ 22 rfl wC2.heap.size 9 i1 (.string ⟨#[]⟩) 1 16 Tryz.underlying22 hi1 hz10 hz11 hz12 rfl (by decide) _ TL _ rfl (HO1T.out.alloc _) ⟨wM.heap.size, 0, none⟩ 1 1 [.string l] rfl rfl ?d1 ?d2 ?d3 ?d4 ?d5 ?_)
           case d1 => exact World.news_of_block (cs := #[.string l]) (t := 9) (fr := (0, 0)) (heap_alloc_new _ _)
           case d2 => intro u hu; simp at hu; subst hu; rfl
           case d3 => simp [maxLen]; omega
           case d4 => omega
           case d5 => simp; omega
           intro v2 wN ho2 hg2 _
           have HbN : Hid (Below wC2.heap.size wC2 wN) := (HbM.out.alloc hsM _).grown hg2 (by simp; omega) (fun b e => (HO1T.out.lt b e).1)
           obtain ⟨va2, vc2, rfl, -, -⟩ := owns_slice ho2
           have HO2 := Lib.hid ho2
           have hsN := HbN.out.size
           have hAN := HA2.out.below HbN.out
           have HRN : Hid (wN.ownsRow B 22 1 (.slice (some ⟨ob3, 0, none⟩) M oc2) M (ms.map Prod.snd)) := by
            have h := hAN.out.out
            rw [List.length_map, ← HM.out] at h
            exact h
           clear ho2 hg2 qM clM HXM hAN
           go_wp2_with (at_builtin; refine wpList_append_own _ rfl _ _ 42 rfl B 22 i2 (.slice none 0 0) 1 24 Tryz.underlying42 hi2 hz20 hz21 hz22 rfl (by decide) _ M _ rfl (HRN.out.alloc _) ⟨wN.heap.size, 0, none⟩ 1 1 [.slice va2 (TL + 1) vc2] rfl rfl ?f1 ?f2 ?f3 ?f4 ?f5 ?_)
           case f1 => exact World.news_of_block (cs := #[.slice va2 (TL + 1) vc2]) (t := 22) (fr := (0, 0)) (heap_alloc_new _ _)
           case f2 => intro u hu; simp at hu; subst hu; rfl
           case f3 => simp [maxLen]; omega
           case f4 => omega
           case f5 => simp; omega
           intro v3 wO ho3 hg3 _
           obtain ⟨va3, vc3, rfl, -, -⟩ := owns_slice ho3
           have HbNA : Hid (Below wC2.heap.size wC2 (wN.alloc (.cells #[.slice va2 (TL + 1) vc2] 22))) := HbN.out.alloc hsN _
           have HO3 := Lib.hid ho3
           have HG3 := Lib.hid hg3
           have HbO : Hid (Below B wC2 wO) := (HbNA.out.mono hszC).grown hg3 (by have := HbNA.out.size; omega) (fun b e => (HRN.out.lt b e).1)
           have hsO : B ≤ wO.heap.size := by have := HbO.out.size; omega
           have hEA := (HA2.out.below HbNA.out).ends
           rw [← HM.out] at hEA
           have HEO : Hid (wO.ownsRow B 2 1 (.slice (some ⟨eb3, 0, none⟩) M ec2) M ((ms.map fun p => p.1.at_).map (Value.int .i64))) := hEA.kept hg3 (own_types hEA (HRN.out.alloc _) (by decide))
           clear ho3 hg3 hEA
           go_wp2_with (at_builtin; refine wpList_append_own _ rfl _ _ 56 rfl B 2 i3 (.int .i64 0) 1 8 Tryz.underlying56 hi3 hz30 hz31 hz32 rfl (by decide) _ M _ rfl (HEO.out.alloc _) ⟨wO.heap.size, 0, none⟩ 1 1 [.int .i64 x.dst] rfl rfl ?k1 ?k2 ?k3 ?k4 ?k5 ?_)
           case k1 => exact World.news_of_block (cs := #[.int .i64 x.dst]) (t := 2) (fr := (0, 0)) (heap_alloc_new _ _)
           case k2 => intro u hu; simp at hu; subst hu; rfl
           case k3 => simp [maxLen]; omega
           case k4 => omega
           case k5 => simp; omega
           intro v4 wZ ho4 hg4 _
           have HPU : Hid (OwnTE B wZ (.slice va3 (M + 1) vc3) v4 (ms ++ [(tnew d p x, .slice va2 (TL + 1) vc2)])) := by
            refine OwnTE.push (wA := wN.alloc (.cells #[.slice va2 (TL + 1) vc2] 22)) (w3 := wO) (wB := wO.alloc (.cells #[.int .i64 x.dst] 2)) HA2.out hszC HbNA.out ?_ HG3.out ?_ ((Below.refl _ _).alloc (Nat.le_refl _) _) hg4 ?_
            ·have h := HO2.out.alloc (.cells #[.slice va2 (TL + 1) vc2] 22)
             show World.ownsRow _ _ _ 1 _ (p.tr ++ [labAt d x]).length (txts (p.tr ++ [labAt d x]))
             rw [HLA.out, List.length_append, ← HTL.out]
             simpa [txts] using h
            ·rw [← HM.out]; exact HO3.out
            ·rw [← HM.out, List.map_map]; exact ho4
           have HBZ : Hid (Below B W4 wZ) := (HBL2.out.trans ((HbO.out.alloc hsO _))).grown hg4 (by simp; omega) (fun b e => (HEO.out.lt b e).1)
           clear ho4 hg4
           go_wp2
           go_roundw
           case rel =>
            refine ⟨k + 1, _, by go_num, by omega, by omega, ?_, ?_, ?_, ?_, HBZ.out, HPU.out⟩
            ·rw [List.map_append, HMS.out, HNX.out, List.map_append, List.append_assoc]; rfl
            ·rw [List.length_append, ← HM.out]; simp; omega
            ·rw [List.length_append, ← HM.out]; omega
            ·rw [List.getElem?_append_left (List.getElem?_eq_some_iff.1 HMI.out).1]; exact HMI.out
           case measure => simp [intOf]; omega
        ·have hkl : k = LL := by omega
         have HNX : Hid (trAt d q (i + 1) = ms.map Prod.fst) := by
          unfold Hid
          rw [trAt_succ HPI.out, HROW.out, HMS.out, hkl, HALL.out]
         have HSU : Hid (TCome d q (i + 1)) := HCO.out.succ (by have := HNL.out; have := HN.out; omega)
         have q2 := (HX4.out.belowB hbl hxbB).cell 2 rfl
         subst hkl
         clear hms hmi hbl ha hml hM
         go_wp2
         go_roundw
         case rel => exact ⟨i + 1, ms, by go_num, HSU.out, HNX.out.symm, by rw [← HM.out]; exact hm200, by rw [← HM.out]; omega, HBL2.out, HA2.out⟩
         case measure => simp [intOf]; omega
     ·have HFO : Hid (TFound d q (trAt d q i)) := TFound.of HCO.out (by have := HNL.out; omega) (by have := HNL.out; omega)
      have HBF := Lib.hid (HBW.out.trans (HBL.out.mono (by rw [HBB.out]; exact HBW.out.size)))
      have HXS : Hid ((ns.map fun p => p.1.tr) = (trAt d q i).map TNode.tr) := by unfold Hid; rw [← HFS.out, List.map_map]; rfl
      have hsz0 : w.heap.size ≤ B := by rw [HBB.out]; exact HBW.out.size
      clear ha hN
      go_wp2
      go_ret2
      refine ⟨HBF.out, (trAt d q i).map TNode.tr, 0, _, ns.map Prod.snd, rfl, .inr (.inr (.inr ⟨HV.out, HR0.out, st, HOK.out, .inr ⟨trAt d q i, by rw [← HD.out]; exact HFO.out, rfl, rfl⟩⟩)), ?_⟩
      rw [← HXS.out]
      exact HA.out.out.lower hsz0
 ·have HV := Lib.hid hv
  clear hv
  go_enter Tryz.func58, Tryz.ntmps58
  go_wp2_with fail
  rw [← HW.out]
  refine (Decides.no (l11Is_any _ lo t _ HSH.out HP.out) HV.out).mono ?_
  rintro e w1 ⟨rfl, hb1⟩
  have HB1 := Lib.hid hb1
  clear hb1
  go_wp2
  go_ret2
  exact trc_none (HB0.out.trans (HB1.out.mono HB0.out.size)) (.inl ⟨HV.out, rfl, rfl⟩)

end Go.Proofs.YtkbgncenjfebdaaGreatDoor

namespace Go.Proofs.YtkbgncenjfebdaaGreatDoor
open Go Go.RowKit

/-- The tests and the error's code. -/
def TsIs (t : Lts) (ins : List ByteArray) (q : Int) (xs : List (List ByteArray)) (code : Int) : Prop :=
 (¬ IfOk t ins ∧ xs = [] ∧ code = 1) ∨ (IfOk t ins ∧ ¬ (0 ≤ q ∧ q ≤ 8) ∧ xs = [] ∧ code = 2) ∨ (IfOk t ins ∧ (0 ≤ q ∧ q ≤ 8) ∧ ¬ Valid (susT t ins) ∧ xs = [] ∧ code = 5) ∨ (IfOk t ins ∧ (0 ≤ q ∧ q ≤ 8) ∧ Valid (susT t ins) ∧ TracesIs (susT t ins) q xs code)
theorem TsIs.unique {t : Lts} {ins : List ByteArray} {q code code' : Int} {c c' : List (List ByteArray)} (h : TsIs t ins q c code) (k : TsIs t ins q c' code') : c = c' ∧ code = code' := by
 rcases h with ⟨h1, h2, h3⟩ | ⟨h1, h2, h3, h4⟩ | ⟨h1, h2, h3, h4, h5⟩ | ⟨h1, h2, h3, h4⟩ <;>
  rcases k with ⟨k1, k2, k3⟩ | ⟨k1, k2, k3, k4⟩ | ⟨k1, k2, k3, k4, k5⟩ | ⟨k1, k2, k3, k4⟩ <;>
  first
  | exact absurd k1 h1
  | exact absurd h1 k1
  | exact absurd k2 h2
  | exact absurd h2 k2
  | exact absurd k3 h3
  | exact absurd h3 k3
  | exact ⟨h2.trans k2.symm, h3.trans k3.symm⟩
  | exact ⟨h3.trans k3.symm, h4.trans k4.symm⟩
  | exact ⟨h4.trans k4.symm, h5.trans k5.symm⟩
  | exact h4.unique k4
theorem TsIs.few {t : Lts} {ins : List ByteArray} {q code : Int} {xs : List (List ByteArray)} (h : TsIs t ins q xs code) : totalS xs ≤ 2400 := by
 rcases h with ⟨-, rfl, -⟩ | ⟨-, -, rfl, -⟩ | ⟨-, -, -, rfl, -⟩ | ⟨-, -, -, h⟩
 ·simp [totalS]
 ·simp [totalS]
 ·simp [totalS]
 ·exact h.few2
def RetTs (t : Lts) (ins : List ByteArray) (q : Int) (w : World) (e : Ending) (w' : World) : Prop :=
 Below w.heap.size w w' ∧ ∃ (xss : List (List ByteArray)) (code : Int) (v : Value) (vs : List Value), e = .returned (.tuple #[v, .int .i64 code]) ∧ TsIs t ins q xss code ∧ OwnStrss w.heap.size w' v vs xss
theorem ts_none {t : Lts} {ins : List ByteArray} {q code : Int} {w w' : World} (hb : Below w.heap.size w w') (h : TsIs t ins q [] code) : RetTs t ins q w (.returned (.tuple #[.slice none 0 0, .int .i64 code])) w' :=
 ⟨hb, [], code, _, [], rfl, h, OwnStrss.none _ _⟩

end Go.Proofs.YtkbgncenjfebdaaGreatDoor

namespace Go.Proofs.YtkbgncenjfebdaaGreatDoor
open Go Go.RowKit

set_option maxRecDepth 100000 in
set_option maxHeartbeats 4000000 in
theorem specTestsOf_any (lo : Nat) (t : Lts) (lv ev v : Value) (ins : List ByteArray) (q : Int) (w : World) (hsh : Short t.labels) (hl : SliceK 1 encS lo w lv t.labels) (he : SliceK 3 encE lo w ev t.edges) (hi : SliceK 1 encS lo w v ins) :
  Calls Tryz.prog 23 #[.agg #[.int .i64 t.states, .int .i64 t.initial, lv, ev], v, .int .i64 q] w (RetTs t ins q w) := by
 obtain ⟨tb, htb⟩ : ∃ tb, tb = w.heap.size := ⟨_, rfl⟩
 obtain ⟨wA, hwA⟩ : ∃ wA, wA = w.alloc (.cells #[.int .i64 t.states, .int .i64 t.initial, lv, ev] 30) := ⟨_, rfl⟩
 have hbA : Below w.heap.size w wA := by rw [hwA]; exact (Below.refl _ _).alloc (Nat.le_refl _) _
 have hT : Blk wA tb [.int .i64 t.states, .int .i64 t.initial, lv, ev] 30 := by rw [hwA, htb]; exact Blk.new w _ _
 have hP : LtsPtr lo wA tb t := ⟨_, _, hT.lt, hT.cell 0 rfl, hT.cell 1 rfl, hT.cell 2 rfl, hT.cell 3 rfl, hl.below hbA, he.below hbA⟩
 have HVI := l28Is_any tb lo t v ins wA hsh hP (hi.below hbA)
 have HSH := Lib.hid hsh
 have HP := Lib.hid hP
 have HII := Lib.hid (hi.below hbA)
 have HBA := Lib.hid hbA
 have HWA := Lib.hid hwA
 have HTB := Lib.hid htb
 have hsW : w.heap.size ≤ wA.heap.size := hbA.size
 clear hsh hl he hi hwA hbA hT htb hP
 by_cases hif : IfOk t ins
 ·have HIF := Lib.hid hif
  have HVA := Lib.hid (Decides.yes HVI hif)
  clear hif HVI
  cases hr : inB q 0 8
  ·have HRG : Hid (¬ (0 ≤ q ∧ q ≤ 8)) := by unfold inB at hr; simp only [Bool.and_eq_false_iff, decide_eq_false_iff_not] at hr; unfold Hid; omega
   have HI := Lib.hid (fun w' => l00In_any q 0 8 w')
   rw [hr] at HI
   clear hr
   go_enter Tryz.func23, Tryz.ntmps23
   go_wp2_with fail
   rw [← HWA.out, ← HTB.out]
   refine Calls.mono HVA.out ?_
   rintro e w1 ⟨rfl, hb1⟩
   have HB1 := Lib.hid hb1
   clear hb1 HVA
   go_wp2_with fail
   refine Calls.mono (HI.out _) ?_
   rintro e w2 ⟨rfl, rfl⟩
   go_wp2
   go_ret2
   exact ts_none (HBA.out.trans (HB1.out.mono hsW)) (.inr (.inl ⟨HIF.out, HRG.out, rfl, rfl⟩))
  ·have HRG : Hid (0 ≤ q ∧ q ≤ 8) := by unfold inB at hr; simp only [Bool.and_eq_true, decide_eq_true_eq] at hr; unfold Hid; omega
   have HI := Lib.hid (fun w' => l00In_any q 0 8 w')
   rw [hr] at HI
   clear hr
   go_enter Tryz.func23, Tryz.ntmps23
   go_wp2_with fail
   rw [← HWA.out, ← HTB.out]
   refine Calls.mono HVA.out ?_
   rintro e w1 ⟨rfl, hb1⟩
   have HB1 := Lib.hid hb1
   have HSP := Lib.hid (l28Suspend_any tb lo t v ins w1 HIF.out HSH.out (HP.out.below hb1) (HII.out.below hb1))
   clear hb1 HVA
   go_wp2_with fail
   refine Calls.mono (HI.out _) ?_
   rintro e w2 ⟨rfl, rfl⟩
   go_wp2_with fail
   refine Calls.mono HSP.out ?_
   rintro e w2 ⟨hb2, b, lv1, ev1, rfl, hbv, hol⟩
   obtain ⟨la, lc, rfl, -, -⟩ := owns_slice hol.1
   obtain ⟨ea, ec, rfl, -, -⟩ := owns_slice hol.2
   obtain ⟨LN, hLN⟩ : ∃ LN, LN = (susT t ins).labels.length := ⟨_, rfl⟩
   obtain ⟨EN, hEN⟩ : ∃ EN, EN = (susT t ins).edges.length := ⟨_, rfl⟩
   have HDL : Hid (∀ w', Below w2.heap.size w2 w' → Calls Tryz.prog 58 #[.agg #[.int .i64 t.states, .int .i64 t.initial, .slice la (susT t ins).labels.length lc, .slice ea (susT t ins).edges.length ec], .int .i64 q] w' (RetTrc (susT t ins) q w')) := fun w' hb =>
    specTracesOf_any w1.heap.size (susT t ins) (.slice la (susT t ins).labels.length lc) (.slice ea (susT t ins).edges.length ec) q w' (susL_shortS HSH.out) ((SliceK.of_owns (enc := encS) (e := 9) encS_len rfl (by rw [flat_encS]; exact hol.1)).below hb) ((SliceK.of_owns (enc := encE) (e := 93) encE_len rfl hol.2).below hb)
   rw [← hLN, ← hEN] at HDL
   rw [← hLN, ← hEN]
   obtain ⟨W3, hW3⟩ : ∃ W3, W3 = w2.alloc (.cells #[.int .i64 t.states, .int .i64 t.initial, .slice la LN lc, .slice ea EN ec] 30) := ⟨_, rfl⟩
   have hb4 : Below w2.heap.size w2 W3 := by rw [hW3]; exact (Below.refl _ _).alloc (Nat.le_refl _) _
   have hX : Blk W3 w2.heap.size [.int .i64 t.states, .int .i64 t.initial, .slice la LN lc, .slice ea EN ec] 30 := by rw [hW3]; exact Blk.new _ _ _
   have HD := Lib.hid (HDL.out W3 hb4)
   have HB4 := Lib.hid (HB1.out.trans ((hb2.trans (hb4.mono hb2.size)).mono HB1.out.size))
   have HW3 := Lib.hid hW3
   have HBV := Lib.hid hbv
   have x0 := hX.cell 0 rfl
   have x1 := hX.cell 1 rfl
   have x2 := hX.cell 2 rfl
   have x3 := hX.cell 3 rfl
   rw [hW3] at x0 x1 x2 x3
   clear hbv hol hLN hEN hb2 hb4 hX hW3 HDL HSP
   cases b
   ·have HNV : Hid (¬ Valid (susT t ins)) := fun hv => by have := HBV.out.2 hv; cases this
    clear x0 x1 x2 x3
    go_wp2
    rw [← HW3.out]
    go_ret2
    exact ts_none (HBA.out.trans (HB4.out.mono hsW)) (.inr (.inr (.inl ⟨HIF.out, HRG.out, HNV.out, rfl, rfl⟩)))
   ·have HV : Hid (Valid (susT t ins)) := HBV.out.1 rfl
    go_wp2_with fail
    rw [← HW3.out]
    refine Calls.mono HD.out ?_
    rintro e w3 ⟨hb3, xss, code, v3, vs, rfl, hti, hos⟩
    have HTI := Lib.hid hti
    have HB5 := Lib.hid (HBA.out.trans ((HB4.out.trans (hb3.mono HB4.out.size)).mono hsW))
    have HOS := Lib.hid (hos.lower (Nat.le_trans hsW HB4.out.size))
    obtain ⟨sa3, sc3, rfl, -, -⟩ := owns_slice hos.out
    clear hb3 hti hos x0 x1 x2 x3 HD
    go_wp2
    go_ret2
    exact ⟨HB5.out, xss, code, _, vs, rfl, .inr (.inr (.inr ⟨HIF.out, HRG.out, HV.out, HTI.out⟩)), HOS.out⟩
 ·have HIF := Lib.hid hif
  have HVA := Lib.hid (Decides.no HVI hif)
  clear hif HVI
  go_enter Tryz.func23, Tryz.ntmps23
  go_wp2_with fail
  rw [← HWA.out, ← HTB.out]
  refine Calls.mono HVA.out ?_
  rintro e w1 ⟨rfl, hb1⟩
  have HB1 := Lib.hid hb1
  clear hb1 HVA
  go_wp2
  go_ret2
  exact ts_none (HBA.out.trans (HB1.out.mono hsW)) (.inl ⟨HIF.out, rfl, rfl⟩)

end Go.Proofs.YtkbgncenjfebdaaGreatDoor

namespace Go.Proofs.YtkbgncenjfebdaaGreatDoor
open Go Go.RowKit

def idxS (P : ByteArray → Bool) (xs : List ByteArray) : Int := if xs.findIdx P < xs.length then (xs.findIdx P : Nat) else -1
theorem idxS_neg {P : ByteArray → Bool} {xs : List ByteArray} : idxS P xs = -1 ↔ ∀ x ∈ xs, P x = false := by
 unfold idxS
 by_cases h : xs.findIdx P < xs.length
 ·rw [if_pos h]
  refine ⟨fun e => by omega, fun h2 => ?_⟩
  obtain ⟨x, hx, hp⟩ := List.findIdx_lt_length.1 h
  rw [h2 x hx] at hp
  cases hp
 ·rw [if_neg h]
  refine ⟨fun _ x hx => ?_, fun _ => rfl⟩
  cases hp : P x
  ·rfl
  ·exact absurd (List.findIdx_lt_length.2 ⟨x, hx, hp⟩) h
theorem idxS_any {P : ByteArray → Bool} {xs : List ByteArray} : decide (0 ≤ idxS P xs) = xs.any P := by
 unfold idxS
 by_cases h : xs.findIdx P < xs.length
 ·rw [if_pos h]
  obtain ⟨x, hx, hp⟩ := List.findIdx_lt_length.1 h
  rw [List.any_eq_true.2 ⟨x, hx, hp⟩]
  simp
 ·rw [if_neg h]
  have : xs.any P = false := by
   rw [List.any_eq_false]
   intro x hx hp
   exact h (List.findIdx_lt_length.2 ⟨x, hx, hp⟩)
  rw [this]
  rfl
/-- A function of one element that answers P, and turns nothing that was there. -/
def AskS (fid : Nat) (caps : Array Value) (P : ByteArray → Bool) (xs : List ByteArray) (B : Nat) (w : World) : Prop :=
 ∀ w', Below B w w' → ∀ x ∈ xs, Calls Tryz.prog fid (#[.string x] ++ caps) w' fun e w'' => e = .returned (.bool (P x)) ∧ Below w'.heap.size w' w''

set_option maxRecDepth 100000 in
set_option maxHeartbeats 1000000 in
theorem IndexFuncS (lo : Nat) (v : Value) (xs : List ByteArray) (fid : Nat) (caps : Array Value) (P : ByteArray → Bool) (w : World) (hv : SliceK 1 encS lo w v xs) (eg : ∀ args w, (callFunc fid args).run Tryz.prog w = .ok (.enter fid args) w) (hP : AskS fid caps P xs w.heap.size w) :
  Calls Tryz.prog 155 #[v, .func (.func fid) #[] caps] w fun e w' => e = .returned (.int .i64 (idxS P xs)) ∧ Below w.heap.size w w' := by
 obtain ⟨a, c, rfl, hcn, hcc, hrow⟩ := hv
 have HR := Lib.hid hrow
 have HP := Lib.hid hP
 clear hP hrow
 go_enter Tryz.func155, Tryz.ntmps155
 go_wp2_with fail
 go_loopw [8] (fun i wr => ∃ k : Nat, k ≤ xs.length ∧ i = .int .i64 k ∧ Below w.heap.size w wr ∧ ∀ j (h : j < xs.length), j < k → P xs[j] = false) (fun i _ => xs.length - (intOf i).toNat)
 case atStart => exact ⟨0, Nat.zero_le _, rfl, Below.refl _ _, fun _ _ h => by omega⟩
 case round =>
  obtain ⟨k, hk, rfl, hbl, ha⟩ := hrel
  have HA := Lib.hid ha
  have HBL := Lib.hid hbl
  clear ha
  by_cases hlt : k < xs.length
  ·obtain ⟨b1, o1, rfl, -, hbs, c1⟩ := (HR.out.below hbl).one hlt
   simp only [encS, List.getElem?_cons_zero] at c1
   clear hbl
   obtain ⟨x, hx⟩ : ∃ x, x = xs[k] := ⟨_, rfl⟩
   rw [← hx] at c1
   have HX := Lib.hid hx
   have HC := Lib.hid (HP.out wr HBL.out x (by rw [hx]; exact List.getElem_mem _))
   obtain ⟨b, hb⟩ : ∃ b, b = P x := ⟨_, rfl⟩
   rw [← hb] at HC
   have HB := Lib.hid hb
   clear hb hx
   go_wp2_with fail
   refine Calls.mono HC.out ?_
   rintro e w1 ⟨rfl, hb1⟩
   have HB1 := Lib.hid (HBL.out.trans (hb1.mono HBL.out.size))
   clear hb1 c1
   cases b
   ·go_wp2_with fail
    go_roundw
    case rel => exact ⟨k + 1, by omega, by go_num, HB1.out, fun j h hj => by
     by_cases e : j = k
     ·subst e; rw [← HX.out]; exact HB.out.symm
     ·exact HA.out j h (by omega)⟩
    case measure => simp [intOf]; omega
   ·have HI : Hid (idxS P xs = (k : Int)) := by
     unfold Hid idxS
     have h1 : xs.findIdx P = k := by
      rw [List.findIdx_eq hlt]
      exact ⟨by rw [← HX.out]; exact HB.out.symm, fun j hj => HA.out j (by omega) hj⟩
     rw [h1, if_pos hlt]
    go_wp2_with fail
    go_ret
    exact ⟨ret_int HI.out.symm, HB1.out⟩
  ·clear hbl
   have HI : Hid (idxS P xs = -1) := by
    unfold Hid
    rw [idxS_neg]
    intro x hx
    obtain ⟨j, hj, rfl⟩ := List.mem_iff_getElem.1 hx
    exact HA.out j hj (by omega)
   go_wp2_with fail
   go_ret
   exact ⟨ret_int HI.out.symm, HBL.out⟩

end Go.Proofs.YtkbgncenjfebdaaGreatDoor

namespace Go.Proofs.YtkbgncenjfebdaaGreatDoor
open Go Go.RowKit

def idxI (P : Int → Bool) (xs : List Int) : Int := if xs.findIdx P < xs.length then (xs.findIdx P : Nat) else -1
theorem idxI_neg {P : Int → Bool} {xs : List Int} : idxI P xs = -1 ↔ ∀ x ∈ xs, P x = false := by
 unfold idxI
 by_cases h : xs.findIdx P < xs.length
 ·rw [if_pos h]
  refine ⟨fun e => by omega, fun h2 => ?_⟩
  obtain ⟨x, hx, hp⟩ := List.findIdx_lt_length.1 h
  rw [h2 x hx] at hp
  cases hp
 ·rw [if_neg h]
  refine ⟨fun _ x hx => ?_, fun _ => rfl⟩
  cases hp : P x
  ·rfl
  ·exact absurd (List.findIdx_lt_length.2 ⟨x, hx, hp⟩) h
/-- A function of one element that answers P, and turns nothing that was there. -/
def AskI (fid : Nat) (caps : Array Value) (P : Int → Bool) (xs : List Int) (B : Nat) (w : World) : Prop :=
 ∀ w', Below B w w' → ∀ x ∈ xs, Calls Tryz.prog fid (#[.int .i64 x] ++ caps) w' fun e w'' => e = .returned (.bool (P x)) ∧ Below w'.heap.size w' w''

set_option maxRecDepth 100000 in
set_option maxHeartbeats 1000000 in
theorem IndexFuncI (lo : Nat) (v : Value) (xs : List Int) (fid : Nat) (caps : Array Value) (P : Int → Bool) (w : World) (hv : SliceK 1 encI lo w v xs) (eg : ∀ args w, (callFunc fid args).run Tryz.prog w = .ok (.enter fid args) w) (hP : AskI fid caps P xs w.heap.size w) :
  Calls Tryz.prog 172 #[v, .func (.func fid) #[] caps] w fun e w' => e = .returned (.int .i64 (idxI P xs)) ∧ Below w.heap.size w w' := by
 obtain ⟨a, c, rfl, hcn, hcc, hrow⟩ := hv
 have HR := Lib.hid hrow
 have HP := Lib.hid hP
 clear hP hrow
 go_enter Tryz.func172, Tryz.ntmps172
 go_wp2_with fail
 go_loopw [8] (fun i wr => ∃ k : Nat, k ≤ xs.length ∧ i = .int .i64 k ∧ Below w.heap.size w wr ∧ ∀ j (h : j < xs.length), j < k → P xs[j] = false) (fun i _ => xs.length - (intOf i).toNat)
 case atStart => exact ⟨0, Nat.zero_le _, rfl, Below.refl _ _, fun _ _ h => by omega⟩
 case round =>
  obtain ⟨k, hk, rfl, hbl, ha⟩ := hrel
  have HA := Lib.hid ha
  have HBL := Lib.hid hbl
  clear ha
  by_cases hlt : k < xs.length
  ·obtain ⟨b1, o1, rfl, -, hbs, c1⟩ := (HR.out.below hbl).one hlt
   simp only [encI, List.getElem?_cons_zero] at c1
   clear hbl
   obtain ⟨x, hx⟩ : ∃ x, x = xs[k] := ⟨_, rfl⟩
   rw [← hx] at c1
   have HX := Lib.hid hx
   have HC := Lib.hid (HP.out wr HBL.out x (by rw [hx]; exact List.getElem_mem _))
   obtain ⟨b, hb⟩ : ∃ b, b = P x := ⟨_, rfl⟩
   rw [← hb] at HC
   have HB := Lib.hid hb
   clear hb hx
   go_wp2_with fail
   refine Calls.mono HC.out ?_
   rintro e w1 ⟨rfl, hb1⟩
   have HB1 := Lib.hid (HBL.out.trans (hb1.mono HBL.out.size))
   clear hb1 c1
   cases b
   ·go_wp2_with fail
    go_roundw
    case rel => exact ⟨k + 1, by omega, by go_num, HB1.out, fun j h hj => by
     by_cases e : j = k
     ·subst e; rw [← HX.out]; exact HB.out.symm
     ·exact HA.out j h (by omega)⟩
    case measure => simp [intOf]; omega
   ·have HI : Hid (idxI P xs = (k : Int)) := by
     unfold Hid idxI
     have h1 : xs.findIdx P = k := by
      rw [List.findIdx_eq hlt]
      exact ⟨by rw [← HX.out]; exact HB.out.symm, fun j hj => HA.out j (by omega) hj⟩
     rw [h1, if_pos hlt]
    go_wp2_with fail
    go_ret
    exact ⟨ret_int HI.out.symm, HB1.out⟩
  ·clear hbl
   have HI : Hid (idxI P xs = -1) := by
    unfold Hid
    rw [idxI_neg]
    intro x hx
    obtain ⟨j, hj, rfl⟩ := List.mem_iff_getElem.1 hx
    exact HA.out j hj (by omega)
   go_wp2_with fail
   go_ret
   exact ⟨ret_int HI.out.symm, HBL.out⟩

end Go.Proofs.YtkbgncenjfebdaaGreatDoor
