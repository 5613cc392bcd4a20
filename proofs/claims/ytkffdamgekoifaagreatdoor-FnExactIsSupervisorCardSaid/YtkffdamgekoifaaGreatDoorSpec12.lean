/-
  What the reference's functions on plants compute: whether they are valid; where a label leads.
-/
import Derived.Test.YtkffdamgekoifaaGreatDoorSpec11
import Derived.Test.YtkffdamgekoifaaGreatDoorOne
namespace Go.Proofs.YtkffdamgekoifaaGreatDoor
open Go Go.RowKit

set_option maxRecDepth 100000 in
set_option maxHeartbeats 1000000 in
theorem l29Free_any (p lo : Nat) (t : Lts) (w : World) (hsh : Short t.labels) (hp : LtsPtr lo w p t) : Calls Tryz.prog 16 #[.pointer (some ⟨p, 0, none⟩)] w (Decides (Free t) w) := by
  have HP := Lib.hid hp
  have HS := Lib.hid hsh
  clear hp hsh
  by_cases hv : Valid t
  · have HV := Lib.hid hv
    clear hv
    by_cases hs : Single t
    · have HG := Lib.hid hs
      clear hs
      go_enter Tryz.func16, Tryz.ntmps16
      go_wp2_with fail
      refine (Decides.yes (l11Is_any p lo t _ HS.out HP.out) HV.out).mono ?_
      rintro e w1 ⟨rfl, hb1⟩
      have HB1 := Lib.hid hb1
      clear hb1
      go_wp2_with fail
      refine (Decides.yes (l11Single_any p lo t _ (HP.out.below HB1.out)) HG.out).mono ?_
      rintro e w2 ⟨rfl, hb2⟩
      have HB2 := Lib.hid (HB1.out.trans (hb2.mono HB1.out.size))
      clear hb2
      go_wp2_with fail
      go_ret
      exact ⟨true, rfl, ⟨fun _ => ⟨HV.out, HG.out⟩, fun _ => rfl⟩, HB2.out⟩
    · have HG := Lib.hid hs
      clear hs
      go_enter Tryz.func16, Tryz.ntmps16
      go_wp2_with fail
      refine (Decides.yes (l11Is_any p lo t _ HS.out HP.out) HV.out).mono ?_
      rintro e w1 ⟨rfl, hb1⟩
      have HB1 := Lib.hid hb1
      clear hb1
      go_wp2_with fail
      refine (Decides.no (l11Single_any p lo t _ (HP.out.below HB1.out)) HG.out).mono ?_
      rintro e w2 ⟨rfl, hb2⟩
      have HB2 := Lib.hid (HB1.out.trans (hb2.mono HB1.out.size))
      clear hb2
      go_wp2_with fail
      go_ret
      exact ⟨false, rfl, ⟨(fun h => by cases h), fun h => absurd h.single HG.out⟩, HB2.out⟩
  · have HV := Lib.hid hv
    clear hv
    go_enter Tryz.func16, Tryz.ntmps16
    go_wp2_with fail
    refine (Decides.no (l11Is_any p lo t _ HS.out HP.out) HV.out).mono ?_
    rintro e w1 ⟨rfl, hb1⟩
    have HB1 := Lib.hid hb1
    clear hb1
    go_wp2_with fail
    go_ret
    exact ⟨false, rfl, ⟨(fun h => by cases h), fun h => absurd h.valid HV.out⟩, HB1.out⟩

set_option maxRecDepth 100000 in
set_option maxHeartbeats 1000000 in
theorem l29Is_any (p lo : Nat) (t : Plant) (w : World) (hsh : Short t.sys.labels) (hp : PlantPtr lo w p t) : Calls Tryz.prog 15 #[.pointer (some ⟨p, 0, none⟩)] w (Decides (PlantOk t) w) := by
  have HS := Lib.hid hsh
  obtain ⟨mv, nv, hl, hm, hn, hms, hns⟩ := hp
  have HL := Lib.hid hl
  obtain ⟨_, _, hpl, q0, -⟩ := hl
  have HMS := Lib.hid hms
  have HNS := Lib.hid hns
  obtain ⟨am, cm, rfl, -⟩ := hms
  obtain ⟨an, cn, rfl, -⟩ := hns
  replace q0 := later_cell hpl q0
  replace hm := later_cell hpl hm
  replace hn := later_cell hpl hn
  clear hsh
  by_cases hv : Free t.sys
  · have HV := Lib.hid hv
    have hst := hv.valid.st0
    have hst2 := hv.valid.st1
    clear hv
    by_cases hr : Rises t.marks t.sys.states
    · have HR := Lib.hid hr
      clear hr
      by_cases hk : NamesOk t.names
      · have HK := Lib.hid hk
        clear hk
        go_enter Tryz.func15, Tryz.ntmps15
        go_wp2
        refine wp_region_later (by kernel_rfl) (by kernel_rfl) ?_
        repeat (go_big_quiet_step ((first | (go_at_call 16; exact later_call (Decides.yes (l29Free_any p lo t.sys _ HS.out (LtsPtr.below HL.out (Later.h _))) HV.out)) | (go_at_call 28; exact later_call (Decides.yes (l00Rises_any lo _ t.marks t.sys.states _ (SliceK.below HMS.out (Later.h _))) HR.out)) | (go_at_call 29; exact later_call (Decides.yes (l05Names_any lo _ t.names _ (SliceK.below HNS.out (Later.h _))) HK.out)))))
        refine wpQuiet_nil ?_
        intro _ hw9
        obtain ⟨nl, hw8⟩ := hw9
        subst hw8
        go_wp2
        go_ret
        exact ⟨true, rfl, ⟨fun _ => ⟨HV.out, HR.out, HK.out⟩, fun _ => rfl⟩, nl.h⟩
      · have HK := Lib.hid hk
        clear hk
        go_enter Tryz.func15, Tryz.ntmps15
        go_wp2
        refine wp_region_later (by kernel_rfl) (by kernel_rfl) ?_
        repeat (go_big_quiet_step ((first | (go_at_call 16; exact later_call (Decides.yes (l29Free_any p lo t.sys _ HS.out (LtsPtr.below HL.out (Later.h _))) HV.out)) | (go_at_call 28; exact later_call (Decides.yes (l00Rises_any lo _ t.marks t.sys.states _ (SliceK.below HMS.out (Later.h _))) HR.out)) | (go_at_call 29; exact later_call (Decides.no (l05Names_any lo _ t.names _ (SliceK.below HNS.out (Later.h _))) HK.out)))))
        refine wpQuiet_nil ?_
        intro _ hw9
        obtain ⟨nl, hw8⟩ := hw9
        subst hw8
        go_wp2
        go_ret
        exact ⟨false, rfl, ⟨(fun h => by cases h), fun h => absurd h.names HK.out⟩, nl.h⟩
    · have HR := Lib.hid hr
      clear hr
      go_enter Tryz.func15, Tryz.ntmps15
      go_wp2
      refine wp_region_later (by kernel_rfl) (by kernel_rfl) ?_
      repeat (go_big_quiet_step ((first | (go_at_call 16; exact later_call (Decides.yes (l29Free_any p lo t.sys _ HS.out (LtsPtr.below HL.out (Later.h _))) HV.out)) | (go_at_call 28; exact later_call (Decides.no (l00Rises_any lo _ t.marks t.sys.states _ (SliceK.below HMS.out (Later.h _))) HR.out)))))
      refine wpQuiet_nil ?_
      intro _ hw9
      obtain ⟨nl, hw8⟩ := hw9
      subst hw8
      go_wp2
      go_ret
      exact ⟨false, rfl, ⟨(fun h => by cases h), fun h => absurd h.marks HR.out⟩, nl.h⟩
  · have HV := Lib.hid hv
    clear hv
    go_enter Tryz.func15, Tryz.ntmps15
    go_wp2
    refine wp_region_later (by kernel_rfl) (by kernel_rfl) ?_
    repeat (go_big_quiet_step ((first | (go_at_call 16; exact later_call (Decides.no (l29Free_any p lo t.sys _ HS.out (LtsPtr.below HL.out (Later.h _))) HV.out)))))
    refine wpQuiet_nil ?_
    intro _ hw9
    obtain ⟨nl, hw8⟩ := hw9
    subst hw8
    go_wp2
    go_ret
    exact ⟨false, rfl, ⟨(fun h => by cases h), fun h => absurd h.free HV.out⟩, nl.h⟩

/-! ### a label's number, and the edges with it -/
theorem textAt_some {ss : List ByteArray} {s : ByteArray} (h : ¬ textAt ss s < 0) : ∃ n : Nat, textAt ss s = n ∧ ∃ hn : n < ss.length, ss[n].toList = s.toList := by
  unfold textAt at h ⊢
  by_cases hlt : ss.findIdx (fun t => t.toList == s.toList) < ss.length
  · rw [if_pos hlt]
    refine ⟨_, rfl, hlt, ?_⟩
    have := List.findIdx_getElem (p := fun t : ByteArray => t.toList == s.toList) (xs := ss) (w := hlt)
    exact eq_of_beq this
  · rw [if_neg hlt] at h
    omega
theorem textAt_neg {ss : List ByteArray} {s : ByteArray} : textAt ss s < 0 ↔ (ss.any fun t => t.toList == s.toList) = false := by
  unfold textAt
  by_cases hlt : ss.findIdx (fun t => t.toList == s.toList) < ss.length
  · rw [if_pos hlt]
    have h1 := List.findIdx_lt_length.1 hlt
    constructor
    · intro h; omega
    · intro h
      rw [List.any_eq_false] at h
      obtain ⟨x, hx, hp⟩ := h1
      exact absurd hp (h x hx)
  · rw [if_neg hlt]
    refine ⟨fun _ => ?_, fun _ => by omega⟩
    rw [List.any_eq_false]
    intro x hx hp
    exact hlt (List.findIdx_lt_length.2 ⟨x, hx, hp⟩)

theorem next_behind {t : Lts} (hv : Valid t) {n : Nat} {l : ByteArray} (hn : n < t.labels.length) (he : t.labels[n].toList = l.toList) (k : Int) : (t.edges.filter (nextB k n)).map Edge.dst = behind t k l := by
  unfold behind
  congr 1
  apply List.filter_congr
  intro e hm
  obtain ⟨i, hi, rfl⟩ := List.mem_iff_getElem.1 hm
  have hok := hv.edge i hi
  obtain ⟨hl1, e1⟩ := labAt_idx hok
  unfold nextB hitB
  rw [e1]
  congr 1
  rw [Bool.eq_iff_iff, beq_iff_eq, beq_iff_eq]
  have h0 := hok.l0
  constructor
  · intro h
    have : t.edges[i].lab.toNat = n := by omega
    rw [show t.labels[t.edges[i].lab.toNat] = t.labels[n] from by congr]
    exact he
  · intro h
    have := labels_inj hv.labels _ _ hl1 hn (h.trans he.symm)
    omega

theorem goTo_pos {t : Lts} (hv : Valid t) {k : Int} {l : ByteArray} (h : goTo t k l ∈ behind t k l) : 0 ≤ goTo t k l := by
  unfold behind at h
  obtain ⟨e, he, h1⟩ := List.mem_map.1 h
  obtain ⟨i, hi, rfl⟩ := List.mem_iff_getElem.1 (List.mem_filter.1 he).1
  rw [← h1]
  exact (hv.edge i hi).d0

/-- What l29Go returns. -/
def RetGo (t : Lts) (k : Int) (l : ByteArray) (w : World) (e : Ending) (w' : World) : Prop :=
  ∃ x : Int, e = .returned (.tuple #[.int .i64 x, .bool (alongB t k l)]) ∧ Below w.heap.size w w' ∧ (alongB t k l = true → x = alongV t k l)

set_option maxRecDepth 100000 in
set_option maxHeartbeats 1000000 in
theorem l29Go_any (p lo : Nat) (t : Lts) (k : Int) (l : ByteArray) (w : World) (hv : Valid t) (h0 : 0 ≤ k) (hp : LtsPtr lo w p t) : Calls Tryz.prog 33 #[.pointer (some ⟨p, 0, none⟩), .int .i64 k, .string l] w (RetGo t k l w) := by
  have HP := Lib.hid hp
  obtain ⟨lv, ev, hpl, -, -, q2, -, hl, -⟩ := hp
  have HL := Lib.hid hl
  have HF := Lib.hid (goTo_behind (p := t) h0 l)
  have HV := Lib.hid hv
  have hmost := hv.most
  have hrange := (goTo_range hv k l).1
  obtain ⟨al, cl, rfl, -⟩ := hl
  have HT := Lib.hid (textAt_neg (ss := t.labels) (s := l))
  obtain ⟨n, hn⟩ : ∃ n, n = textAt t.labels l := ⟨_, rfl⟩
  have HFC := Lib.hid (l11Find_any lo _ t.labels l w HL.out)
  rw [← hn] at HFC HT
  by_cases hneg : n < 0
  · have HA : Hid (labIn t l = false) := HT.out.1 hneg
    clear hn hmost hrange hv
    go_enter Tryz.func33, Tryz.ntmps33
    go_wp2_with fail
    refine Calls.mono HFC.out ?_
    rintro e w1 ⟨rfl, hb1⟩
    have HB1 := Lib.hid hb1
    clear hb1 q2
    go_wp2_with fail
    go_ret2
    exact ⟨k, by unfold alongB; rw [HA.out]; rfl, HB1.out, fun _ => by unfold alongV; rw [HA.out]; simp⟩
  · have HA : Hid (labIn t l = true) := by
      have : ¬ labIn t l = false := fun h => hneg (HT.out.2 h)
      unfold Hid
      cases h : labIn t l
      · exact absurd h this
      · rfl
    obtain ⟨m, hm, hml, hme⟩ := textAt_some (ss := t.labels) (s := l) (by rw [← hn]; exact hneg)
    have HB := Lib.hid (next_behind hv hml hme k)
    rw [← hn] at hm
    subst hm
    have HNC := Lib.hid (fun w1 (hb1 : Below w.heap.size w w1) => l11Next_any p lo t k m w1 (by omega) (HP.out.below hb1))
    rw [HB.out] at HNC
    clear hn hml hme hneg hv
    obtain ⟨bs, hbs⟩ : ∃ bs, bs = behind t k l := ⟨_, rfl⟩
    rw [← hbs] at HNC HF
    have HF0 := Lib.hid hbs.symm
    clear hbs
    go_enter Tryz.func33, Tryz.ntmps33
    go_wp2_with fail
    refine Calls.mono HFC.out ?_
    rintro e w1 ⟨rfl, hb1⟩
    have HB1 := Lib.hid hb1
    clear hb1 q2
    go_wp2_with fail
    refine Calls.mono (HNC.out _ HB1.out) ?_
    rintro e w2 ⟨v, rfl, hb2, ho⟩
    have HB2 := Lib.hid (HB1.out.trans (hb2.mono HB1.out.size))
    obtain ⟨av, cv, rfl, hcv, hcm⟩ := owns_slice ho
    clear hb2
    cases bs with
    | nil =>
      have HG : Hid (goTo t k l = -1) := by unfold Hid; rw [HF.out]; rfl
      clear ho hcv
      simp only [List.length_nil]
      go_wp2_with fail
      go_ret2
      refine ⟨0, ?_, HB2.out, fun h => ?_⟩
      · unfold alongB; rw [HA.out, HG.out]; rfl
      · unfold alongB at h; rw [HA.out, HG.out] at h; cases h
    | cons x r =>
      have HG : Hid (goTo t k l = x) := by unfold Hid; rw [HF.out]; rfl
      have hx0 : 0 ≤ x := by
        have h1 := goTo_pos HV.out (k := k) (l := l) (by rw [HG.out, HF0.out]; simp)
        rw [HG.out] at h1
        exact h1
      have hsl : SliceK 1 encI 0 w2 (.slice av (x :: r).length cv) (x :: r) := SliceK.of_owns (e := 2) encI_len rfl (by rw [flat_encI]; exact own_lower ho (Nat.zero_le _))
      obtain ⟨a2, c2, e2, h2, h3, hrow⟩ := hsl
      simp only [Value.slice.injEq, true_and] at e2
      obtain ⟨rfl, rfl⟩ := e2
      obtain ⟨b1, o1, rfl, -, hbs, k1⟩ := hrow.one (i := 0) (by simp)
      simp only [encI, List.getElem?_cons_zero, List.getElem_cons_zero, Nat.add_zero] at k1
      have hlen : (0 : Int) < ((x :: r).length : Int) := by simp
      have hlen2 : (((x :: r).length : Int) == 0) = false := by rw [beq_eq_false_iff_ne]; omega
      obtain ⟨n, hn⟩ : ∃ n, n = (x :: r).length := ⟨_, rfl⟩
      rw [← hn] at hlen hlen2
      simp only [← hn]
      clear ho hrow hcv h2 hn
      go_wp2_with fail
      go_ret2
      refine ⟨x, ?_, HB2.out, fun _ => ?_⟩
      · unfold alongB; rw [HA.out, HG.out, decide_eq_true hx0]; rfl
      · unfold alongV; rw [HA.out, HG.out]; rfl

end Go.Proofs.YtkffdamgekoifaaGreatDoor
