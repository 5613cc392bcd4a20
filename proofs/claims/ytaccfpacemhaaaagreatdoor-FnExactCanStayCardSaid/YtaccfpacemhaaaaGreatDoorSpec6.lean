/-
  What the reference computes for a model and a property: the step by a label, the code of the arguments, the pairs that can stay.
-/
import Derived.Test.YtaccfpacemhaaaaGreatDoorSpec5
namespace Go.Proofs.YtaccfpacemhaaaaGreatDoor
open Go Go.RowKit

theorem find_at {α : Type} {p : α → Bool} {l : List α} {k : Nat} (hk : k < l.length) (h1 : ∀ j (h : j < l.length), j < k → p l[j] = false) (h2 : p l[k] = true) : l.find? p = some l[k] := by
  rw [List.find?_eq_some_iff_getElem]
  exact ⟨h2, k, hk, rfl, fun j hj => by simp [h1 j (by omega) hj]⟩
theorem find_none {α : Type} {p : α → Bool} {l : List α} (h1 : ∀ j (h : j < l.length), p l[j] = false) : l.find? p = none := by
  rw [List.find?_eq_none]
  intro x hx
  obtain ⟨j, hj, rfl⟩ := List.mem_iff_getElem.1 hx
  simp [h1 j hj]
theorem labAt_get {t : Lts} {e : Edge} (h : e.lab.toNat < t.labels.length) : t.labels[e.lab.toNat] = labAt t e := by
  unfold labAt
  simp [List.getD, h]

set_option maxRecDepth 100000 in
set_option maxHeartbeats 4000000 in
theorem l12Go_any (p lo : Nat) (t : Lts) (q : Int) (s : ByteArray) (w : World) (hE : ∀ i (h : i < t.edges.length), EdgeOk t t.edges[i]) (hp : LtsPtr lo w p t) :
    Calls Tryz.prog 46 #[.pointer (some ⟨p, 0, none⟩), .int .i64 q, .string s] w fun e w' => e = .returned (.int .i64 (goTo t q s)) ∧ Below w.heap.size w w' := by
  obtain ⟨lv, ev, hpl, -, -, q2, q3, hl, he⟩ := hp
  obtain ⟨ae, ce, rfl, hen, hec, hrow⟩ := he
  obtain ⟨al, cl, rfl, hln, hlc, hlrow⟩ := hl
  have HQ3 := Lib.hid q3
  have HQ2 := Lib.hid q2
  have HE := Lib.hid hE
  clear hE q2
  by_cases hq : q < 0
  · have hq' : decide (0 ≤ q) = false := by rw [decide_eq_false_iff_not]; omega
    have hg : Hid (goTo t q s = -1) := by unfold Hid goTo; rw [if_pos hq]
    by_cases h0 : 0 < t.edges.length
    · go_enter Tryz.func46, Tryz.ntmps46
      go_wp2
      go_loopw [7] (fun i wr => i = .int .i64 0 ∧ wr = w) (fun _ _ => 0)
      case atStart => exact ⟨rfl, rfl⟩
      case round =>
        obtain ⟨rfl, rfl⟩ := hrel
        go_wp2
        go_ret
        exact ⟨ret_int hg.out.symm, Below.refl _ _⟩
    · go_enter Tryz.func46, Tryz.ntmps46
      go_wp2
      go_loopw [7] (fun i wr => i = .int .i64 0 ∧ wr = w) (fun _ _ => 0)
      case atStart => exact ⟨rfl, rfl⟩
      case round =>
        obtain ⟨rfl, rfl⟩ := hrel
        go_wp2
        go_ret
        exact ⟨ret_int hg.out.symm, Below.refl _ _⟩
  · have hq0 : 0 ≤ q := by omega
    have hg : Hid (goTo t q s = ((t.edges.find? (hitB t q s)).map Edge.dst).getD (-1)) := by unfold Hid goTo; rw [if_neg hq]
    clear hq
    go_enter Tryz.func46, Tryz.ntmps46
    go_wp2
    clear q3
    go_loopw [7] (fun i wr => ∃ k : Nat, k ≤ t.edges.length ∧ i = .int .i64 k ∧ Below w.heap.size w wr ∧ ∀ j (h : j < t.edges.length), j < k → hitB t q s t.edges[j] = false) (fun i _ => t.edges.length - (intOf i).toNat)
    case atStart => exact ⟨0, Nat.zero_le _, rfl, Below.refl _ _, fun _ _ h => by omega⟩
    case round =>
      obtain ⟨k, hk, rfl, hbl, hx⟩ := hrel
      have HX := Lib.hid hx
      have HBL := Lib.hid hbl
      have hsz := hbl.size
      have q3 := keeps hbl hpl HQ3.out
      have q2 := keeps hbl hpl HQ2.out
      clear hx hbl
      by_cases hlt : k < t.edges.length
      · have hek := HE.out k hlt
        have hk0 := hek.l0
        have hk1 := hek.l1
        have hkn : t.edges[k].lab.toNat < t.labels.length := by omega
        obtain ⟨be, oe, rfl, -, hbe, e1, e2, e3⟩ := (hrow.below HBL.out).edge hlt
        obtain ⟨bl, ol, rfl, -, hbl, c1⟩ := (hlrow.below HBL.out).one hkn
        simp only [encS, List.getElem?_cons_zero] at c1
        rw [labAt_get] at c1
        have HH : Hid (hitB t q s t.edges[k] = ((t.edges[k].src == q) && ((labAt t t.edges[k]).toList == s.toList))) := rfl
        have hee : ∃ e, e = t.edges[k] := ⟨_, rfl⟩
        obtain ⟨e, hee⟩ := hee
        rw [← hee] at e1 e2 e3 c1 HH hk0 hk1 hkn
        have HEE := Lib.hid hee
        clear hee hek
        generalize labAt t e = ls at *
        have hlab : ∃ n : Nat, (n : Int) = e.lab := ⟨e.lab.toNat, by omega⟩
        obtain ⟨n, hn⟩ := hlab
        rw [← hn] at e2 c1 hk0 hk1 hkn
        simp only [Int.toNat_natCast] at c1 hkn
        clear hn hrow hlrow hk0 hk1
        have s2 := later_cell (show p < wr.heap.size by omega) q2
        have s3 := later_cell (show p < wr.heap.size by omega) q3
        have f3 := later_cell hbe e3
        replace e1 := later_cell hbe e1
        replace e2 := later_cell hbe e2
        replace c1 := later_cell hbl c1
        cases g1 : (e.src == q)
        · have HF : Hid (hitB t q s t.edges[k] = false) := by unfold Hid; rw [← HEE.out, HH.out, g1]; rfl
          go_wp2
          refine wp_region_later (by kernel_rfl) (by kernel_rfl) ?_
          repeat (go_big_quiet_step ((fail)))
          refine wpQuiet_nil ?_
          intro _ hw9
          obtain ⟨nl, hw8⟩ := hw9
          subst hw8
          clear e1 e2 e3 f3 c1 s2 g1
          have s3 := s3 nl
          go_wp2
          go_roundw
          case rel => exact ⟨k + 1, by omega, by go_num, HBL.out.trans (nl.h.mono hsz), fun j h h' => by
              by_cases e : j = k
              · subst e; exact HF.out
              · exact HX.out j h (by omega)⟩
          case measure => simp [intOf]; omega
        · cases g2 : (ls.toList == s.toList)
          · have HF : Hid (hitB t q s t.edges[k] = false) := by unfold Hid; rw [← HEE.out, HH.out, g1, g2]; rfl
            go_wp2
            refine wp_region_later (by kernel_rfl) (by kernel_rfl) ?_
            repeat (go_big_quiet_step ((fail)))
            refine wpQuiet_nil ?_
            intro _ hw9
            obtain ⟨nl, hw8⟩ := hw9
            subst hw8
            clear e1 e2 e3 f3 c1 s2 g1 g2
            have s3 := s3 nl
            go_wp2
            go_roundw
            case rel => exact ⟨k + 1, by omega, by go_num, HBL.out.trans (nl.h.mono hsz), fun j h h' => by
                by_cases e : j = k
                · subst e; exact HF.out
                · exact HX.out j h (by omega)⟩
            case measure => simp [intOf]; omega
          · have HF : Hid (goTo t q s = e.dst) := by
              unfold Hid
              have : hitB t q s t.edges[k] = true := by rw [← HEE.out, HH.out, g1, g2]; rfl
              rw [hg.out, find_at hlt HX.out this, ← HEE.out]; rfl
            go_wp2
            refine wp_region_later (by kernel_rfl) (by kernel_rfl) ?_
            repeat (go_big_quiet_step ((fail)))
            refine wpQuiet_nil ?_
            intro _ hw9
            obtain ⟨nl, hw8⟩ := hw9
            subst hw8
            clear e1 e2 e3 c1 s2 g1 g2
            have s3 := s3 nl
            have f3 := f3 nl
            go_wp2
            go_ret
            exact ⟨ret_int HF.out.symm, HBL.out.trans (nl.h.mono hsz)⟩
      · clear hrow hlrow
        go_wp2
        go_ret
        refine ⟨ret_int ?_, HBL.out⟩
        rw [hg.out, find_none (fun j h => HX.out j h (by omega))]; rfl

set_option maxRecDepth 100000 in
set_option maxHeartbeats 1000000 in
theorem l30To_any (bt bp be oe lo : Nat) (t p : Lts) (e : Edge) (q : Int) (w : World) (hE : ∀ i (h : i < p.edges.length), EdgeOk p p.edges[i]) (hek : EdgeOk t e) (ht : LtsPtr lo w bt t) (hp : LtsPtr lo w bp p)
    (hbe : be < w.heap.size) (he : EdgeCells w be oe e) :
    Calls Tryz.prog 33 #[.pointer (some ⟨bt, 0, none⟩), .pointer (some ⟨bp, 0, none⟩), .pointer (some ⟨be, oe, none⟩), .int .i64 q] w fun r w' => r = .returned (.int .i64 (toState t p e q)) ∧ Below w.heap.size w w' := by
  obtain ⟨e1, e2, e3⟩ := he
  cases g : (e.lab == 0)
  · have hF : Hid (toState t p e q = goTo p q (labAt t e)) := by unfold Hid toState; rw [if_neg (by simpa using g)]
    obtain ⟨lv, ev, hpl, -, -, q2, -, hl, -⟩ := ht
    obtain ⟨al, cl, rfl, hln, hlc, hlrow⟩ := hl
    have hk0 := hek.l0
    have hk1 := hek.l1
    have hkn : e.lab.toNat < t.labels.length := by omega
    obtain ⟨bl, ol, rfl, -, hbl, c1⟩ := hlrow.one hkn
    simp only [encS, List.getElem?_cons_zero] at c1
    rw [labAt_get] at c1
    generalize labAt t e = ls at *
    have hlab : ∃ n : Nat, (n : Int) = e.lab := ⟨e.lab.toNat, by omega⟩
    obtain ⟨n, hn⟩ := hlab
    rw [← hn] at e2 c1 hk0 hk1 hkn g
    simp only [Int.toNat_natCast] at c1 hkn
    have HP := Lib.hid hp
    have HE := Lib.hid hE
    clear hn hlrow hk0 hk1 hp hE hek
    have s2 := later_cell hpl q2
    have f2 := later_cell hbe e2
    replace c1 := later_cell hbl c1
    clear e1 e3 q2
    go_enter Tryz.func33, Tryz.ntmps33
    go_wp2
    clear e2
    refine wp_region_later (by kernel_rfl) (by kernel_rfl) ?_
    repeat (go_big_quiet_step ((go_at_call 46; exact later_call (l12Go_any _ lo _ _ _ _ HE.out (LtsPtr.below HP.out (Later.h _))))))
    refine wpQuiet_nil ?_
    intro _ hw9
    obtain ⟨nl, hw8⟩ := hw9
    subst hw8
    go_wp2
    go_ret
    exact ⟨ret_int hF.out.symm, nl.h⟩
  · have hF : Hid (toState t p e q = q) := by unfold Hid toState; rw [if_pos (by simpa using g)]
    clear e1 e3 ht hp hE hek
    go_enter Tryz.func33, Tryz.ntmps33
    go_wp2
    go_ret
    exact ⟨ret_int hF.out.symm, Below.refl _ _⟩

def RetCode (c : Int) (w : World) (e : Ending) (w' : World) : Prop := e = .returned (.int .i64 c) ∧ Below w.heap.size w w'

theorem l30Ask_bad (bt bp lo : Nat) (t p : Lts) (w : World) (h1 : Short t.labels) (h2 : Short p.labels) (ht : LtsPtr lo w bt t) (hp : LtsPtr lo w bp p) (hn : ¬ (Valid t ∧ Valid p)) :
    Calls Tryz.prog 15 #[.pointer (some ⟨bt, 0, none⟩), .pointer (some ⟨bp, 0, none⟩)] w (RetCode 1 w) := by
  have HT := Lib.hid ht
  have HP := Lib.hid hp
  have H1 := Lib.hid h1
  have H2 := Lib.hid h2
  clear ht hp h1 h2
  by_cases hv : Valid t
  · have hv2 : ¬ Valid p := fun h => hn ⟨hv, h⟩
    have HV := Lib.hid hv
    have HV2 := Lib.hid hv2
    clear hv hv2 hn
    go_enter Tryz.func15, Tryz.ntmps15
    go_wp2_with fail
    refine (Decides.yes (l11Is_any _ lo t _ H1.out HT.out) HV.out).mono ?_
    rintro e w1 ⟨rfl, hb1⟩
    have HB1 := Lib.hid hb1
    clear hb1
    go_wp2_with fail
    refine (Decides.no (l11Is_any _ lo p _ H2.out (HP.out.below HB1.out)) HV2.out).mono ?_
    rintro e w2 ⟨rfl, hb2⟩
    have HB2 := Lib.hid hb2
    clear hb2
    go_wp2_with fail
    go_ret
    exact ⟨rfl, HB1.out.trans (HB2.out.mono HB1.out.size)⟩
  · have HV := Lib.hid hv
    clear hv hn
    go_enter Tryz.func15, Tryz.ntmps15
    go_wp2_with fail
    refine (Decides.no (l11Is_any _ lo t _ H1.out HT.out) HV.out).mono ?_
    rintro e w1 ⟨rfl, hb1⟩
    have HB1 := Lib.hid hb1
    clear hb1
    go_wp2_with fail
    go_ret
    exact ⟨rfl, HB1.out⟩

theorem l30Ask_good (bt bp lo : Nat) (t p : Lts) (w : World) (h1 : Short t.labels) (h2 : Short p.labels) (ht : LtsPtr lo w bt t) (hp : LtsPtr lo w bp p) (hv : Valid t) (hv2 : Valid p) (hs : Single p) :
    Calls Tryz.prog 15 #[.pointer (some ⟨bt, 0, none⟩), .pointer (some ⟨bp, 0, none⟩)] w (RetCode 0 w) := by
  have HT := Lib.hid ht
  have HP := Lib.hid hp
  have H1 := Lib.hid h1
  have H2 := Lib.hid h2
  have HV := Lib.hid hv
  have HV2 := Lib.hid hv2
  have HS := Lib.hid hs
  clear ht hp h1 h2 hv hv2 hs
  go_enter Tryz.func15, Tryz.ntmps15
  go_wp2_with fail
  refine (Decides.yes (l11Is_any _ lo t _ H1.out HT.out) HV.out).mono ?_
  rintro e w1 ⟨rfl, hb1⟩
  have HB1 := Lib.hid hb1
  clear hb1
  go_wp2_with fail
  refine (Decides.yes (l11Is_any _ lo p _ H2.out (HP.out.below HB1.out)) HV2.out).mono ?_
  rintro e w2 ⟨rfl, hb2⟩
  have HB2 := Lib.hid (HB1.out.trans (hb2.mono HB1.out.size))
  clear hb2
  go_wp2_with fail
  refine (Decides.yes (l11Single_any _ lo p _ (HP.out.below HB2.out)) HS.out).mono ?_
  rintro e w3 ⟨rfl, hb3⟩
  have HB3 := Lib.hid hb3
  clear hb3
  go_wp2_with fail
  go_ret
  exact ⟨rfl, HB2.out.trans (HB3.out.mono HB2.out.size)⟩

theorem l30Ask_state (bt bp lo : Nat) (t p : Lts) (w : World) (h1 : Short t.labels) (h2 : Short p.labels) (ht : LtsPtr lo w bt t) (hp : LtsPtr lo w bp p) (hv : Valid t) (hv2 : Valid p) (hs : ¬ Single p) :
    Calls Tryz.prog 15 #[.pointer (some ⟨bt, 0, none⟩), .pointer (some ⟨bp, 0, none⟩)] w (RetCode 6 w) := by
  have HT := Lib.hid ht
  have HP := Lib.hid hp
  have H1 := Lib.hid h1
  have H2 := Lib.hid h2
  have HV := Lib.hid hv
  have HV2 := Lib.hid hv2
  have HS := Lib.hid hs
  clear ht hp h1 h2 hv hv2 hs
  go_enter Tryz.func15, Tryz.ntmps15
  go_wp2_with fail
  refine (Decides.yes (l11Is_any _ lo t _ H1.out HT.out) HV.out).mono ?_
  rintro e w1 ⟨rfl, hb1⟩
  have HB1 := Lib.hid hb1
  clear hb1
  go_wp2_with fail
  refine (Decides.yes (l11Is_any _ lo p _ H2.out (HP.out.below HB1.out)) HV2.out).mono ?_
  rintro e w2 ⟨rfl, hb2⟩
  have HB2 := Lib.hid (HB1.out.trans (hb2.mono HB1.out.size))
  clear hb2
  go_wp2_with fail
  refine (Decides.no (l11Single_any _ lo p _ (HP.out.below HB2.out)) HS.out).mono ?_
  rintro e w3 ⟨rfl, hb3⟩
  have HB3 := Lib.hid hb3
  clear hb3
  go_wp2_with fail
  go_ret
  exact ⟨rfl, HB2.out.trans (HB3.out.mono HB2.out.size)⟩

end Go.Proofs.YtaccfpacemhaaaaGreatDoor
