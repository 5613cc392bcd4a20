/-
  The reference's l28Auto and SuspensionAutomaton.
  How the words to the states lie in the reference's memory.
  What the reference's step by a label computes.
  The reference's l18Ways: for each state of the deterministic system the first trace that leads to it.
  The traces that cover the edges of a suspension automaton, less those that others contain; what CoveringTests returns. Plain.
  The library's slices.Equal at texts, the program's begins.
  Slices of slices of texts: one row, one row more.
-/
import Derived.Test.YtkbgncenjfebdaaGreatDoorV20
import Derived.Test.YtkbgncenjfebdaaGreatDoorV18
import Derived.Test.YtkbgncenjfebdaaGreatDoorV14
import Derived.Test.YtkbgncenjfebdaaGreatDoorV10
import Derived.Test.YtkbgncenjfebdaaGreatDoorV3
import Derived.Test.YtkbgncenjfebdaaGreatDoorV9
import Derived.Test.YtkbgncenjfebdaaGreatDoorV6
import Derived.Test.YtkbgncenjfebdaaGreatDoorV12
import Derived.Test.YtkbgncenjfebdaaGreatDoorProg
import Derived.Test.YtkbgncenjfebdaaGreatDoorV1
namespace Go.Proofs.YtkbgncenjfebdaaGreatDoor
open Go Go.RowKit

def RetAu (t : Lts) (ins : List ByteArray) (w : World) (e : Ending) (w' : World) : Prop :=
 Below w.heap.size w w' ∧ (((¬ Valid (susT t ins) ∨ (Valid (susT t ins) ∧ DFull (susT t ins))) ∧ e = .returned (.tuple #[.agg #[.int .i64 0, .int .i64 0, .slice none 0 0, .slice none 0 0], .slice none 0 0, .bool false]))
  ∨ (Valid (susT t ins) ∧ ∃ (st : DNet) (lv vr ve : Value), DOk (susT t ins) st ∧ e = .returned (.tuple #[.agg #[.int .i64 st.rows.length, .int .i64 0, lv, ve], vr, .bool true]) ∧ DMem w.heap.size st vr ve w' ∧ w'.ownsRow w.heap.size 9 1 lv (susT t ins).labels.length ((susT t ins).labels.map .string)))
theorem au_results {w : World} {b : Nat} {v0 v1 v2 v3 : Value} {tmps : Array Value} (hc : tmps.getD 4 undef = .pointer (some ⟨b, 0, none⟩)) (hb : Blk w b [v0, v1, v2, v3] 30) :
  (results Tryz.f46 tmps).run Tryz.prog w = .ok (.tuple #[.agg #[v0, v1, v2, v3], tmps.getD 5 undef, tmps.getD 6 undef]) w := by
 have h0 := hb.cell 0 rfl
 have h1 := hb.cell 1 rfl
 have h2 := hb.cell 2 rfl
 have h3 := hb.cell 3 rfl
 simp only [Array.getD_eq_getD_getElem?] at hc
 simp [results, Tryz.results46, go_sem, hc, h0, h1, h2, h3, Result.andThen]
set_option maxRecDepth 100000 in
set_option maxHeartbeats 4000000 in
theorem l28Auto_any (p lo : Nat) (t : Lts) (v : Value) (ins : List ByteArray) (w : World) (h : IfOk t ins) (hsh : Short t.labels) (hp : LtsPtr lo w p t) (hi : SliceK 1 encS lo w v ins) : Calls Tryz.prog 46 #[.pointer (some ⟨p, 0, none⟩), v] w (RetAu t ins w) := by
 obtain ⟨tb, htb⟩ : ∃ tb, tb = w.heap.size := ⟨_, rfl⟩
 obtain ⟨wA, hwA⟩ : ∃ wA, wA = w.alloc (.cells #[.int .i64 0, .int .i64 0, .slice none 0 0, .slice none 0 0] 30) := ⟨_, rfl⟩
 have hbA : Below w.heap.size w wA := by rw [hwA]; exact (Below.refl _ _).alloc (Nat.le_refl _) _
 have hR : Blk wA tb [.int .i64 0, .int .i64 0, .slice none 0 0, .slice none 0 0] 30 := by rw [hwA, htb]; exact Blk.new w _ _
 have HSP := Lib.hid (l28Suspend_any p lo t v ins wA h hsh (hp.below hbA) (hi.below hbA))
 have HBA := Lib.hid hbA
 have HR := Lib.hid hR
 have HWA := Lib.hid hwA
 have HTB := Lib.hid htb
 have hsW : w.heap.size ≤ wA.heap.size := hbA.size
 have hle : w.heap.size ≤ tb := by rw [htb]; omega
 clear h hsh hp hi hbA hR hwA htb
 go_enter Tryz.func46, Tryz.ntmps46
 go_wp2_with fail
 rw [← HWA.out]
 refine Calls.mono HSP.out ?_
 rintro e w1 ⟨hb1, b, lv1, ev1, rfl, hbv, hol⟩
 obtain ⟨la, lc, rfl, -, -⟩ := owns_slice hol.1
 obtain ⟨ea, ec, rfl, -, -⟩ := owns_slice hol.2
 have hol2 := hol
 obtain ⟨LN, hLN⟩ : ∃ LN, LN = (susT t ins).labels.length := ⟨_, rfl⟩
 obtain ⟨EN, hEN⟩ : ∃ EN, EN = (susT t ins).edges.length := ⟨_, rfl⟩
 rw [← hLN, ← hEN] at hol2
 rw [← hLN, ← hEN]
 obtain ⟨W3, hW3⟩ : ∃ W3, W3 = w1.alloc (.cells #[.int .i64 t.states, .int .i64 t.initial, .slice la LN lc, .slice ea EN ec] 30) := ⟨_, rfl⟩
 obtain ⟨b3, hb3e⟩ : ∃ b3, b3 = w1.heap.size := ⟨_, rfl⟩
 have hb4 : Below w1.heap.size w1 W3 := by rw [hW3]; exact (Below.refl _ _).alloc (Nat.le_refl _) _
 have hX : Blk W3 b3 [.int .i64 t.states, .int .i64 t.initial, .slice la LN lc, .slice ea EN ec] 30 := by rw [hW3, hb3e]; exact Blk.new _ _ _
 have hLP : LtsPtr wA.heap.size W3 b3 (susT t ins) := ⟨_, _, hX.lt, hX.cell 0 rfl, hX.cell 1 rfl, hX.cell 2 rfl, hX.cell 3 rfl, by rw [hLN]; exact (SliceK.of_owns (enc := encS) (e := 9) encS_len rfl (by rw [flat_encS]; exact hol.1)).below hb4, by rw [hEN]; exact (SliceK.of_owns (enc := encE) (e := 93) encE_len rfl hol.2).below hb4⟩
 have HB4 := Lib.hid (hb1.trans (hb4.mono hb1.size))
 have HR4 := Lib.hid (HR.out.below HB4.out)
 have HW3 := Lib.hid hW3
 have HB3 := Lib.hid hb3e
 have HBV := Lib.hid hbv
 have HLP := Lib.hid hLP
 have r0 := HR4.out.cell 0 rfl
 have r1 := HR4.out.cell 1 rfl
 have r2 := HR4.out.cell 2 rfl
 have r3 := HR4.out.cell 3 rfl
 have s0 := HR4.out.frozen 0
 have s1 := HR4.out.frozen 1
 have s2 := HR4.out.frozen 2
 have s3 := HR4.out.frozen 3
 rw [hW3] at r0 r1 r2 r3 s0 s1 s2 s3
 cases b
 ·have HNV : Hid (¬ Valid (susT t ins)) := fun hv => by have := HBV.out.2 hv; cases this
  clear hb1 hbv hol hol2 hLN hEN hW3 hb3e hb4 hX hLP HSP
  rw [← HTB.out]
  go_wp2
  rw [← HW3.out]
  refine bodyPost_ret (au_results rfl ((((HR4.out.set 0 _).set 1 _).set 2 _).set 3 _)) rfl ?_
  exact ⟨((((HBA.out.trans (HB4.out.mono hsW)).setCell hle _).setCell hle _).setCell hle _).setCell hle _, .inl ⟨.inl HNV.out, rfl⟩⟩
 ·have HV : Hid (Valid (susT t ins)) := HBV.out.1 rfl
  have HL := Lib.hid (l12Sets_any b3 wA.heap.size (susT t ins) W3 HV.out HLP.out)
  clear hb1 hbv hol hol2 hLN hEN hW3 hb3e hb4 hX hLP HSP
  rw [← HTB.out]
  go_wp2_with fail
  rw [← HW3.out, ← HB3.out]
  refine Calls.mono HL.out ?_
  clear r0 r1 r2 r3 s0 s1 s2 s3
  rintro e w5 ⟨hb5, ⟨hfull, rfl⟩ | ⟨st, lvS, vr, evS, hok, rfl, hmem, hol⟩⟩
  ·have HF := Lib.hid hfull
   have HB5 := Lib.hid (HB4.out.trans (hb5.mono HB4.out.size))
   have HR5 := Lib.hid (HR.out.below HB5.out)
   have r0 := HR5.out.cell 0 rfl
   have r1 := HR5.out.cell 1 rfl
   have r2 := HR5.out.cell 2 rfl
   have r3 := HR5.out.cell 3 rfl
   have s0 := HR5.out.frozen 0
   have s1 := HR5.out.frozen 1
   have s2 := HR5.out.frozen 2
   have s3 := HR5.out.frozen 3
   clear hfull hb5 HL
   go_wp2
   refine bodyPost_ret (au_results rfl ((((HR5.out.set 0 _).set 1 _).set 2 _).set 3 _)) rfl ?_
   exact ⟨((((HBA.out.trans (HB5.out.mono hsW)).setCell hle _).setCell hle _).setCell hle _).setCell hle _, .inl ⟨.inr ⟨HV.out, HF.out⟩, rfl⟩⟩
  ·obtain ⟨la5, lc5, rfl, -, -⟩ := owns_slice hol
   obtain ⟨ea5, ec5, rfl, -, -⟩ := owns_slice hmem.2
   obtain ⟨⟨vs, hiv⟩, hme⟩ := hmem
   obtain ⟨R, hRR⟩ : ∃ R, R = st.rows.length := ⟨_, rfl⟩
   obtain ⟨L5, hL5⟩ : ∃ L5, L5 = (susT t ins).labels.length := ⟨_, rfl⟩
   obtain ⟨E5, hE5⟩ : ∃ E5, E5 = st.edges.length := ⟨_, rfl⟩
   have hss : w.heap.size ≤ W3.heap.size := Nat.le_trans hsW HB4.out.size
   have HME := Lib.hid (own_lower hme hss)
   have HML := Lib.hid (own_lower hol hss)
   have HIV := Lib.hid (hiv.lower hss)
   rw [← hL5] at HML
   rw [← hE5] at HME
   rw [← hRR, ← hL5, ← hE5]
   have HOK := Lib.hid hok
   have HRR := Lib.hid hRR
   have HL5 := Lib.hid hL5
   have HE5 := Lib.hid hE5
   have HB5 := Lib.hid (HB4.out.trans (hb5.mono HB4.out.size))
   have HR5 := Lib.hid (HR.out.below HB5.out)
   have r0 := HR5.out.cell 0 rfl
   have r1 := HR5.out.cell 1 rfl
   have r2 := HR5.out.cell 2 rfl
   have r3 := HR5.out.cell 3 rfl
   have s0 := HR5.out.frozen 0
   have s1 := HR5.out.frozen 1
   have s2 := HR5.out.frozen 2
   have s3 := HR5.out.frozen 3
   clear hok hb5 hme hiv hol hRR hL5 hE5 HL
   go_wp2
   refine bodyPost_ret (au_results rfl ((((HR5.out.set 0 _).set 1 _).set 2 _).set 3 _)) rfl ?_
   refine ⟨((((HBA.out.trans (HB5.out.mono hsW)).setCell hle _).setCell hle _).setCell hle _).setCell hle _, .inr ⟨HV.out, st, .slice la5 L5 lc5, vr, .slice ea5 E5 ec5, HOK.out, by rw [HRR.out]; rfl, ⟨⟨vs, ?_⟩, ?_⟩, ?_⟩⟩
   ·exact (((HIV.out.set1 HR5.out (by decide) (by decide) 0 _).set1 (HR5.out.set 0 _) (by decide) (by decide) 1 _).set1 ((HR5.out.set 0 _).set 1 _) (by decide) (by decide) 2 _).set1 (((HR5.out.set 0 _).set 1 _).set 2 _) (by decide) (by decide) 3 _
   ·rw [← HE5.out]; exact own4 HR5.out HME.out (by decide)
   ·rw [← HL5.out]; exact own4 HR5.out HML.out (by decide)

end Go.Proofs.YtkbgncenjfebdaaGreatDoor

namespace Go.Proofs.YtkbgncenjfebdaaGreatDoor
open Go Go.RowKit

/-- One row is another one, which lies behind all that was there. -/
theorem Pile.swap {ei lo B : Nat} {w0 w : World} {rv : Value} {vs : List Value} {css : List (List Value)} {ys : List Value} (h : Pile ei lo w0 vs css) (hB : w0.heap.size ≤ B) (hb : Below w0.heap.size w0 w) (hr : w.ownsRow B ei 1 rv ys.length ys) (hlo : lo ≤ B) (j : Nat) :
  Pile ei lo w (vs.set j rv) (css.set j ys) := by
 have hk := h.below hb
 have hl := h.len
 have hold : ∀ (i : Nat) (h : i < vs.length) b, vs[i].ownBlock = some b → b < w0.heap.size := fun i hi b e => ((h.row i hi (by omega)).lt b e).2
 have hnb : ∀ b, rv.ownBlock = some b → B ≤ b := fun b e => (hr.lt b e).1
 refine ⟨by simp [hl], fun i hi hi' => ?_, fun i k hi hk2 hik => ?_⟩
 ·rw [List.length_set] at hi hi'
  by_cases e : j = i
  ·subst e
   simp only [List.getElem_set_self]
   exact own_lower hr hlo
  ·simp only [List.getElem_set_ne e]
   exact hk.row i hi hi'
 ·rw [List.length_set] at hi hk2
  by_cases e1 : j = i
  ·subst e1
   rw [List.getElem_set_self, List.getElem_set_ne hik]
   cases hb1 : rv.ownBlock with
   | none => exact .inl rfl
   | some b => exact .inr fun e => by have := hold k hk2 b e.symm; have := hnb b hb1; omega
  ·rw [List.getElem_set_ne e1]
   by_cases e2 : j = k
   ·subst e2
    rw [List.getElem_set_self]
    cases hb1 : vs[i].ownBlock with
    | none => exact .inl rfl
    | some b => exact .inr fun e => by have := hold i hi b hb1; have := hnb b e.symm; omega
   ·rw [List.getElem_set_ne e2]
    exact h.far i k hi hk2 hik
theorem ownStrss_setRow {lo B g n c : Nat} {w0 w : World} {vs : List Value} {xss : List (List ByteArray)} {rv : Value} {ys : List ByteArray} (h : OwnStrss lo w0 (.slice (some ⟨g, 0, none⟩) n c) vs xss) (hn : n = vs.length) (hB : w0.heap.size ≤ B) (hb : Below w0.heap.size w0 w)
  (hr : w.ownsRow B 9 1 rv ys.length (txts ys)) (hlo : lo ≤ B) {j : Nat} (_hj : j < n) : OwnStrss lo (w.setCell ⟨g, j, none⟩ rv) (.slice (some ⟨g, 0, none⟩) n c) (vs.set j rv) (xss.set j ys) := by
 have ho := owns_below h.out hb
 rw [← hn] at ho
 have hp := h.rows.swap hB hb (by rw [txts_len]; exact hr) hlo j
 refine ⟨?_, ?_⟩
 ·rw [List.length_set, ← hn]
  exact (ho.stored j rv).1
 ·rw [List.map_set]
  exact hp.other (by decide) ho (grown_setCell w ⟨g, j, none⟩ rv)

/-- The traces of the words met; none for the other states. -/
def outW (L : List ByteArray) (n : Nat) (N : List (List Nat)) : List (List ByteArray) := N.map (txtsOf L) ++ List.replicate (n - N.length) []
theorem outW_len {L : List ByteArray} {n : Nat} {N : List (List Nat)} (h : N.length ≤ n) : (outW L n N).length = n := by unfold outW; simp; omega
theorem outW_get {L : List ByteArray} {n : Nat} {N : List (List Nat)} {j : Nat} {u : List Nat} (h : N[j]? = some u) : (outW L n N)[j]? = some (txtsOf L u) := by
 have hj := (List.getElem?_eq_some_iff.1 h).1
 unfold outW
 rw [List.getElem?_append_left (by simpa using hj), List.getElem?_map, h]
 rfl
theorem outW_set {L : List ByteArray} {n : Nat} {N : List (List Nat)} (h : N.length < n) (u : List Nat) : (outW L n N).set N.length (txtsOf L u) = outW L n (N ++ [u]) := by
 unfold outW
 rw [List.set_append_right _ _ (by simp), List.length_map, Nat.sub_self, show n - N.length = (n - (N ++ [u]).length) + 1 from by simp; omega, List.replicate_succ, List.set_cons_zero, List.map_append, List.append_assoc]
 rfl
theorem outW_all {L : List ByteArray} {n : Nat} {N : List (List Nat)} (h : N.length = n) : outW L n N = N.map (txtsOf L) := by unfold outW; rw [h, Nat.sub_self]; simp
theorem outW_start (L : List ByteArray) {n : Nat} (h : 1 ≤ n) : outW L n [[]] = List.replicate n [] := by
 unfold outW
 obtain ⟨m, rfl⟩ : ∃ m, n = m + 1 := ⟨n - 1, by omega⟩
 simp [txtsOf, List.replicate_succ]
theorem ownStrss_nils {lo g n : Nat} {w : World} (h : w.ownsRow lo 22 1 (.slice (some ⟨g, 0, none⟩) n n) n (List.replicate n (.slice none 0 0))) : OwnStrss lo w (.slice (some ⟨g, 0, none⟩) n n) (List.replicate n (.slice none 0 0)) (List.replicate n []) := by
 refine ⟨by rw [List.length_replicate]; exact h, by simp, fun i hi hi' => ?_, fun i j hi hj _ => .inl (by rw [List.getElem_replicate]; rfl)⟩
 simp only [List.getElem_replicate, List.map_replicate, txts, List.map_nil, List.length_nil]
 exact World.ownsRow_nil _ _ _ _

def MadeWays (t : Lts) (st : DNet) (w : World) (e : Ending) (w' : World) : Prop :=
 ∃ (v : Value) (vs : List Value) (N : List (List Nat)), e = .returned v ∧ Below w.heap.size w w' ∧ WaysAll t st N ∧ OwnStrss w.heap.size w' v vs (N.map (txtsOf t.labels))

end Go.Proofs.YtkbgncenjfebdaaGreatDoor

namespace Go.Proofs.YtkbgncenjfebdaaGreatDoor
open Go Go.RowKit

set_option maxRecDepth 100000 in
set_option maxHeartbeats 4000000 in
theorem l12Go_any (p lo : Nat) (t : Lts) (q : Int) (s : ByteArray) (w : World) (hE : ∀ i (h : i < t.edges.length), EdgeOk t t.edges[i]) (hp : LtsPtr lo w p t) :
  Calls Tryz.prog 93 #[.pointer (some ⟨p, 0, none⟩), .int .i64 q, .string s] w fun e w' => e = .returned (.int .i64 (goTo t q s)) ∧ Below w.heap.size w w' := by
 obtain ⟨lv, ev, hpl, -, -, q2, q3, hl, he⟩ := hp
 obtain ⟨ae, ce, rfl, hen, hec, hrow⟩ := he
 obtain ⟨al, cl, rfl, hln, hlc, hlrow⟩ := hl
 have HQ3 := Lib.hid q3
 have HQ2 := Lib.hid q2
 have HE := Lib.hid hE
 clear hE q2
 by_cases hq : q < 0
 ·have hq' : decide (0 ≤ q) = false := by rw [decide_eq_false_iff_not]; omega
  have hg : Hid (goTo t q s = -1) := by unfold Hid goTo; rw [if_pos hq]
  by_cases h0 : 0 < t.edges.length
  ·go_enter Tryz.func93, Tryz.ntmps93
   go_wp2
   go_loopw [7] (fun i wr => i = .int .i64 0 ∧ wr = w) (fun _ _ => 0)
   case atStart => exact ⟨rfl, rfl⟩
   case round =>
    obtain ⟨rfl, rfl⟩ := hrel
    go_wp2
    go_ret
    exact ⟨ret_int hg.out.symm, Below.refl _ _⟩
  ·go_enter Tryz.func93, Tryz.ntmps93
   go_wp2
   go_loopw [7] (fun i wr => i = .int .i64 0 ∧ wr = w) (fun _ _ => 0)
   case atStart => exact ⟨rfl, rfl⟩
   case round =>
    obtain ⟨rfl, rfl⟩ := hrel
    go_wp2
    go_ret
    exact ⟨ret_int hg.out.symm, Below.refl _ _⟩
 ·have hq0 : 0 ≤ q := by omega
  have hg : Hid (goTo t q s = ((t.edges.find? (hitB t q s)).map Edge.dst).getD (-1)) := by unfold Hid goTo; rw [if_neg hq]
  clear hq
  go_enter Tryz.func93, Tryz.ntmps93
  go_wp2
  clear q3
  go_loopw [7] (fun i wr => ∃ k : Nat, k ≤ t.edges.length ∧ i = .int .i64 k ∧ Below w.heap.size w wr ∧ ∀ j (h : j < t.edges.length), j < k → hitB t q s t.edges[j] = false) (fun i _ => t.edges.length - (intOf i).toNat)
  case atStart => exact ⟨0, Nat.zero_le _, rfl, Below.refl _ _, fun _ _ h => by omega⟩
  case round =>
   obtain ⟨k, hk, rfl, hbl, hx⟩ := hrel
   have HX := Lib.hid hx
   have HBL := Lib.hid hbl
   have hsz := hbl.size
   have q3 := keeps hbl hpl HQ3.out
   have q2 := keeps hbl hpl HQ2.out
   clear hx hbl
   by_cases hlt : k < t.edges.length
   ·have hek := HE.out k hlt
    have hk0 := hek.l0
    have hk1 := hek.l1
    have hkn : t.edges[k].lab.toNat < t.labels.length := by omega
    obtain ⟨be, oe, rfl, -, hbe, e1, e2, e3⟩ := (hrow.below HBL.out).edge hlt
    obtain ⟨bl, ol, rfl, -, hbl, c1⟩ := (hlrow.below HBL.out).one hkn
    simp only [encS, List.getElem?_cons_zero] at c1
    rw [labAt_get] at c1
    have HH : Hid (hitB t q s t.edges[k] = ((t.edges[k].src == q) && ((labAt t t.edges[k]).toList == s.toList))) := rfl
    have hee : ∃ e, e = t.edges[k] := ⟨_, rfl⟩
    obtain ⟨e, hee⟩ := hee
    rw [← hee] at e1 e2 e3 c1 HH hk0 hk1 hkn
    have HEE := Lib.hid hee
    clear hee hek
    generalize labAt t e = ls at *
    have hlab : ∃ n : Nat, (n : Int) = e.lab := ⟨e.lab.toNat, by omega⟩
    obtain ⟨n, hn⟩ := hlab
    rw [← hn] at e2 c1 hk0 hk1 hkn
    simp only [Int.toNat_natCast] at c1 hkn
    clear hn hrow hlrow hk0 hk1
    have s2 := later_cell (show p < wr.heap.size by omega) q2
    have s3 := later_cell (show p < wr.heap.size by omega) q3
    have f3 := later_cell hbe e3
    replace e1 := later_cell hbe e1
    replace e2 := later_cell hbe e2
    replace c1 := later_cell hbl c1
    cases g1 : (e.src == q)
    ·have HF : Hid (hitB t q s t.edges[k] = false) := by unfold Hid; rw [← HEE.out, HH.out, g1]; rfl
     go_wp2
     refine wp_region_later (by kernel_rfl) (by kernel_rfl) ?_
     repeat (go_big_quiet_step ((fail)))
     refine wpQuiet_nil ?_
     intro _ hw9
     obtain ⟨nl, hw8⟩ := hw9
     subst hw8
     clear e1 e2 e3 f3 c1 s2 g1
     have s3 := s3 nl
     go_wp2
     go_roundw
     case rel => exact ⟨k + 1, by omega, by go_num, HBL.out.trans (nl.h.mono hsz), fun j h h' => by
       by_cases e : j = k
       ·subst e; exact HF.out
       ·exact HX.out j h (by omega)⟩
     case measure => simp [intOf]; omega
    ·cases g2 : (ls.toList == s.toList)
     ·have HF : Hid (hitB t q s t.edges[k] = false) := by unfold Hid; rw [← HEE.out, HH.out, g1, g2]; rfl
      go_wp2
      refine wp_region_later (by kernel_rfl) (by kernel_rfl) ?_
      repeat (go_big_quiet_step ((fail)))
      refine wpQuiet_nil ?_
      intro _ hw9
      obtain ⟨nl, hw8⟩ := hw9
      subst hw8
      clear e1 e2 e3 f3 c1 s2 g1 g2
      have s3 := s3 nl
      go_wp2
      go_roundw
      case rel => exact ⟨k + 1, by omega, by go_num, HBL.out.trans (nl.h.mono hsz), fun j h h' => by
        by_cases e : j = k
        ·subst e; exact HF.out
        ·exact HX.out j h (by omega)⟩
      case measure => simp [intOf]; omega
     ·have HF : Hid (goTo t q s = e.dst) := by
       unfold Hid
       have : hitB t q s t.edges[k] = true := by rw [← HEE.out, HH.out, g1, g2]; rfl
       rw [hg.out, find_at hlt HX.out this, ← HEE.out]; rfl
      go_wp2
      refine wp_region_later (by kernel_rfl) (by kernel_rfl) ?_
      repeat (go_big_quiet_step ((fail)))
      refine wpQuiet_nil ?_
      intro _ hw9
      obtain ⟨nl, hw8⟩ := hw9
      subst hw8
      clear e1 e2 e3 c1 s2 g1 g2
      have s3 := s3 nl
      have f3 := f3 nl
      go_wp2
      go_ret
      exact ⟨ret_int HF.out.symm, HBL.out.trans (nl.h.mono hsz)⟩
   ·clear hrow hlrow
    go_wp2
    go_ret
    refine ⟨ret_int ?_, HBL.out⟩
    rw [hg.out, find_none (fun j h => HX.out j h (by omega))]; rfl

end Go.Proofs.YtkbgncenjfebdaaGreatDoor

namespace Go.Proofs.YtkbgncenjfebdaaGreatDoor
open Go Go.RowKit

theorem info_strW : (Tryz.prog.info? 9).map (fun i => (i.zero, i.size, i.bytes)) = some (some (.string ⟨#[]⟩), 1, 16) := by kernel_rfl
theorem info_strsW : (Tryz.prog.info? 22).map (fun i => (i.zero, i.size, i.bytes)) = some (some (.slice none 0 0), 1, 24) := by kernel_rfl
theorem info_intW : (Tryz.prog.info? 2).map (fun i => (i.zero, i.size, i.bytes)) = some (some (.int .i64 0), 1, 8) := by kernel_rfl

/-- The memory of the search: the order of the states, the traces. -/
structure OwnW (B : Nat) (w : World) (vo : Value) (G n : Nat) (vs : List Value) (L : List ByteArray) (N : List (List Nat)) : Prop where
 order : w.ownsRow B 2 1 vo N.length ((upI N.length).map (Value.int .i64))
 out : OwnStrss B w (.slice (some ⟨G, 0, none⟩) n n) vs (outW L n N)
 num : vs.length = n
theorem OwnW.below {B G n : Nat} {w w' : World} {vo : Value} {vs : List Value} {L : List ByteArray} {N : List (List Nat)} (h : OwnW B w vo G n vs L N) (hb : Below w.heap.size w w') : OwnW B w' vo G n vs L N := ⟨owns_below h.order hb, h.out.below hb, h.num⟩

set_option maxRecDepth 100000 in
set_option maxHeartbeats 8000000 in
theorem l18Ways_any (p lo : Nat) (t : Lts) (st : DNet) (w : World) (hv : Valid t) (hok : DOk t st) (hp : LtsPtr lo w p (dSys t st)) : Calls Tryz.prog 68 #[.pointer (some ⟨p, 0, none⟩)] w (MadeWays t st w) := by
 have HV := Lib.hid hv
 have HOK := Lib.hid hok
 have HP := Lib.hid hp
 have HDV := Lib.hid (dSys_valid hv hok)
 obtain ⟨n, hn⟩ : ∃ n, n = st.rows.length := ⟨_, rfl⟩
 obtain ⟨LL, hLL⟩ : ∃ LL, LL = t.labels.length := ⟨_, rfl⟩
 have hn1 : 1 ≤ n := by rw [hn]; exact (dok_good hv hok).some
 have hn40 : n ≤ 40 := by rw [hn]; exact hok.2.1
 have hLL1 : 1 ≤ LL := by rw [hLL]; exact hv.labels.pos
 have hLL12 : LL ≤ 12 := by rw [hLL]; exact hv.labels.most
 obtain ⟨lv, ev, hpl, q0, -, q2, -, hl, -⟩ := hp
 rw [show (dSys t st).states = (n : Int) from by rw [hn]; rfl] at q0
 rw [show (dSys t st).labels = t.labels from rfl] at hl
 obtain ⟨al, cl, rfl, hlc, hcc, hrow⟩ := hl
 rw [← hLL] at q2 hlc
 obtain ⟨bl, ol, rfl, hblw, hcl⟩ : ∃ bl ol, al = some ⟨bl, ol, none⟩ ∧ bl < w.heap.size ∧ ∀ i (h : i < t.labels.length), w.cell? ⟨bl, ol + i, none⟩ = some (.string t.labels[i]) := by
  rcases hrow with h | ⟨bl, ol, h1, -, h3, h4⟩
  ·omega
  ·exact ⟨bl, ol, h1, h3, fun i hi => by have := h4 i hi 0 (by omega); simpa [encS] using this⟩
 have HCL := Lib.hid hcl
 have HQ0 := Lib.hid q0
 have HQ2 := Lib.hid q2
 have HNN := Lib.hid hn
 have HLL := Lib.hid hLL
 have HW0 := Lib.hid (WaySt.start hv hok)
 obtain ⟨i1, hi1, hz10, hz11, hz12⟩ := info_parts info_intW
 obtain ⟨i2, hi2, hz20, hz21, hz22⟩ := info_parts info_strsW
 obtain ⟨i3, hi3, hz30, hz31, hz32⟩ := info_parts info_strW
 clear hv hok hrow hcl hn hLL q2
 go_enter Tryz.func68, Tryz.ntmps68
 go_wp2_with (at_make; refine wpList_make_full _ rfl _ _ 42 rfl w.heap.size 22 i2 _ 1 Tryz.underlying42 hi2 hz20 hz21 .i64 .i64 _ _ n rfl rfl rfl rfl ?_ ?_ ?_ ?_)
 ·rw [hz22]; omega
 ·simp [maxLen]; omega
 ·exact Nat.le_refl _
 intro w1 ho hg
 rw [toList_madeCells_one] at ho
 obtain ⟨G, hG⟩ : ∃ G, G = w.heap.size := ⟨_, rfl⟩
 have hb1 : Below w.heap.size w w1 := (Below.refl _ w).grown hg (Nat.le_refl _) (fun _ h => by cases h)
 rw [← hG] at ho ⊢
 have hG1 : G ≤ w1.heap.size := by rw [hG]; exact hb1.size
 have HO1 : Hid (OwnW G (w1.alloc (.cells #[.int .i64 0] 2)) (.slice (some ⟨w1.heap.size, 0, none⟩) 1 1) G n (List.replicate n (.slice none 0 0)) t.labels [[]]) := by
  refine ⟨?_, ?_, by simp⟩
  ·have := World.ownsRow_lit (base := G) (e := 2) (size := 1) w1 #[.int .i64 0] 1 hG1 (by decide) rfl
   exact this
  ·rw [outW_start _ hn1]
   exact (ownStrss_nils ho).below ((Below.refl _ _).alloc (Nat.le_refl _) _)
 have HB1 : Hid (Below w.heap.size w (w1.alloc (.cells #[.int .i64 0] 2))) := hb1.alloc (by rw [← hG]; exact hG1) _
 have HG := Lib.hid hG
 clear ho hg hG hb1 q0
 go_wp2
 go_loopw [4, 5] (fun v4 v5 wr => ∃ (i : Nat) (N : List (List Nat)) (vs : List Value), v5 = .int .i64 i ∧ i ≤ N.length ∧ WaySt t st N i 0 ∧ Below w.heap.size w wr ∧ OwnW G wr v4 G n vs t.labels N) (fun _ v5 _ => 100 - (intOf v5).toNat)
 case atStart => exact ⟨0, [[]], _, rfl, by simp, HW0.out, HB1.out, HO1.out⟩
 case round =>
  clear HO1 HB1 HW0 hG1
  obtain ⟨i, N, vs, rfl, hiN, hws, hbl, how⟩ := hrel
  have HWS := Lib.hid hws
  have HBL := Lib.hid hbl
  have HOW := Lib.hid how
  obtain ⟨M, hM⟩ : ∃ M, M = N.length := ⟨_, rfl⟩
  have hMn : M ≤ n := by rw [hM, HNN.out]; exact hws.few
  obtain ⟨oa, oc, rfl, -, -⟩ := owns_slice how.order
  rw [← hM] at hiN ⊢
  have HM := Lib.hid hM
  clear hws how hM
  by_cases hlt : i < M
  ·obtain ⟨u, hu⟩ : ∃ u, N[i]? = some u := ⟨N[i]'(by rw [← HM.out]; exact hlt), List.getElem?_eq_getElem _⟩
   have HU := Lib.hid hu
   clear hbl hu
   go_wp2
   go_loopw [4, 6] (fun v4 v6 wr => ∃ (k : Nat) (N : List (List Nat)) (vs : List Value), v6 = .int .i64 k ∧ 1 ≤ k ∧ k ≤ LL ∧ i < N.length ∧ N[i]? = some u ∧ WaySt t st N i (k - 1) ∧ Below w.heap.size w wr ∧ OwnW G wr v4 G n vs t.labels N) (fun _ v6 _ => LL - (intOf v6).toNat)
   case atStart => exact ⟨1, N, vs, rfl, Nat.le_refl _, hLL1, by rw [← HM.out]; exact hlt, HU.out, HWS.out, HBL.out, by have h := HOW.out; rw [← HM.out] at h; exact h⟩
   case round =>
    clear HWS HBL HOW HM HU
    obtain ⟨k, N, vs, rfl, hk1, hkL, hiN2, hu, hws, hbl, how⟩ := hrel
    obtain ⟨wC, rfl⟩ : ∃ wC : World, wC = wr := ⟨_, rfl⟩
    have HU := Lib.hid hu
    have HWS := Lib.hid hws
    have HBL := Lib.hid hbl
    have HOW := Lib.hid how
    have hszC : w.heap.size ≤ wC.heap.size := hbl.size
    obtain ⟨M2, hM2⟩ : ∃ M2, M2 = N.length := ⟨_, rfl⟩
    have hMn2 : M2 ≤ n := by rw [hM2, HNN.out]; exact hws.few
    have hord := how.order
    rw [← hM2] at hord hiN2
    obtain ⟨oa2, oc2, hv4, -, -⟩ := owns_slice hord
    subst hv4
    obtain ⟨ob, hoa2, hobG, hobw⟩ : ∃ ob, oa2 = some ⟨ob, 0, none⟩ ∧ G ≤ ob ∧ ob < wC.heap.size := by
     rcases hord.2 with ⟨h1, h0⟩ | ⟨g, cap, cur, h1, h2, hg, -⟩
     ·omega
     ·simp only [Value.slice.injEq, true_and] at h1
      exact ⟨g, h1.1, h2, (Array.getElem?_eq_some_iff.1 hg).1⟩
    subst hoa2
    have q2 := keeps hbl hpl HQ2.out
    have HM2 := Lib.hid hM2
    by_cases hltk : k < LL
    ·have hkL2 : k < t.labels.length := by rw [← HLL.out]; exact hltk
     have co := hord.cellAt i (by omega)
     rw [List.getElem?_map, upI_get hiN2, Option.map_some] at co
     have cl := keeps hbl hblw (HCL.out k hkL2)
     obtain ⟨l, hl⟩ : ∃ l, l = t.labels[k] := ⟨_, rfl⟩
     rw [← hl] at cl
     have hlk : labK t.labels (k - 1) = l := by
      unfold labK
      rw [show k - 1 + 1 = k from by omega, List.getD_eq_getElem?_getD, List.getElem?_eq_getElem hkL2, hl]
      rfl
     have HLK := Lib.hid hlk
     obtain ⟨gv, hgv⟩ : ∃ gv, gv = goTo (dSys t st) (i : Int) l := ⟨_, rfl⟩
     have HGO : Hid (∀ w', Below wC.heap.size wC w' → Calls Tryz.prog 93 #[.pointer (some ⟨p, 0, none⟩), .int .i64 i, .string l] w' fun e w'' => e = .returned (.int .i64 gv) ∧ Below w'.heap.size w' w'') := fun w' hb => by rw [hgv]; exact l12Go_any p _ (dSys t st) i l w' HDV.out.edge ((HP.out.below hbl).below hb)
     have HGV : Hid (gv = goTo (dSys t st) (i : Int) (labK t.labels (k - 1))) := by unfold Hid; rw [hlk]; exact hgv
     have hgr : gv < (n : Int) := by
      have h := (goTo_range HDV.out (i : Int) l).2
      rw [← hgv] at h
      have h2 : (dSys t st).states = (n : Int) := by rw [HNN.out]; rfl
      omega
     have lco := later_cell hobw co
     have lcl := later_cell (show bl < wC.heap.size by omega) cl
     have lq2 := later_cell (show p < wC.heap.size by omega) q2
     have HCL2 := Lib.hid cl
     have HCO := Lib.hid co
     have HQ2C := Lib.hid q2
     have hplC : p < wC.heap.size := by omega
     have hblC : bl < wC.heap.size := by omega
     clear hu hws hbl how hM2 hord co cl hl hlk hgv
     by_cases hneg : gv < 0
     ·have HNX : Hid (WaySt t st N i (k - 1 + 1)) := HWS.out.pass HV.out HOK.out HU.out (by omega) (.inl (by rw [← HGV.out]; exact hneg))
      go_wp2
      refine wp_region_later (by kernel_rfl) (by kernel_rfl) ?_
      repeat (go_big_quiet_step ((go_at_call 93; exact later_call (HGO.out _ (Later.h _)))))
      refine wpQuiet_nil ?_
      intro _ hw9
      obtain ⟨nl, hw8⟩ := hw9
      subst hw8
      have HBN := Lib.hid (HBL.out.trans (nl.h.mono hszC))
      have HON := Lib.hid (HOW.out.below nl.h)
      clear lco lcl lq2
      go_wp2
      go_roundw
      case rel => exact ⟨k + 1, N, vs, by go_num, by omega, by omega, by rw [← HM2.out]; exact hiN2, HU.out, by have h := HNX.out; rw [show k - 1 + 1 = k + 1 - 1 from by omega] at h; exact h, HBN.out, HON.out⟩
      case measure => simp [intOf]; omega
     ·have HPL : Hid (∀ w', Below wC.heap.size wC w' → Calls Tryz.prog 111 #[.slice (some ⟨ob, 0, none⟩) M2 oc2, .int .i64 gv] w' fun e w'' => e = .returned (.int .i64 (if gv < (M2 : Int) then gv else -1)) ∧ Below w'.heap.size w' w'') := fun w' hb => by
       have hs : SliceK 1 encI G w' (.slice (some ⟨ob, 0, none⟩) M2 oc2) (upI M2) := SliceK.of_owns (e := 2) encI_len (upI_len M2).symm (by rw [flat_encI]; have h := owns_below HOW.out.order hb; rw [← HM2.out] at h; exact h)
       have h := l11Place_any G _ (upI M2) gv w' hs
       rw [placeI_up (by omega)] at h
       exact h
      by_cases hold : gv < (M2 : Int)
      ·rw [if_pos hold] at HPL
       have HNX : Hid (WaySt t st N i (k - 1 + 1)) := HWS.out.pass HV.out HOK.out HU.out (by omega) (.inr ⟨gv.toNat, by rw [← HM2.out]; omega, by rw [← HGV.out]; omega⟩)
       have hge : decide (0 ≤ gv) = true := decide_eq_true (by omega)
       go_wp2
       refine wp_region_later (by kernel_rfl) (by kernel_rfl) ?_
       repeat (go_big_quiet_step ((go_at_call 93; exact later_call (HGO.out _ (Later.h _)))))
       refine wpQuiet_nil ?_
       intro _ hw9
       obtain ⟨nl, hw8⟩ := hw9
       subst hw8
       have HBN := Lib.hid (HBL.out.trans (nl.h.mono hszC))
       have HON := Lib.hid (HOW.out.below nl.h)
       have HPN := Lib.hid (HPL.out nl.w nl.h)
       clear lco lcl lq2
       go_wp2_with fail
       refine Calls.mono HPN.out ?_
       rintro e w6 ⟨rfl, hb6⟩
       have HB6 := Lib.hid (HBN.out.trans (hb6.mono HBN.out.size))
       have HO6 := Lib.hid (HON.out.below hb6)
       clear hb6 HPN
       go_wp2
       go_roundw
       case rel => exact ⟨k + 1, N, vs, by go_num, by omega, by omega, by rw [← HM2.out]; exact hiN2, HU.out, by have h := HNX.out; rw [show k - 1 + 1 = k + 1 - 1 from by omega] at h; exact h, HB6.out, HO6.out⟩
       case measure => simp [intOf]; omega
      ·rw [if_neg hold] at HPL
       obtain ⟨hgm, hmeet⟩ := HWS.out.meet HV.out HOK.out HU.out (show k - 1 + 1 < t.labels.length by omega) (by rw [← HGV.out]; exact hneg) (fun j hj e => hold (by rw [HGV.out, e, HM2.out]; omega))
       rw [← HGV.out, ← HM2.out] at hgm
       subst hgm
       have HNX := Lib.hid hmeet
       have hM2n : M2 < n := by omega
       clear hmeet hneg hold
       go_wp2
       refine wp_region_later (by kernel_rfl) (by kernel_rfl) ?_
       repeat (go_big_quiet_step ((go_at_call 93; exact later_call (HGO.out _ (Later.h _)))))
       refine wpQuiet_nil ?_
       intro _ hw9
       obtain ⟨nl, hw8⟩ := hw9
       subst hw8
       have HBN := Lib.hid (HBL.out.trans (nl.h.mono hszC))
       have HON := Lib.hid (HOW.out.below nl.h)
       have HPN := Lib.hid (HPL.out nl.w nl.h)
       have HNL := Lib.hid nl.h
       clear lco lcl lq2
       go_wp2_with fail
       refine Calls.mono HPN.out ?_
       rintro e w6 ⟨rfl, hb6⟩
       have HB6 := Lib.hid (HBN.out.trans (hb6.mono HBN.out.size))
       have HO6 := Lib.hid (HON.out.below hb6)
       have HC6 := Lib.hid (HNL.out.trans (hb6.mono HNL.out.size))
       have hs6 := HB6.out.size
       have hs6C := HC6.out.size
       clear hb6 HPN HON HBN HNL
       -- the order grows
       have HRO : Hid (w6.ownsRow G 2 1 (.slice (some ⟨ob, 0, none⟩) M2 oc2) M2 ((upI M2).map (Value.int .i64))) := by have h := HO6.out.order; rw [← HM2.out] at h; exact h
       go_wp2_with (at_builtin; refine wpList_append_own _ rfl _ _ 56 rfl G 2 i1 (.int .i64 0) 1 8 Tryz.underlying56 hi1 hz10 hz11 hz12 rfl (by decide) _ M2 _ rfl (HRO.out.alloc _) ⟨w6.heap.size, 0, none⟩ 1 1 [.int .i64 M2] rfl rfl ?c1 ?c2 ?c3 ?c4 ?c5 ?_)
       case c1 => exact World.news_of_block (cs := #[.int .i64 M2]) (t := 2) (fr := (0, 0)) (heap_alloc_new _ _)
       case c2 => intro u hu; simp at hu; subst hu; rfl
       case c3 => simp [maxLen]; omega
       case c4 => omega
       case c5 => have := HG.out; simp; omega
       intro v7 w7 ho7 hg7 _
       obtain ⟨va7, vc7, rfl, -, -⟩ := owns_slice ho7
       have HB7 : Hid (Below w.heap.size w w7) := (HB6.out.alloc hs6 _).grown hg7 (by simp; omega) (fun b e => by have := (HRO.out.lt b e).1; have := HG.out; omega)
       have hs7 := HB7.out.size
       have HS7 : Hid (OwnStrss G w7 (.slice (some ⟨G, 0, none⟩) n n) vs (outW t.labels n N)) := by
        have h := HO6.out.out.below (w' := w6.alloc (.cells #[.int .i64 M2] 2)) ((Below.refl _ _).alloc (Nat.le_refl _) _)
        exact ⟨h.out.kept hg7 (own_types h.out (HRO.out.alloc _) (by decide)), h.rows.other (by decide) (HRO.out.alloc _) hg7⟩
       have HR7 : Hid (w7.ownsRow G 2 1 (.slice va7 (M2 + 1) vc7) (M2 + 1) ((upI (M2 + 1)).map (Value.int .i64))) := by
        unfold Hid; rw [upI_succ, List.map_append]; exact ho7
       obtain ⟨ob7, hoa7, hobw7⟩ : ∃ ob7, va7 = some ⟨ob7, 0, none⟩ ∧ ob7 < w7.heap.size := by
        rcases HR7.out.2 with ⟨h1, h0⟩ | ⟨g, cap, cur, h1, h2, hg, -⟩
        ·omega
        ·simp only [Value.slice.injEq, true_and] at h1
         exact ⟨g, h1.1, (Array.getElem?_eq_some_iff.1 hg).1⟩
       subst hoa7
       have c7 := HR7.out.cellAt i (by omega)
       rw [List.getElem?_map, upI_get (show i < M2 + 1 by omega), Option.map_some] at c7
       have hvl := HO6.out.num
       have hiv : i < vs.length := by omega
       have hso := HS7.out.out
       rw [hvl] at hso
       have c8 := hso.cellAt i (by omega)
       clear hso
       rw [List.getElem?_eq_getElem hiv] at c8
       have hiw : i < (outW t.labels n N).length := by rw [outW_len (by rw [← HM2.out]; exact hMn2)]; omega
       have hrw := HS7.out.rowAt i hiv hiw
       have hwi : (outW t.labels n N)[i] = txtsOf t.labels u := by
        have h := outW_get (L := t.labels) (n := n) HU.out
        rw [List.getElem?_eq_getElem hiw] at h
        exact Option.some.inj h
       rw [hwi] at hrw
       have hslen : (txtsOf t.labels u).length ≤ 40 := by
        have h := HWS.out.short i u HU.out
        simp only [txtsOf, List.length_map, List.length_reverse]
        omega
       obtain ⟨tr, htr⟩ : ∃ tr, tr = txtsOf t.labels u := ⟨_, rfl⟩
       obtain ⟨rv, hrv⟩ : ∃ rv, rv = vs[i] := ⟨_, rfl⟩
       rw [← htr] at hrw hslen
       rw [← hrv] at hrw c8
       obtain ⟨ra, rc, rfl, -, -⟩ := owns_slice hrw
       obtain ⟨TL, hTL⟩ : ∃ TL, TL = tr.length := ⟨_, rfl⟩
       rw [← hTL] at c8 hslen
       have HTL := Lib.hid hTL
       have HTR := Lib.hid htr
       have HVL := Lib.hid hvl
       have hGw7 : G < w7.heap.size := (HS7.out.out.lt G rfl).2
       -- the new trace
       have b8 : Below w7.heap.size w7 (w7.alloc (.cells #[] 9)) := (Below.refl _ _).alloc (Nat.le_refl _) _
       have c7' := keeps b8 hobw7 c7
       have c8' := keeps b8 hGw7 c8
       have HSR : Hid (SrcS (w7.alloc (.cells #[] 9)) (.slice ra TL rc) tr) := by
        have h : SrcS w7 (.slice ra TL rc) tr := SrcS.of_own (base := G) (e := 9) (by rw [HTL.out]; exact hrw)
        exact h.below b8
       have HE0 : Hid ((w7.alloc (.cells #[] 9)).ownsRow w7.heap.size 9 1 (.slice (some ⟨w7.heap.size, 0, none⟩) 0 0) 0 []) := World.ownsRow_lit (base := w7.heap.size) (e := 9) (size := 1) w7 #[] 0 (Nat.le_refl _) (by decide) rfl
       clear ho7 hg7 hvl hrw hrv hwi hTL htr hiw c7 c8 b8
       go_wp2_with (at_builtin; refine append_src rfl _ _ 22 rfl w7.heap.size 9 i3 (.string ⟨#[]⟩) 16 Tryz.underlying22 hi3 hz30 hz31 hz32 rfl _ 0 _ rfl HE0.out tr HSR.out ?d3 ?d4 ?d5 ?_)
       case d3 => rw [← HTL.out]; simp [maxLen]; omega
       case d4 => rw [← HTL.out]; omega
       case d5 => simp
       intro v9 w9 ho9 hg9
       have HB9 : Hid (Below w7.heap.size w7 w9) := ((Below.refl _ w7).alloc (Nat.le_refl _) _).grown hg9 (by simp) (fun b e => by cases e; exact Nat.le_refl _)
       obtain ⟨va9, vc9, rfl, -, -⟩ := owns_slice ho9
       have HO9 : Hid (w9.ownsRow w7.heap.size 9 1 (.slice va9 TL vc9) TL (txts tr)) := by unfold Hid; rw [HTL.out]; exact ho9
       rw [← HTL.out]
       have hs9 := HB9.out.size
       have q29 := keeps HB9.out (show p < w7.heap.size by omega) (keeps HB7.out hpl HQ2.out)
       have cl9 := keeps HB9.out (show bl < w7.heap.size by omega) (keeps HB7.out hblw (HCL.out k hkL2))
       clear ho9 hg9 c7' c8'
       obtain ⟨l2, hl2⟩ : ∃ l2, l2 = t.labels[k] := ⟨_, rfl⟩
       rw [← hl2] at cl9
       have HL2 := Lib.hid hl2
       clear hl2
       go_wp2_with (at_builtin; refine wpList_append_own _ rfl _ _ 22 rfl w7.heap.size 9 i3 (.string ⟨#[]⟩) 1 16 Tryz.underlying22 hi3 hz30 hz31 hz32 rfl (by decide) _ TL _ rfl (HO9.out.alloc _) ⟨w9.heap.size, 0, none⟩ 1 1 [.string l2] rfl rfl ?e1 ?e2 ?e3 ?e4 ?e5 ?_)
       case e1 => exact World.news_of_block (cs := #[.string l2]) (t := 9) (fr := (0, 0)) (heap_alloc_new _ _)
       case e2 => intro u hu; simp at hu; subst hu; rfl
       case e3 => simp [maxLen]; omega
       case e4 => omega
       case e5 => simp; omega
       intro v10 w10 ho10 hg10 _
       obtain ⟨va10, vc10, rfl, -, -⟩ := owns_slice ho10
       have HB10 : Hid (Below w7.heap.size w7 w10) := (HB9.out.alloc hs9 _).grown hg10 (by simp; omega) (fun b e => (HO9.out.lt b e).1)
       have HO10 : Hid (w10.ownsRow w7.heap.size 9 1 (.slice va10 (TL + 1) vc10) (TL + 1) (txts (tr ++ [l2]))) := by
        unfold Hid txts; rw [List.map_append]; exact ho10
       have HSN : Hid (OwnW G (w10.setCell ⟨G, M2, none⟩ (.slice va10 (TL + 1) vc10)) (.slice (some ⟨ob7, 0, none⟩) (M2 + 1) vc7) G n (vs.set M2 (.slice va10 (TL + 1) vc10)) t.labels (N ++ [(k - 1) :: u])) := by
        have h1 := ownStrss_setRow HS7.out (j := M2) HVL.out.symm (Nat.le_refl _) HB10.out (ys := tr ++ [l2]) (by rw [List.length_append, ← HTL.out]; exact HO10.out) (Nat.le_of_lt hGw7) hM2n
        have h2 := owns_below HR7.out HB10.out
        have h3 := owns_below HS7.out.out HB10.out
        refine ⟨?_, ?_, by rw [List.length_set]; exact HVL.out⟩
        ·rw [List.length_append, List.length_singleton, ← HM2.out]
         exact h2.kept (grown_setCell w10 ⟨G, M2, none⟩ _) (own_types h2 h3 (by decide))
        ·have e1 : (outW t.labels n N).set M2 (tr ++ [l2]) = outW t.labels n (N ++ [(k - 1) :: u]) := by
          have h := outW_set (L := t.labels) (N := N) (n := n) (by rw [← HM2.out]; exact hM2n) ((k - 1) :: u)
          have hlk2 : labK t.labels (k - 1) = l2 := by
           unfold labK
           rw [show k - 1 + 1 = k from by omega, List.getD_eq_getElem?_getD, List.getElem?_eq_getElem hkL2, HL2.out]
           rfl
          rw [← HM2.out, txtsOf_cons, ← HTR.out, hlk2] at h
          exact h
         rw [e1] at h1
         exact h1
       have HBS : Hid (Below w.heap.size w (w10.setCell ⟨G, M2, none⟩ (.slice va10 (TL + 1) vc10))) := (HB7.out.trans (HB10.out.mono hs7)).setCell (by rw [← HG.out]; exact Nat.le_refl _) _
       have ccG : ∃ u0, w10.cell? ⟨G, M2, none⟩ = some u0 := by
        have h := owns_below HS7.out.out HB10.out
        rw [HVL.out] at h
        exact own_cell h M2 (by omega)
       obtain ⟨u0, ccG⟩ := ccG
       have cfG : w10.frozen? ⟨G, M2, none⟩ = false := by
        have h := owns_below HS7.out.out HB10.out
        rw [HVL.out] at h
        exact h.frozenAt M2
       clear ho10 hg10 q29 cl9
       go_wp2
       go_roundw
       case rel => exact ⟨k + 1, N ++ [(k - 1) :: u], _, by go_num, by omega, by omega, by rw [List.length_append, ← HM2.out]; omega, by rw [List.getElem?_append_left (by rw [← HM2.out]; exact hiN2)]; exact HU.out, by have h := HNX.out; rw [show k - 1 + 1 = k + 1 - 1 from by omega] at h; exact h, HBS.out, HSN.out⟩
       case measure => simp [intOf]; omega
    ·obtain rfl : k = LL := by omega
     have HNX : Hid (WaySt t st N (i + 1) 0) := by
      have h := HWS.out
      rw [show k - 1 = t.labels.length - 1 from by rw [← HLL.out]] at h
      exact h.next HOK.out (by rw [← HM2.out]; exact hiN2)
     clear hu hws hbl how hM2 hord
     go_wp2
     go_roundw
     case rel => exact ⟨i + 1, N, vs, by go_num, by rw [← HM2.out]; exact hiN2, HNX.out, HBL.out, HOW.out⟩
     case measure => simp [intOf]; omega
  ·have HALL : Hid (WaysAll t st N) := HWS.out.all HOK.out (by rw [← HM.out]; exact hlt)
   have HF : Hid (OwnStrss G wr (.slice (some ⟨G, 0, none⟩) n n) vs (N.map (txtsOf t.labels))) := by
    have h := HOW.out.out
    rw [outW_all (by rw [HALL.out.1, HNN.out])] at h
    exact h
   clear hbl HOW
   go_wp2
   go_ret
   exact ⟨_, vs, N, rfl, HBL.out, HALL.out, by rw [← HG.out]; exact HF.out⟩

end Go.Proofs.YtkbgncenjfebdaaGreatDoor

namespace Go.Proofs.YtkbgncenjfebdaaGreatDoor
open Go Go.RowKit

/-- The first trace to a state of the deterministic system. -/
def WayTo (t : Lts) (st : DNet) (j : Int) (xs : List ByteArray) : Prop :=
 ∃ u, Least ((0 : Int), (0 : Int)) (goBoth (dSys t st) (dSys t st) t.labels) (t.labels.length - 1) (liveF fun p => p.1 = j) u ∧ xs = txtsOf t.labels u
theorem WayTo.unique {t : Lts} {st : DNet} {j : Int} {xs ys : List ByteArray} (h : WayTo t st j xs) (k : WayTo t st j ys) : xs = ys := by
 obtain ⟨u, h1, rfl⟩ := h
 obtain ⟨v, k1, rfl⟩ := k
 rw [h1.unique k1]
/-- For each of the first edges the trace to it and over it. -/
def CovL (t : Lts) (st : DNet) (n : Nat) (ts : List (List ByteArray)) : Prop :=
 ts.length = n ∧ ∀ i (h : i < st.edges.length), i < n → ∃ xs, WayTo t st st.edges[i].src xs ∧ xs.length ≤ 40 ∧ ts[i]? = some (xs ++ [labAt (dSys t st) st.edges[i]])
theorem CovL.unique {t : Lts} {st : DNet} {ts us : List (List ByteArray)} (h : CovL t st st.edges.length ts) (k : CovL t st st.edges.length us) : ts = us := by
 refine List.ext_getElem? fun i => ?_
 by_cases hi : i < st.edges.length
 ·obtain ⟨xs, h1, -, h2⟩ := h.2 i hi hi
  obtain ⟨ys, k1, -, k2⟩ := k.2 i hi hi
  rw [h2, k2, h1.unique k1]
 ·rw [List.getElem?_eq_none (by rw [h.1]; omega), List.getElem?_eq_none (by rw [k.1]; omega)]
theorem CovL.push {t : Lts} {st : DNet} {n : Nat} {ts : List (List ByteArray)} {xs : List ByteArray} (h : CovL t st n ts) (hn : n < st.edges.length) (hw : WayTo t st st.edges[n].src xs) (hx : xs.length ≤ 40) : CovL t st (n + 1) (ts ++ [xs ++ [labAt (dSys t st) st.edges[n]]]) := by
 refine ⟨by rw [List.length_append, h.1]; rfl, fun i hi hin => ?_⟩
 by_cases e : i < n
 ·obtain ⟨ys, h1, h2, h3⟩ := h.2 i hi e
  exact ⟨ys, h1, h2, by rw [List.getElem?_append_left (by rw [h.1]; exact e)]; exact h3⟩
 ·obtain rfl : i = n := by omega
  exact ⟨xs, hw, hx, by have e2 := h.1; rw [List.getElem?_append_right (by omega), show i - ts.length = 0 by omega]; rfl⟩
theorem CovL.zero (t : Lts) (st : DNet) : CovL t st 0 [] := ⟨rfl, fun _ _ h => absurd h (Nat.not_lt_zero _)⟩
/-- A list is not contained in another one, nor equal to an earlier one. -/
def Kept (ts : List (List ByteArray)) (i : Nat) : Prop := ∀ (k : Nat) (a b : List ByteArray), ts[i]? = some a → ts[k]? = some b → a <+: b → ¬ (a.length < b.length ∨ k < i)
noncomputable section
open Classical in
/-- The first lists, less those that others contain. -/
def redTo (ts : List (List ByteArray)) (n : Nat) : List (List ByteArray) := ((List.range n).filter fun i => decide (Kept ts i)).map fun i => ts.getD i []
end
open Classical in
theorem redTo_yes {ts : List (List ByteArray)} {n : Nat} (hn : n < ts.length) (h : Kept ts n) : redTo ts (n + 1) = redTo ts n ++ [ts[n]] := by
 unfold redTo
 rw [List.range_succ, List.filter_append, List.map_append]
 congr 1
 rw [List.filter_cons, if_pos (by rw [decide_eq_true_eq]; exact h), List.filter_nil, List.map_singleton, List.getD_eq_getElem?_getD, List.getElem?_eq_getElem hn]
 rfl
open Classical in
theorem redTo_no {ts : List (List ByteArray)} {n : Nat} (h : ¬ Kept ts n) : redTo ts (n + 1) = redTo ts n := by
 unfold redTo
 rw [List.range_succ, List.filter_append, List.map_append, List.filter_cons, if_neg (by rw [decide_eq_true_eq]; exact h), List.filter_nil, List.map_nil, List.append_nil]
theorem redTo_len (ts : List (List ByteArray)) (n : Nat) : (redTo ts n).length ≤ n := by
 unfold redTo
 rw [List.length_map]
 refine Nat.le_trans (List.length_filter_le _ _) ?_
 rw [List.length_range]
 exact Nat.le_refl _
theorem redTo_in {ts : List (List ByteArray)} : ∀ x ∈ redTo ts ts.length, x ∈ ts := by
 intro x hx
 unfold redTo at hx
 obtain ⟨i, hi, rfl⟩ := List.mem_map.1 hx
 have h := List.mem_range.1 (List.mem_filter.1 hi).1
 rw [List.getD_eq_getElem?_getD, List.getElem?_eq_getElem h]
 exact List.getElem_mem h
/-- The tests and the error's code. -/
def CvIs (t : Lts) (ins : List ByteArray) (xs : List (List ByteArray)) (code : Int) : Prop :=
 (¬ IfOk t ins ∧ xs = [] ∧ code = 1) ∨ (IfOk t ins ∧ (¬ Valid (susT t ins) ∨ (Valid (susT t ins) ∧ DFull (susT t ins))) ∧ xs = [] ∧ code = 5)
  ∨ (IfOk t ins ∧ Valid (susT t ins) ∧ ∃ st ts, DOk (susT t ins) st ∧ CovL (susT t ins) st st.edges.length ts ∧ xs = redTo ts ts.length ∧ code = 0)
theorem CvIs.unique {t : Lts} {ins : List ByteArray} {code code' : Int} {c c' : List (List ByteArray)} (h : CvIs t ins c code) (k : CvIs t ins c' code') : c = c' ∧ code = code' := by
 rcases h with ⟨h1, h2, h3⟩ | ⟨h1, h2, h3, h4⟩ | ⟨h1, h0, st, ts, h2, h3, h4, h5⟩ <;>
  rcases k with ⟨k1, k2, k3⟩ | ⟨k1, k2, k3, k4⟩ | ⟨k1, k0, st', ts', k2, k3, k4, k5⟩ <;>
  first
  | exact absurd k1 h1
  | exact absurd h1 k1
  | exact ⟨h2.trans k2.symm, h3.trans k3.symm⟩
  | exact ⟨h3.trans k3.symm, h4.trans k4.symm⟩
  | (rcases k2 with k | ⟨-, k⟩
     ·exact absurd h0 k
     ·exact absurd k h2.not_full)
  | (rcases h2 with k | ⟨-, k⟩
     ·exact absurd k0 k
     ·exact absurd k k2.not_full)
  | skip
 have e := h2.1.unique k2.1
 subst e
 have e := h3.unique k3
 subst e
 exact ⟨h4.trans k4.symm, h5.trans k5.symm⟩
theorem totalS_sum : ∀ (xs : List (List ByteArray)) (m : Nat), (∀ x ∈ xs, x.length ≤ m) → totalS xs ≤ xs.length * m
 | [], _, _ => by simp [totalS]
 | x :: xs, m, h => by
  have h1 := totalS_sum xs m fun y hy => h y (List.mem_cons_of_mem _ hy)
  have h2 := h x (by simp)
  simp only [totalS, List.length_cons, Nat.succ_mul] at h1 ⊢
  omega
theorem CvIs.few {t : Lts} {ins : List ByteArray} {xs : List (List ByteArray)} {code : Int} (h : CvIs t ins xs code) : totalS xs ≤ 12300 := by
 rcases h with ⟨-, rfl, -⟩ | ⟨-, -, rfl, -⟩ | ⟨-, h0, st, ts, h2, h3, rfl, -⟩
 ·simp [totalS]
 ·simp [totalS]
 ·have h4 := totalS_sum (redTo ts ts.length) 41 (fun x hx => by
   have hm := redTo_in x hx
   obtain ⟨i, hi, rfl⟩ := List.mem_iff_getElem.1 hm
   obtain ⟨ys, -, h5, h6⟩ := h3.2 i (by rw [← h3.1]; exact hi) (by rw [← h3.1]; exact hi)
   rw [List.getElem?_eq_getElem hi] at h6
   rw [Option.some.inj h6, List.length_append, List.length_singleton]
   omega)
  have h5 := redTo_len ts ts.length
  have h6 := h3.1
  have h7 := h2.2.2
  have h8 : (redTo ts ts.length).length * 41 ≤ 300 * 41 := Nat.mul_le_mul_right _ (by omega)
  omega
def RetCv (t : Lts) (ins : List ByteArray) (w : World) (e : Ending) (w' : World) : Prop :=
 Below w.heap.size w w' ∧ ∃ (xss : List (List ByteArray)) (code : Int) (v : Value) (vs : List Value), e = .returned (.tuple #[v, .int .i64 code]) ∧ CvIs t ins xss code ∧ OwnStrss w.heap.size w' v vs xss
theorem cv_none {t : Lts} {ins : List ByteArray} {code : Int} {w w' : World} (hb : Below w.heap.size w w') (h : CvIs t ins [] code) : RetCv t ins w (.returned (.tuple #[.slice none 0 0, .int .i64 code])) w' :=
 ⟨hb, [], code, _, [], rfl, h, OwnStrss.none _ _⟩

end Go.Proofs.YtkbgncenjfebdaaGreatDoor

namespace Go.Proofs.YtkbgncenjfebdaaGreatDoor
open Go Go.RowKit

theorem list_same {xs ys : List ByteArray} (hl : xs.length = ys.length) (h : ∀ j (h1 : j < xs.length) (h2 : j < ys.length), xs[j].toList = ys[j].toList) : xs = ys :=
 List.ext_getElem hl fun j h1 h2 => toList_inj (h j h1 h2)
theorem list_pre {xs ys : List ByteArray} (hl : xs.length ≤ ys.length) (h : ∀ j (h1 : j < xs.length) (h2 : j < ys.length), xs[j].toList = ys[j].toList) : xs <+: ys := by
 rw [List.prefix_iff_eq_take]
 refine list_same (by rw [List.length_take]; omega) fun j h1 h2 => ?_
 rw [List.getElem_take]
 exact h j h1 _
theorem pre_get {xs ys : List ByteArray} (h : xs <+: ys) {j : Nat} (h1 : j < xs.length) (h2 : j < ys.length) : xs[j] = ys[j] := by
 obtain ⟨zs, rfl⟩ := h
 rw [List.getElem_append_left h1]

set_option maxRecDepth 100000 in
set_option maxHeartbeats 1000000 in
theorem EqualS_any (lo lo' : Nat) (va vb : Value) (xs ys : List ByteArray) (w : World) (hva : SliceK 1 encS lo w va xs) (hvb : SliceK 1 encS lo' w vb ys) (_hz : xs.length ≤ 1048576) (_hz2 : ys.length ≤ 1048576) :
  Calls Tryz.prog 115 #[va, vb] w fun e w' => ∃ b : Bool, e = .returned (.bool b) ∧ (b = true ↔ xs = ys) ∧ Below w.heap.size w w' := by
 obtain ⟨a, ca, rfl, hna, hca, ha⟩ := hva
 obtain ⟨b, cb, rfl, hnb, hcb, hb⟩ := hvb
 have HA := Lib.hid ha
 have HB := Lib.hid hb
 obtain ⟨N, hN⟩ : ∃ N, N = xs.length := ⟨_, rfl⟩
 obtain ⟨M, hM⟩ : ∃ M, M = ys.length := ⟨_, rfl⟩
 rw [← hN] at hna ⊢
 rw [← hM] at hnb ⊢
 have HN := Lib.hid hN
 have HM := Lib.hid hM
 clear ha hb hN hM hna hca hnb hcb
 by_cases hl : N = M
 ·have HL := Lib.hid hl
  have hlb : ((N : Int) == (M : Int)) = true := by rw [beq_iff_eq]; omega
  clear hl
  go_enter Tryz.func115, Tryz.ntmps115
  go_wp2
  go_loopw [13] (fun i wr => ∃ k : Nat, k ≤ N ∧ i = .int .i64 k ∧ Below w.heap.size w wr ∧ ∀ j (h1 : j < xs.length) (h2 : j < ys.length), j < k → xs[j].toList = ys[j].toList) (fun i _ => N - (intOf i).toNat)
  case atStart => exact ⟨0, Nat.zero_le _, rfl, Below.refl _ _, fun _ _ _ h => by omega⟩
  case round =>
   obtain ⟨k, hk, rfl, hbl, hx⟩ := hrel
   have HX := Lib.hid hx
   have HBL := Lib.hid hbl
   clear hx
   by_cases hlt : k < N
   ·have hl1 : k < xs.length := by have := HN.out; omega
    have hl2 : k < ys.length := by have := HM.out; have := HL.out; omega
    have hkM : k < M := by have := HL.out; omega
    obtain ⟨b1, o1, rfl, -, h1, c1⟩ := (HA.out.below hbl).one hl1
    obtain ⟨b2, o2, rfl, -, h2, c2⟩ := (HB.out.below hbl).one hl2
    simp only [encS, List.getElem?_cons_zero] at c1 c2
    obtain ⟨x, hx⟩ : ∃ x, x = xs[k] := ⟨_, rfl⟩
    obtain ⟨y, hy⟩ : ∃ y, y = ys[k] := ⟨_, rfl⟩
    rw [← hx] at c1
    rw [← hy] at c2
    have HXX := Lib.hid hx
    have HYY := Lib.hid hy
    clear hbl hx hy
    cases hxy : (x.toList == y.toList)
    ·have HF : Hid (¬ xs = ys) := fun e => by
      subst e
      rw [HXX.out, HYY.out, beq_self_eq_true] at hxy
      cases hxy
     go_wp2
     go_quiet (fail)
     go_wp2
     go_ret
     exact ⟨_, rfl, ⟨(fun h => by cases h), fun h => absurd h HF.out⟩, drews HBL.out _⟩
    ·have HF : Hid (xs[k].toList = ys[k].toList) := by
      rw [beq_iff_eq, HXX.out, HYY.out] at hxy
      exact hxy
     go_wp2
     go_quiet (fail)
     go_wp2
     go_roundw
     case rel => exact ⟨k + 1, by omega, by go_num, drews HBL.out _, fun j h1 h2 hj => by
      by_cases e : j = k
      ·subst e; exact HF.out
      ·exact HX.out j h1 h2 (by omega)⟩
     case measure => simp [intOf]; omega
   ·have HF : Hid (xs = ys) := list_same (by rw [← HN.out, ← HM.out, HL.out]) fun j h1 h2 => HX.out j h1 h2 (by have := HN.out; omega)
    clear hbl
    go_wp2
    go_ret
    exact ⟨_, rfl, ⟨fun _ => HF.out, fun _ => rfl⟩, HBL.out⟩
 ·have HL : Hid (¬ xs = ys) := fun e => hl (by rw [HN.out, HM.out, e])
  have hlb : ((N : Int) == (M : Int)) = false := by rw [beq_eq_false_iff_ne]; omega
  clear hl
  go_enter Tryz.func115, Tryz.ntmps115
  go_wp2
  go_ret
  exact ⟨_, rfl, ⟨(fun h => by cases h), fun h => absurd h HL.out⟩, Below.refl _ _⟩

/-- A slice's first elements. -/
theorem SliceK.head {lo n c : Nat} {a : Option Addr} {w : World} {xs : List ByteArray} (h : SliceK 1 encS lo w (.slice a n c) xs) {m : Nat} (hm : m ≤ n) : SliceK 1 encS lo w (.slice a m c) (xs.take m) := by
 obtain ⟨b9, c9, h2, h3, h4, h5⟩ := h
 simp only [Value.slice.injEq] at h2
 obtain ⟨rfl, rfl, rfl⟩ := h2
 refine ⟨_, _, by rw [List.length_take]; congr 1; omega, by rw [List.length_take]; omega, by omega, ?_⟩
 rcases h5 with h5 | ⟨b, o, h6, h7, h8, h9⟩
 ·left; rw [List.length_take]; omega
 ·refine .inr ⟨b, o, h6, h7, h8, fun i hi j hj => ?_⟩
  rw [List.length_take] at hi
  rw [h9 i (by omega) j hj, List.getElem_take]

set_option maxRecDepth 100000 in
set_option maxHeartbeats 1000000 in
theorem begins_any (lo lo' : Nat) (va vb : Value) (xs ys : List ByteArray) (w : World) (hva : SliceK 1 encS lo w va xs) (hvb : SliceK 1 encS lo' w vb ys) (hz : xs.length ≤ 1048576) (hz2 : ys.length ≤ 1048576) :
  Calls Tryz.prog 117 #[va, vb] w fun e w' => ∃ b : Bool, e = .returned (.bool b) ∧ (b = true ↔ ys <+: xs ∧ ys.length < xs.length) ∧ Below w.heap.size w w' := by
 have hva2 := hva
 have hvb2 := hvb
 obtain ⟨a, ca, rfl, hna, hca, ha⟩ := hva
 obtain ⟨b, cb, rfl, hnb, hcb, hb⟩ := hvb
 obtain ⟨N, hN⟩ : ∃ N, N = xs.length := ⟨_, rfl⟩
 obtain ⟨M, hM⟩ : ∃ M, M = ys.length := ⟨_, rfl⟩
 rw [← hN] at hz hna hva2 ⊢
 rw [← hM] at hz2 hnb hvb2 ⊢
 by_cases hl : M < N
 ·have HEQ := Lib.hid (EqualS_any lo lo' (.slice a M ca) (.slice b M cb) (xs.take M) ys w (hva2.head (by omega)) hvb2 (by rw [List.length_take]; omega) (by omega))
  have HP : Hid (xs.take M = ys ↔ ys <+: xs) := by
   unfold Hid
   rw [hM, List.prefix_iff_eq_take]
   exact eq_comm
  have hd : decide ((M : Int) < (N : Int)) = true := decide_eq_true (by omega)
  have hcM : M ≤ ca := by omega
  clear ha hb hva2 hvb2 hN hM
  go_enter Tryz.func117, Tryz.ntmps117
  go_wp2_with fail
  refine Calls.mono HEQ.out ?_
  rintro e w1 ⟨r, rfl, hr, hb1⟩
  have HR := Lib.hid hr
  have HB1 := Lib.hid hb1
  clear hr hb1 HEQ
  go_wp2
  go_ret
  exact ⟨r, rfl, by rw [HR.out, HP.out]; exact ⟨fun h => ⟨h, hl⟩, fun h => h.1⟩, HB1.out⟩
 ·have hd : decide ((M : Int) < (N : Int)) = false := decide_eq_false (by omega)
  clear ha hb hva2 hvb2 hN hM
  go_enter Tryz.func117, Tryz.ntmps117
  go_wp2
  go_ret
  exact ⟨false, rfl, ⟨(fun h => by cases h), fun h => absurd h.2 hl⟩, Below.refl _ _⟩

end Go.Proofs.YtkbgncenjfebdaaGreatDoor

namespace Go.Proofs.YtkbgncenjfebdaaGreatDoor
open Go Go.RowKit

theorem StrssAt.row {lo : Nat} {w : World} {v : Value} {xss : List (List ByteArray)} (h : StrssAt lo w v xss) {i : Nat} (hi : i < xss.length) :
  ∃ b o c u, v = .slice (some ⟨b, o, Option.none⟩) xss.length c ∧ b < w.heap.size ∧ w.cell? ⟨b, o + i, Option.none⟩ = some u ∧ SliceK 1 encS lo w u xss[i] := by
 obtain ⟨vs, h1, ⟨a, c, rfl, h2, h3, h4⟩, h5⟩ := h
 obtain ⟨b, o, rfl, -, hb, hc⟩ := h4.one (show i < vs.length by omega)
 exact ⟨b, o, c, vs[i], by rw [h1], hb, by simpa [encV] using hc, h5 i (by omega) hi⟩
theorem StrssAt.form {lo : Nat} {w : World} {v : Value} {xss : List (List ByteArray)} (h : StrssAt lo w v xss) : ∃ a c, v = .slice a xss.length c := by
 obtain ⟨vs, h1, ⟨a, c, rfl, -⟩, -⟩ := h
 exact ⟨a, c, by rw [h1]⟩
theorem OwnStrss.push {B GE : Nat} {w wA w6 : World} {v v' tv : Value} {vs : List Value} {xss : List (List ByteArray)} {tr : List ByteArray} (h : OwnStrss B w v vs xss) (hGE : w.heap.size ≤ GE) (hB : B ≤ GE) (hb : Below w.heap.size w wA) (hr : wA.ownsRow GE 9 1 tv tr.length (txts tr))
  (hg : wA.grownBy w6 v.ownBlock) (ho : w6.ownsRow B 22 1 v' (vs.length + 1) (vs ++ [tv])) : OwnStrss B w6 v' (vs ++ [tv]) (xss ++ [tr]) := by
 refine ⟨?_, ?_⟩
 ·rw [List.length_append]
  exact ho
 ·have h1 := h.rows.push hGE hb (by rw [txts_len]; exact hr) hB
  have h2 := h1.other (by decide) (owns_below h.out hb) hg
  simpa using h2

end Go.Proofs.YtkbgncenjfebdaaGreatDoor
