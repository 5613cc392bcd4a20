/-
  The reference's MakeMonitor: what it returns is fixed by what it is given.
  What the small functions of the package laws compute: the size of the arguments, their copies, their comparison.
  The copies of the arguments that the package laws makes.
  What the functions of the laws that mark do.
  The functions of the laws that mark texts, edges, a system: what they turn.
  The law helper eqInt64S on equal lists.
  laws.eqMonitor at equal monitors.
  The marks that the package laws writes into lists of numbers, and whether they still stand there.
  The texts that marks are, lists of texts and edges marked, and that the marks still stand.
-/
import Derived.Test.YtmhpfmanagbggaaGreatDoorK22
import Derived.Test.YtmhpfmanagbggaaGreatDoorRows
import Derived.Test.YtmhpfmanagbggaaGreatDoorK1
import Derived.BigQuiet
import Derived.Deep.QuietTactic
import Derived.Deep.LoopGhost
import Derived.Test.YtmhpfmanagbggaaGreatDoorK13
import Derived.Test.YtmhpfmanagbggaaGreatDoorK16
namespace Go.Proofs.YtmhpfmanagbggaaGreatDoor
open Go Go.RowKit

theorem smm_results {w : World} {b : Nat} {v0 v1 v2 v3 v4 : Value} {tmps : Array Value} (hc : tmps.getD 4 undef = .pointer (some ⟨b, 0, none⟩)) (hb : Blk w b [v0, v1, v2, v3, v4] 32) :
  (results Tryz.f5 tmps).run Tryz.prog w = .ok (.tuple #[.agg #[v0, v1, v2, v3, v4], tmps.getD 5 undef]) w := by
 have h0 := hb.cell 0 rfl
 have h1 := hb.cell 1 rfl
 have h2 := hb.cell 2 rfl
 have h3 := hb.cell 3 rfl
 have h4 := hb.cell 4 rfl
 simp only [Array.getD_eq_getD_getElem?] at hc
 simp [results, Tryz.results5, go_sem, hc, h0, h1, h2, h3, h4, Result.andThen]

set_option maxRecDepth 100000 in
set_option maxHeartbeats 4000000 in
theorem specMakeMonitor_any (lo : Nat) (t : Lts) (lv ev : Value) (p : Lts) (lv2 ev2 : Value) (w : World) (h1 : Short t.labels) (h2 : Short p.labels) (hs1 : SliceK 1 encS lo w lv t.labels) (hs2 : SliceK 3 encE lo w ev t.edges)
  (hq1 : SliceK 1 encS lo w lv2 p.labels) (hq2 : SliceK 3 encE lo w ev2 p.edges) :
  Calls Tryz.prog 5 #[.agg #[.int .i64 t.states, .int .i64 t.initial, lv, ev], .agg #[.int .i64 p.states, .int .i64 p.initial, lv2, ev2]] w (RetMkM t p w) := by
 obtain ⟨tb, htb⟩ : ∃ tb, tb = w.heap.size := ⟨_, rfl⟩
 obtain ⟨wB, hwB⟩ : ∃ wB, wB = (w.alloc (.cells #[.int .i64 t.states, .int .i64 t.initial, lv, ev] 29)).alloc (.cells #[.int .i64 p.states, .int .i64 p.initial, lv2, ev2] 29) := ⟨_, rfl⟩
 obtain ⟨wA, hwA⟩ : ∃ wA, wA = wB.alloc (.cells #[.int .i64 0, .int .i64 0, .slice none 0 0, .slice none 0 0, .slice none 0 0] 32) := ⟨_, rfl⟩
 obtain ⟨ht, hp, hb⟩ := two_boxes 29 hs1 hs2 hq1 hq2
 rw [← hwB, ← htb] at ht hp
 rw [← hwB] at hb
 have hsB : wB.heap.size = tb + 1 + 1 := by rw [hwB, htb]; simp
 have hbA : Below w.heap.size w wA := by rw [hwA]; exact hb.alloc hb.size _
 have hBA : Below wB.heap.size wB wA := by rw [hwA]; exact (Below.refl _ _).alloc (Nat.le_refl _) _
 have hR : Blk wA (tb + 1 + 1) [.int .i64 0, .int .i64 0, .slice none 0 0, .slice none 0 0, .slice none 0 0] 32 := by
  have := Blk.new wB [.int .i64 0, .int .i64 0, .slice none 0 0, .slice none 0 0, .slice none 0 0] 32
  rw [hsB] at this
  rw [hwA]
  exact this
 have HT := Lib.hid (ht.below hBA)
 have HP := Lib.hid (hp.below hBA)
 have HBA := Lib.hid hbA
 have HR := Lib.hid hR
 have HWA := Lib.hid hwA
 have HWB := Lib.hid hwB
 have HTB := Lib.hid htb
 have HH1 := Lib.hid h1
 have HH2 := Lib.hid h2
 have hle : w.heap.size ≤ tb + 1 + 1 := by rw [htb]; omega
 clear h1 h2 hs1 hs2 hq1 hq2 ht hp hb htb hwA hwB hsB hbA hBA hR
 by_cases hgood : Valid t ∧ Valid p ∧ Single p
 ·obtain ⟨hv, hv2, hsg⟩ := hgood
  have HA := Lib.hid (l30Ask_good tb (tb + 1) lo t p wA HH1.out HH2.out HT.out HP.out hv hv2 hsg)
  have HV := Lib.hid hv
  have HV2 := Lib.hid hv2
  have HSG := Lib.hid hsg
  clear hv hv2 hsg
  go_enter Tryz.func5, Tryz.ntmps5
  go_wp2_with fail
  rw [← HWB.out, ← HTB.out, ← HWA.out]
  refine Calls.mono HA.out ?_
  rintro e w1 ⟨rfl, hb1⟩
  have HB1 := Lib.hid (HBA.out.trans (hb1.mono HBA.out.size))
  have HR1 := Lib.hid (HR.out.below hb1)
  have HD := Lib.hid (l30Make_any tb (tb + 1) lo t p w1 HV.out HV2.out (HT.out.below hb1) (HP.out.below hb1))
  have hs1 : w.heap.size ≤ w1.heap.size := HB1.out.size
  clear hb1 HA
  go_wp2_with fail
  refine Calls.mono HD.out ?_
  rintro e w5 ⟨hb5, c, d, hc, hd, ⟨hfull, rfl⟩ | ⟨st, lv5, ev5, vv5, hok, rfl, hown, hvo⟩⟩
  ·have HM : Hid (MkMIs t p MonZ 5) := Lib.hid (.inr (.inr ⟨HV.out, HV2.out, HSG.out, c, d, hc, hd, .inl ⟨hfull, rfl, rfl⟩⟩))
   obtain ⟨W5, hW5⟩ : ∃ W5, W5 = w5.alloc (.cells #[.int .i64 0, .int .i64 0, .slice none 0 0, .slice none 0 0, .slice none 0 0] 32) := ⟨_, rfl⟩
   have hb6 : Below w5.heap.size w5 W5 := by rw [hW5]; exact (Below.refl _ _).alloc (Nat.le_refl _) _
   have HB5 := Lib.hid ((HB1.out.trans (hb5.mono hs1)).trans (hb6.mono (HB1.out.trans (hb5.mono hs1)).size))
   have HR5 := Lib.hid ((HR1.out.below hb5).below hb6)
   have HW5 := Lib.hid hW5
   have r0 := HR5.out.cell 0 rfl
   have r1 := HR5.out.cell 1 rfl
   have r2 := HR5.out.cell 2 rfl
   have r3 := HR5.out.cell 3 rfl
   have r4 := HR5.out.cell 4 rfl
   have s0 := HR5.out.frozen 0
   have s1 := HR5.out.frozen 1
   have s2 := HR5.out.frozen 2
   have s3 := HR5.out.frozen 3
   have s4 := HR5.out.frozen 4
   rw [hW5] at r0 r1 r2 r3 r4 s0 s1 s2 s3 s4
   clear hb5 hc hd hfull HD hb6 hW5
   go_wp2
   rw [← HW5.out]
   refine bodyPost_ret (smm_results rfl (((((HR5.out.set 0 _).set 1 _).set 2 _).set 3 _).set 4 _)) rfl ?_
   exact mkm_none (((((HB5.out.setCell hle _).setCell hle _).setCell hle _).setCell hle _).setCell hle _) HM.out
  ·obtain ⟨la5, lc5, rfl, -, -⟩ := owns_slice hown.1
   obtain ⟨ea5, ec5, rfl, -, -⟩ := owns_slice hown.2
   obtain ⟨va5, vc5, rfl, -, -⟩ := owns_slice hvo
   have HM : Hid (MkMIs t p (monW t p c d st) 0) := Lib.hid (.inr (.inr ⟨HV.out, HV2.out, HSG.out, c, d, hc, hd, .inr ⟨st, hok, rfl, rfl⟩⟩))
   obtain ⟨M, hM⟩ : ∃ M, M = monW t p c d st := ⟨_, rfl⟩
   have hMs : (st.rows.length : Int) = M.sys.states := by rw [hM]; rfl
   have hMi : M.sys.initial = 0 := by rw [hM]; rfl
   rw [← hM] at hown hvo HM ⊢
   obtain ⟨R, hR⟩ : ∃ R, R = st.rows.length := ⟨_, rfl⟩
   rw [← hR] at hMs
   rw [← hR]
   obtain ⟨LN, hLN⟩ : ∃ LN, LN = M.sys.labels.length := ⟨_, rfl⟩
   obtain ⟨EN, hEN⟩ : ∃ EN, EN = M.sys.edges.length := ⟨_, rfl⟩
   obtain ⟨VN, hVN⟩ : ∃ VN, VN = M.vs.length := ⟨_, rfl⟩
   have HO1 := hown.1
   have HO2 := hown.2
   rw [← hLN] at HO1
   rw [← hEN] at HO2
   rw [← hVN] at hvo
   rw [← hLN, ← hEN, ← hVN]
   obtain ⟨W5, hW5⟩ : ∃ W5, W5 = w5.alloc (.cells #[.int .i64 R, .int .i64 0, .slice la5 LN lc5, .slice ea5 EN ec5, .slice va5 VN vc5] 32) := ⟨_, rfl⟩
   have hb6 : Below w5.heap.size w5 W5 := by rw [hW5]; exact (Below.refl _ _).alloc (Nat.le_refl _) _
   have hX5 : Blk W5 w5.heap.size [.int .i64 R, .int .i64 0, .slice la5 LN lc5, .slice ea5 EN ec5, .slice va5 VN vc5] 32 := by rw [hW5]; exact Blk.new w5 _ _
   have hO1 := Lib.hid (owns_below (own_lower HO1 hs1) hb6)
   have hO2 := Lib.hid (owns_below (own_lower HO2 hs1) hb6)
   have hVO5 := Lib.hid (owns_below (own_lower hvo hs1) hb6)
   have HB5 := Lib.hid ((HB1.out.trans (hb5.mono hs1)).trans (hb6.mono (HB1.out.trans (hb5.mono hs1)).size))
   have HR5 := Lib.hid ((HR1.out.below hb5).below hb6)
   have HW5 := Lib.hid hW5
   have r0 := HR5.out.cell 0 rfl
   have r1 := HR5.out.cell 1 rfl
   have r2 := HR5.out.cell 2 rfl
   have r3 := HR5.out.cell 3 rfl
   have r4 := HR5.out.cell 4 rfl
   have s0 := HR5.out.frozen 0
   have s1 := HR5.out.frozen 1
   have s2 := HR5.out.frozen 2
   have s3 := HR5.out.frozen 3
   have s4 := HR5.out.frozen 4
   have q0 := hX5.cell 0 rfl
   have q1 := hX5.cell 1 rfl
   have q2 := hX5.cell 2 rfl
   have q3 := hX5.cell 3 rfl
   have q4 := hX5.cell 4 rfl
   rw [hW5] at r0 r1 r2 r3 r4 s0 s1 s2 s3 s4 q0 q1 q2 q3 q4
   have HMs := Lib.hid hMs
   have HMi := Lib.hid hMi
   have HLN := Lib.hid hLN
   have HEN := Lib.hid hEN
   have HVN := Lib.hid hVN
   clear hb5 hc hd hok hown hvo HD hb6 hW5 hX5 HO1 HO2 hM hMs hMi hR hLN hEN hVN
   go_wp2
   rw [← HW5.out]
   refine bodyPost_ret (smm_results rfl (((((HR5.out.set 0 _).set 1 _).set 2 _).set 3 _).set 4 _)) rfl ?_
   refine ⟨((((HB5.out.setCell hle _).setCell hle _).setCell hle _).setCell hle _).setCell hle _, M, 0, .slice la5 LN lc5, .slice ea5 EN ec5, .slice va5 VN vc5, by rw [HMi.out, ← HMs.out]; rfl, HM.out, ⟨?_, ?_⟩, ?_⟩
   ·rw [← HLN.out]; exact own5M HR5.out hO1.out (by decide)
   ·rw [← HEN.out]; exact own5M HR5.out hO2.out (by decide)
   ·rw [← HVN.out]; exact own5M HR5.out hVO5.out (by decide)
 ·obtain ⟨code, hcode, hc, HA⟩ : ∃ code : Int, (code = 1 ∨ code = 6) ∧ MkMIs t p MonZ code ∧ Hid (Calls Tryz.prog 15 #[.pointer (some ⟨tb, 0, none⟩), .pointer (some ⟨tb + 1, 0, none⟩)] wA (RetCode code wA)) := by
   by_cases hvv : Valid t ∧ Valid p
   ·have hns : ¬ Single p := fun h => hgood ⟨hvv.1, hvv.2, h⟩
    exact ⟨6, .inr rfl, .inr (.inl ⟨hvv.1, hvv.2, hns, rfl, rfl⟩), Lib.hid (l30Ask_state tb (tb + 1) lo t p wA HH1.out HH2.out HT.out HP.out hvv.1 hvv.2 hns)⟩
   ·exact ⟨1, .inl rfl, .inl ⟨hvv, rfl, rfl⟩, Lib.hid (l30Ask_bad tb (tb + 1) lo t p wA HH1.out HH2.out HT.out HP.out hvv)⟩
  have HM := Lib.hid hc
  clear hc hgood
  rcases hcode with rfl | rfl
  all_goals (
   go_enter Tryz.func5, Tryz.ntmps5
   go_wp2_with fail
   rw [← HWB.out, ← HTB.out, ← HWA.out]
   refine Calls.mono HA.out ?_
   rintro e w1 ⟨rfl, hb1⟩
   have HB1 := Lib.hid (HBA.out.trans (hb1.mono HBA.out.size))
   have HR1 := Lib.hid (HR.out.below hb1)
   have r0 := HR1.out.cell 0 rfl
   have r1 := HR1.out.cell 1 rfl
   have r2 := HR1.out.cell 2 rfl
   have r3 := HR1.out.cell 3 rfl
   have r4 := HR1.out.cell 4 rfl
   have s0 := HR1.out.frozen 0
   have s1 := HR1.out.frozen 1
   have s2 := HR1.out.frozen 2
   have s3 := HR1.out.frozen 3
   have s4 := HR1.out.frozen 4
   clear hb1 HA
   go_wp2
   refine bodyPost_ret (smm_results rfl (((((HR1.out.set 0 _).set 1 _).set 2 _).set 3 _).set 4 _)) rfl ?_
   exact mkm_none (((((HB1.out.setCell hle _).setCell hle _).setCell hle _).setCell hle _).setCell hle _) HM.out)

end Go.Proofs.YtmhpfmanagbggaaGreatDoor

namespace Go.Proofs.YtmhpfmanagbggaaGreatDoor
open Go Go.RowKit

def szS (ss : List ByteArray) (left : Int) : Int :=
 match ss with
 | [] => left
 | s :: r => if left - s.size < 0 then -1 else szS r (left - s.size)

theorem szS_lt (ss : List ByteArray) (left : Int) (h : 0 ≤ left) : -1 ≤ szS ss left ∧ szS ss left ≤ left := by
 induction ss generalizing left with
 | nil => simp [szS]; omega
 | cons s r ih =>
  unfold szS
  split
  ·omega
  ·have := ih (left - s.size) (by omega); omega

/-- What szStringS returns. -/
def szSS (ss : List ByteArray) (left : Int) : Int := if left - ss.length < 0 then -1 else szS ss (left - ss.length)
theorem szSS_neg {ss : List ByteArray} {left : Int} (h : left - ss.length < 0) : szSS ss left = -1 := by unfold szSS; rw [if_pos h]
theorem szSS_pos {ss : List ByteArray} {left : Int} (h : ¬ left - ss.length < 0) : szSS ss left = szS ss (left - ss.length) := by unfold szSS; rw [if_neg h]
def szN (n : Nat) (left : Int) : Int := if left - n < 0 then -1 else left - n
theorem szN_neg {n : Nat} {left : Int} (h : left - n < 0) : szN n left = -1 := by unfold szN; rw [if_pos h]
theorem szN_pos {n : Nat} {left : Int} (h : ¬ left - n < 0) : szN n left = left - n := by unfold szN; rw [if_neg h]

set_option maxHeartbeats 400000 in
theorem szStringS_any (v : Value) (lo : Nat) (ss : List ByteArray) (left : Int) (w : World)
   (h1 : 0 ≤ left) (h2 : left ≤ 1048576) (hs : StrsOk ss) (hv : SliceK 1 encS lo w v ss) :
  Calls Tryz.prog 13 #[v, .int .i64 left] w fun e w' => e = .returned (.int .i64 (szSS ss left)) ∧ w = w' := by
 have hS := Lib.hid hs
 clear hs
 obtain ⟨a, cap, rfl, hn, hcap, hr⟩ := hv
 by_cases hl : left - ss.length < 0
 ·go_enter Tryz.func13, Tryz.ntmps13
  go_wp2
  go_ret
  exact ⟨ret_int (szSS_neg hl).symm, rfl⟩
 ·go_enter Tryz.func13, Tryz.ntmps13
  go_wp2
  go_loop [1, 5] (fun t i => ∃ k : Nat, ∃ l : Int, k ≤ ss.length ∧ i = .int .i64 k ∧ t = .int .i64 l ∧ 0 ≤ l ∧ l ≤ 1048576 ∧ szS (ss.drop k) l = szS ss (left - ss.length)) (fun _ i => ss.length - (intOf i).toNat)
  case atStart => exact ⟨0, _, Nat.zero_le _, rfl, rfl, by omega, by omega, rfl⟩
  case round =>
   obtain ⟨k, l, hk, rfl, rfl, hl0, hl1, hs⟩ := hrel
   have hs' := Lib.hid hs
   clear hs
   by_cases hlt : k < ss.length
   ·have hsk := hS.out _ (List.getElem_mem hlt)
    obtain ⟨b, off, rfl, -, -, hck⟩ := hr.one hlt
    simp only [encS, List.getElem?_cons_zero] at hck
    clear hr
    have hd : Hid (szS (ss.drop k) l = if l - (ss[k]).size < 0 then -1 else szS (ss.drop (k+1)) (l - (ss[k]).size)) := by
     unfold Hid; rw [List.drop_eq_getElem_cons hlt, szS]
    by_cases hz : l - (ss[k]).size < 0
    ·go_wp2
     go_ret
     refine ⟨?_, rfl⟩
     exact ret_int (by rw [szSS_pos (by omega), ← hs'.out, hd.out, if_pos (by omega)])
    ·go_wp2
     go_round
     case rel => exact ⟨k+1, _, by omega, by go_num, rfl, by omega, by omega, by rw [← hs'.out, hd.out, if_neg (by omega)]⟩
     case measure => simp [intOf]; omega
   ·clear hr
    go_wp2
    go_ret
    refine ⟨?_, rfl⟩
    have : k = ss.length := by omega
    exact ret_int (by rw [szSS_pos (by omega), ← hs'.out]; simp [this, szS])

theorem szEdgeS_any (a : Option Addr) (cap n : Nat) (left : Int) (w : World) (h1 : 0 ≤ left) (h2 : left ≤ 1048576) (hn : n ≤ cap) (hcap : cap ≤ 9223372036854775807) :
  Calls Tryz.prog 14 #[.slice a n cap, .int .i64 left] w fun e w' => e = .returned (.int .i64 (szN n left)) ∧ w = w' := by
 by_cases hl : left - n < 0
 ·go_enter Tryz.func14, Tryz.ntmps14
  go_wp2
  go_ret
  exact ⟨ret_int (szN_neg hl).symm, rfl⟩
 ·go_enter Tryz.func14, Tryz.ntmps14
  go_wp2
  go_ret
  exact ⟨ret_int (szN_pos (by omega)).symm, rfl⟩

/-- What szLts returns. -/
def szL (t : Lts) (left : Int) : Int :=
 if szSS t.labels left < 0 then -1
 else if szN t.edges.length (szSS t.labels left) < 0 then -1
 else szN t.edges.length (szSS t.labels left)

theorem szSS_le (ss : List ByteArray) (left : Int) (h : 0 ≤ left) : -1 ≤ szSS ss left ∧ szSS ss left ≤ left := by
 unfold szSS
 split
 ·omega
 ·have := szS_lt ss (left - ss.length) (by omega); omega

set_option maxHeartbeats 400000 in
theorem szLts_any (v : Value) (lo : Nat) (t : Lts) (left : Int) (w : World)
   (h1 : 0 ≤ left) (h2 : left ≤ 1048576) (hs : StrsOk t.labels) (hv : LtsAt lo w v t) :
  Calls Tryz.prog 4 #[v, .int .i64 left] w
   fun e w' => e = .returned (.int .i64 (szL t left)) ∧ Below w.heap.size w w' := by
 have hb := szSS_le t.labels left h1
 have hS := Lib.hid hs
 clear hs
 obtain ⟨lv, ev, rfl, hl, ae, ce, rfl, hn, hcap, hr⟩ := hv
 go_enter Tryz.func4, Tryz.ntmps4
 go_wp2_with fail
 refine (szStringS_any _ _ _ _ _ h1 h2 hS.out (hl.below ((Below.refl _ w).alloc (Nat.le_refl _) _))).mono ?_
 clear hl hr
 rintro e w' ⟨rfl, rfl⟩
 have hf : Hid (szL t left = if szSS t.labels left < 0 then -1 else if szN t.edges.length (szSS t.labels left) < 0 then -1 else szN t.edges.length (szSS t.labels left)) := rfl
 generalize szSS t.labels left = q at *
 by_cases hl : q < 0
 ·go_wp2_with fail
  go_ret
  exact ⟨ret_int (by rw [hf.out, if_pos hl]), (Below.refl _ _).alloc (Nat.le_refl _) _⟩
 ·go_wp2_with fail
  refine (szEdgeS_any _ _ _ _ _ (by omega) (by omega) hn hcap).mono ?_
  rintro e w' ⟨rfl, rfl⟩
  generalize szN t.edges.length q = q2 at *
  by_cases hl2 : q2 < 0
  ·go_wp2_with fail
   go_ret
   exact ⟨ret_int (by rw [hf.out, if_neg (by omega), if_pos (by omega)]), (Below.refl _ _).alloc (Nat.le_refl _) _⟩
  ·go_wp2_with fail
   go_ret
   exact ⟨ret_int (by rw [hf.out, if_neg (by omega), if_neg (by omega)]), (Below.refl _ _).alloc (Nat.le_refl _) _⟩

set_option maxHeartbeats 400000 in
theorem eqStringS_same (va vb : Value) (lo lo' : Nat) (xs : List ByteArray) (w : World) (hva : SliceK 1 encS lo w va xs) (hvb : SliceK 1 encS lo' w vb xs) :
  Calls Tryz.prog 22 #[va, vb] w fun e w' => e = .returned (.bool true) ∧ Below w.heap.size w w' := by
 obtain ⟨a, ca, rfl, hna, hca, ha⟩ := hva
 obtain ⟨b, cb, rfl, hnb, hcb, hb⟩ := hvb
 go_enter Tryz.func22, Tryz.ntmps22
 go_wp2
 go_loopw [5] (fun i wr => ∃ k : Nat, k ≤ xs.length ∧ i = .int .i64 k ∧ Below w.heap.size w wr) (fun i _ => xs.length - (intOf i).toNat)
 case atStart => exact ⟨0, Nat.zero_le _, rfl, Below.refl _ _⟩
 case round =>
  obtain ⟨k, hk, rfl, hbl⟩ := hrel
  by_cases hlt : k < xs.length
  ·obtain ⟨b1, o1, rfl, -, h1, c1⟩ := ha.one hlt
   obtain ⟨b2, o2, rfl, -, h2, c2⟩ := hb.one hlt
   simp only [encS, List.getElem?_cons_zero] at c1 c2
   replace c1 := keeps hbl h1 c1
   replace c2 := keeps hbl h2 c2
   clear ha hb
   go_wp2
   go_quiet (fail)
   go_wp2
   go_roundw
   case rel => exact ⟨k + 1, by omega, by go_num, drews hbl _⟩
   case measure => simp [intOf]; omega
  ·clear ha hb
   go_wp2
   go_ret
   exact ⟨rfl, hbl⟩

set_option maxHeartbeats 400000 in
theorem eqEdge_same (x y z : Int) (w : World) :
  Calls Tryz.prog 53 #[.agg #[.int .i64 x, .int .i64 y, .int .i64 z], .agg #[.int .i64 x, .int .i64 y, .int .i64 z]] w fun e w' => e = .returned (.bool true) ∧ Below w.heap.size w w' := by
 go_enter Tryz.func53, Tryz.ntmps53
 go_wp2
 go_ret
 exact ⟨rfl, ((Below.refl _ _).alloc (Nat.le_refl _) _).alloc (by simp) _⟩

set_option maxHeartbeats 400000 in
theorem eqEdgeS_same (va vb : Value) (lo lo' : Nat) (xs : List Edge) (w : World) (hva : SliceK 3 encE lo w va xs) (hvb : SliceK 3 encE lo' w vb xs) :
  Calls Tryz.prog 23 #[va, vb] w fun e w' => e = .returned (.bool true) ∧ Below w.heap.size w w' := by
 obtain ⟨a, ca, rfl, hna, hca, ha⟩ := hva
 obtain ⟨b, cb, rfl, hnb, hcb, hb⟩ := hvb
 go_enter Tryz.func23, Tryz.ntmps23
 go_wp2
 go_loopw [5] (fun i wr => ∃ k : Nat, k ≤ xs.length ∧ i = .int .i64 k ∧ Below w.heap.size w wr) (fun i _ => xs.length - (intOf i).toNat)
 case atStart => exact ⟨0, Nat.zero_le _, rfl, Below.refl _ _⟩
 case round =>
  obtain ⟨k, hk, rfl, hbl⟩ := hrel
  by_cases hlt : k < xs.length
  ·obtain ⟨b1, o1, rfl, -, h1, c1, c2, c3⟩ := (ha.below hbl).edge hlt
   obtain ⟨b2, o2, rfl, -, h2, c4, c5, c6⟩ := (hb.below hbl).edge hlt
   replace c1 := later_cell h1 c1
   replace c2 := later_cell h1 c2
   replace c3 := later_cell h1 c3
   replace c4 := later_cell h2 c4
   replace c5 := later_cell h2 c5
   replace c6 := later_cell h2 c6
   clear ha hb
   go_wp2
   refine wp_region_later (by kernel_rfl) (by kernel_rfl) ?_
   repeat (go_big_quiet_step ((go_at_call 53; exact later_call (eqEdge_same _ _ _ _))))
   refine wpQuiet_nil ?_
   intro _ hw9
   obtain ⟨nl, hw8⟩ := hw9
   subst hw8
   go_wp2
   go_roundw
   case rel => exact ⟨k + 1, by omega, by go_num, hbl.trans (nl.h.mono hbl.size)⟩
   case measure => simp [intOf]; omega
  ·clear ha hb
   go_wp2
   go_ret
   exact ⟨rfl, hbl⟩

set_option maxHeartbeats 400000 in
theorem eqLts_same (va vb : Value) (lo lo' : Nat) (t : Lts) (w : World) (hva : LtsAt lo w va t) (hvb : LtsAt lo' w vb t) :
  Calls Tryz.prog 9 #[va, vb] w fun e w' => e = .returned (.bool true) ∧ Below w.heap.size w w' := by
 obtain ⟨la, ea, rfl, h1, h2⟩ := hva
 obtain ⟨lb, eb, rfl, h3, h4⟩ := hvb
 have hw0 : ∀ o1 o2, Below w.heap.size w ((w.alloc o1).alloc o2) := fun _ _ => ((Below.refl _ _).alloc (Nat.le_refl _) _).alloc (by simp) _
 have H0 := Lib.hid hw0
 have H1 := Lib.hid h1
 have H2 := Lib.hid h2
 have H3 := Lib.hid h3
 have H4 := Lib.hid h4
 clear hw0
 obtain ⟨_, _, rfl, -⟩ := h1
 obtain ⟨_, _, rfl, -⟩ := h2
 obtain ⟨_, _, rfl, -⟩ := h3
 obtain ⟨_, _, rfl, -⟩ := h4
 go_enter Tryz.func9, Tryz.ntmps9
 go_wp2_with fail
 refine (eqStringS_same _ _ _ _ _ _ (SliceK.below H1.out (H0.out _ _)) (SliceK.below H3.out (H0.out _ _))).mono ?_
 rintro e w1 ⟨rfl, hb1⟩
 obtain ⟨hc1, -⟩ := both hb1
 have hz := hb1.size
 simp only [World.size_alloc] at hz
 go_wp2_with fail
 refine (eqEdgeS_same _ _ _ _ _ _ (SliceK.below H2.out ((H0.out _ _).trans (hb1.mono (by simp; omega)))) (SliceK.below H4.out ((H0.out _ _).trans (hb1.mono (by simp; omega))))).mono ?_
 rintro e w2 ⟨rfl, hb2⟩
 go_wp2_with fail
 go_ret
 exact ⟨rfl, (H0.out _ _).trans ((hb1.mono (by simp; omega)).trans (hb2.mono (by omega)))⟩

end Go.Proofs.YtmhpfmanagbggaaGreatDoor

namespace Go.Proofs.YtmhpfmanagbggaaGreatDoor
open Go Go.RowKit

theorem info_string : (Tryz.prog.info? 9).map (fun i => (i.zero, i.size, i.bytes)) = some (some (.string ⟨#[]⟩), 1, 16) := by kernel_rfl
theorem info_edge : (Tryz.prog.info? 67).map (fun i => (i.zero, i.size, i.bytes)) = some (some (.agg #[.int .i64 0, .int .i64 0, .int .i64 0]), 3, 24) := by kernel_rfl

def MadeStrs (w : World) (ss : List ByteArray) (e : Ending) (w' : World) : Prop :=
 e = .returned (.slice (some ⟨w.heap.size, 0, none⟩) ss.length ss.length) ∧ Below w.heap.size w w' ∧ w.heap.size < w'.heap.size ∧ w'.ownsRow w.heap.size 9 1 (.slice (some ⟨w.heap.size, 0, none⟩) ss.length ss.length) ss.length (ss.map .string)

set_option maxHeartbeats 400000 in
theorem toStringS_any (v : Value) (lo : Nat) (ss : List ByteArray) (w : World) (hn : ss.length ≤ 1048576) (hv : SliceK 1 encS lo w v ss) :
  Calls Tryz.prog 17 #[v] w (MadeStrs w ss) := by
 obtain ⟨a, ca, rfl, hna, hca, ha⟩ := hv
 obtain ⟨i0, hi, hz0, hz1, hz2⟩ := info_parts info_string
 go_enter Tryz.func17, Tryz.ntmps17
 go_wp2_with (at_make; refine wpList_make_full _ rfl _ _ 22 rfl w.heap.size 9 i0 _ 1 Tryz.underlying22 hi hz0 hz1 .i64 .i64 _ _ ss.length rfl rfl rfl rfl ?_ ?_ ?_ ?_)
 ·rw [hz2]; omega
 ·simp [maxLen]; omega
 ·exact Nat.le_refl _
 ·intro w1 ho hg
  rw [toList_madeCells_one] at ho
  have hb1 : Below w.heap.size w w1 := (Below.refl _ w).grown hg (Nat.le_refl _) (fun _ h => by cases h)
  clear hi hz0 hz1 hz2 i0
  have HO := Lib.hid ho
  clear ho hg
  go_wp2
  go_loopw [4] (fun i wr => ∃ k : Nat, k ≤ ss.length ∧ i = .int .i64 k ∧ Below w.heap.size w wr ∧ wr.ownsRow w.heap.size 9 1 (.slice (some ⟨w.heap.size, 0, none⟩) ss.length ss.length) ss.length ((ss.take k).map .string ++ List.replicate (ss.length - k) (.string ⟨#[]⟩))) (fun i _ => ss.length - (intOf i).toNat)
  case atStart => exact ⟨0, Nat.zero_le _, rfl, hb1, by simpa using HO.out⟩
  case round =>
   obtain ⟨k, hk, rfl, hbl, ho⟩ := hrel
   clear HO hb1
   by_cases hlt : k < ss.length
   ·obtain ⟨b1, o1, rfl, -, h1, c1⟩ := (ha.below hbl).one hlt
    simp only [encS, List.getElem?_cons_zero] at c1
    have c2 := ho.cellAt k (by omega)
    rw [filled_get _ _ _ _ hlt] at c2
    have c3 := ho.frozenAt k
    have ho2 := ho.stored k (.string ss[k])
    rw [filled_set _ _ _ _ hlt] at ho2
    have HO := Lib.hid ho2
    clear ho ho2 ha
    go_wp2
    go_roundw
    case rel => exact ⟨k + 1, by omega, by go_num, hbl.setCell (by exact Nat.le_refl _) _, HO.out.1⟩
    case measure => simp [intOf]; omega
   ·clear ha
    go_wp2
    go_ret
    have hke : k = ss.length := by omega
    subst hke
    exact ⟨rfl, hbl, (ho.lt _ rfl).2, by simpa using ho⟩

def RetEdge (w : World) (x y z : Int) (e : Ending) (w' : World) : Prop := e = .returned (.agg #[.int .i64 x, .int .i64 y, .int .i64 z]) ∧ Below w.heap.size w w'

set_option maxHeartbeats 400000 in
theorem toEdge_any (x y z : Int) (w : World) : Calls Tryz.prog 38 #[.agg #[.int .i64 x, .int .i64 y, .int .i64 z]] w (RetEdge w x y z) := by
 go_enter Tryz.func38, Tryz.ntmps38
 go_wp2
 refine bodyPost_ret (v := .agg #[.int .i64 x, .int .i64 y, .int .i64 z]) (by simp [results, Tryz.results38, go_sem]) rfl ⟨rfl, ?_⟩
 repeat (first | exact Below.refl _ _ | refine Below.setCell ?_ (by simp) _ | refine Below.alloc ?_ (by simp; try omega) _)

def MadeEdges (w : World) (es : List Edge) (e : Ending) (w' : World) : Prop :=
 e = .returned (.slice (some ⟨w.heap.size, 0, none⟩) es.length es.length) ∧ Below w.heap.size w w' ∧ w.heap.size < w'.heap.size ∧ w'.ownsRow w.heap.size 67 3 (.slice (some ⟨w.heap.size, 0, none⟩) es.length es.length) es.length (es.flatMap encE)

set_option maxHeartbeats 1000000 in
theorem toEdgeS_any (v : Value) (lo : Nat) (es : List Edge) (w : World) (hn : es.length ≤ 1048576) (hv : SliceK 3 encE lo w v es) :
  Calls Tryz.prog 18 #[v] w (MadeEdges w es) := by
 obtain ⟨a, ca, rfl, hna, hca, ha⟩ := hv
 obtain ⟨i0, hi, hz0, hz1, hz2⟩ := info_parts info_edge
 go_enter Tryz.func18, Tryz.ntmps18
 go_wp2_with (at_make; refine wpList_make_full _ rfl _ _ 27 rfl w.heap.size 67 i0 _ 3 Tryz.underlying27 hi hz0 hz1 .i64 .i64 _ _ es.length rfl rfl rfl rfl ?_ ?_ ?_ ?_)
 ·rw [hz2]; omega
 ·simp [maxLen]; omega
 ·exact Nat.le_refl _
 ·intro w1 ho hg
  have hb1 : Below w.heap.size w w1 := (Below.refl _ w).grown hg (Nat.le_refl _) (fun _ h => by cases h)
  have ho1 : w1.ownsRow w.heap.size 67 3 (.slice (some ⟨w.heap.size, 0, none⟩) es.length es.length) es.length (List.replicate (es.length * 3) (.int .i64 0)) := by
   have : (madeCells #[.int .i64 0, .int .i64 0, .int .i64 0] (es.length * 3)).toList = List.replicate (es.length * 3) (Value.int .i64 0) := by
    apply List.ext_getElem?
    intro j
    by_cases hj : j < es.length * 3
    ·have h3 : j % 3 < 3 := Nat.mod_lt _ (by omega)
     simp only [madeCells, Array.toList_map, Array.toList_range, List.getElem?_map, List.getElem?_range hj, List.getElem?_replicate, if_pos hj, Option.map_some]
     show some (#[Value.int IntKind.i64 0, Value.int IntKind.i64 0, Value.int IntKind.i64 0][j % 3]!) = _
     generalize j % 3 = q at h3
     match q, h3 with
     | 0, _ => rfl
     | 1, _ => rfl
     | 2, _ => rfl
    ·simp [madeCells, hj]
   rw [this] at ho
   exact ho
  clear hi hz0 hz1 hz2 i0
  have HO := Lib.hid ho1
  clear ho hg ho1
  go_wp2
  go_loopw [4] (fun i wr => ∃ k : Nat, k ≤ es.length ∧ i = .int .i64 k ∧ Below w.heap.size w wr ∧ w.heap.size < wr.heap.size ∧ wr.ownsRow w.heap.size 67 3 (.slice (some ⟨w.heap.size, 0, none⟩) es.length es.length) es.length ((es.take k).flatMap encE ++ List.replicate ((es.length - k) * 3) (.int .i64 0))) (fun i _ => es.length - (intOf i).toNat)
  case atStart => exact ⟨0, Nat.zero_le _, rfl, hb1, (HO.out.lt _ rfl).2, by simpa using HO.out⟩
  case round =>
   obtain ⟨k, hk, rfl, hbl, hsz, ho⟩ := hrel
   clear HO hb1
   by_cases hlt : k < es.length
   ·obtain ⟨b1, o1, rfl, -, h1, c1, c2, c3⟩ := (ha.below hbl).edge hlt
    have HO := Lib.hid ho
    clear ho ha
    go_wp2_with fail
    refine (toEdge_any _ _ _ _).mono ?_
    rintro e w2 ⟨rfl, hb2⟩
    have ho := owns_below HO.out hb2
    clear c1 c2 c3
    have d0 := (ho.cellAt (k * 3) (by omega)).trans (filledE_get _ _ _ 0 hlt (by omega))
    have s0 := (ho.stored (k * 3) (.int .i64 es[k].src)).1
    have d1 := s0.cellAt (k * 3 + 1) (by omega)
    rw [List.getElem?_set_ne (by omega), filledE_get _ _ _ _ hlt (by omega)] at d1
    have s1 := (s0.stored (k * 3 + 1) (.int .i64 es[k].lab)).1
    have d2 := s1.cellAt (k * 3 + 2) (by omega)
    rw [List.getElem?_set_ne (by omega), List.getElem?_set_ne (by omega), filledE_get _ _ _ _ hlt (by omega)] at d2
    have g1 := ho.cellAt (k * 3 + 1) (by omega)
    rw [filledE_get _ _ _ _ hlt (by omega)] at g1
    have g2 := ho.cellAt (k * 3 + 2) (by omega)
    rw [filledE_get _ _ _ _ hlt (by omega)] at g2
    have f0 := ho.frozenAt (k * 3)
    have f3 := ho.frozenAt (k * 3 + 1)
    have f4 := ho.frozenAt (k * 3 + 2)
    have f1 := s0.frozenAt (k * 3 + 1)
    have f2 := s1.frozenAt (k * 3 + 2)
    have ho2 := (s1.stored (k * 3 + 2) (.int .i64 es[k].dst)).1
    rw [filledE_set _ _ _ hlt] at ho2
    clear s0 s1
    have HO2 := Lib.hid ho2
    have hsz2 := hb2.size
    clear ho ho2 HO
    go_wp2
    go_roundw
    case rel => exact ⟨k + 1, by omega, by go_num, (((hbl.trans (hb2.mono hbl.size)).setCell (by exact Nat.le_refl _) _).setCell (by exact Nat.le_refl _) _).setCell (by exact Nat.le_refl _) _, by simp; omega, HO2.out⟩
    case measure => simp [intOf]; omega
   ·clear ha
    go_wp2
    go_ret
    have hke : k = es.length := by omega
    subst hke
    exact ⟨rfl, hbl, (ho.lt _ rfl).2, by simpa using ho⟩

/-- A copy of a system, in memory of the call's own: its labels lie in one new block, its edges in a later one. -/
def MadeLts (w : World) (t : Lts) (e : Ending) (w' : World) : Prop :=
 ∃ b1 b2, e = .returned (.agg #[.int .i64 t.states, .int .i64 t.initial, .slice (some ⟨b1, 0, none⟩) t.labels.length t.labels.length, .slice (some ⟨b2, 0, none⟩) t.edges.length t.edges.length]) ∧ Below w.heap.size w w' ∧ w.heap.size ≤ b1 ∧ b1 < b2 ∧ b2 < w'.heap.size
  ∧ w'.ownsRow w.heap.size 9 1 (.slice (some ⟨b1, 0, none⟩) t.labels.length t.labels.length) t.labels.length (t.labels.map .string) ∧ w'.ownsRow b2 67 3 (.slice (some ⟨b2, 0, none⟩) t.edges.length t.edges.length) t.edges.length (t.edges.flatMap encE)

set_option maxHeartbeats 1000000 in
theorem toLts_any (v : Value) (lo : Nat) (t : Lts) (w : World) (hl : t.labels.length ≤ 1048576) (he : t.edges.length ≤ 1048576) (hv : LtsAt lo w v t) :
  Calls Tryz.prog 6 #[v] w (MadeLts w t) := by
 obtain ⟨lv, ev, rfl, h1, h2⟩ := hv
 have H1 := Lib.hid h1
 have H2 := Lib.hid h2
 obtain ⟨_, _, rfl, -⟩ := h1
 obtain ⟨_, _, rfl, -⟩ := h2
 have H0 : Hid (∀ o1 o2 o3, Below w.heap.size w (((w.alloc o1).alloc o2).alloc o3)) := fun _ _ _ => (((Below.refl _ _).alloc (Nat.le_refl _) _).alloc (by simp) _).alloc (by simp; omega) _
 go_enter Tryz.func6, Tryz.ntmps6
 go_wp2_with fail
 refine (toStringS_any _ _ _ _ hl (SliceK.below H1.out (H0.out _ _ _))).mono ?_
 rintro e w1 ⟨rfl, hb1, hs1, ho1⟩
 have B2 := Lib.hid ((Blk.new ((w.alloc _).alloc _) [.int .i64 t.states, .int .i64 t.initial, .slice none 0 0, .slice none 0 0] 29).below hb1)
 have B1 := Lib.hid (((Blk.new (w.alloc _) [.int .i64 0, .int .i64 0, .slice none 0 0, .slice none 0 0] 29).alloc _).below hb1)
 have B0 := Lib.hid ((((Blk.new w [.int .i64 t.states, .int .i64 t.initial, _, _] 25).alloc _).alloc _).below hb1)
 have hz := hb1.size
 simp only [World.size_alloc] at hz hs1 B1 B2 B0
 have HB1 := Lib.hid ((H0.out _ _ _).trans (hb1.mono (B' := w.heap.size) (by simp; omega)))
 have HO1 := Lib.hid ho1
 clear hb1 ho1
 have b3 := B0.out.cell 3 rfl
 have c2 := B2.out.cell 2 rfl
 have f2 := B2.out.frozen 2
 simp only [World.size_alloc] at HO1
 go_wp2_with fail
 have HB2 := Lib.hid (HB1.out.setCell (p := ⟨w.heap.size + 1 + 1, 2, none⟩) (by simp; omega) (.slice (some ⟨w.heap.size + 1 + 1 + 1, 0, none⟩) t.labels.length t.labels.length))
 refine (toEdgeS_any _ _ _ _ he (SliceK.below H2.out HB2.out)).mono ?_
 rintro e w2 ⟨rfl, hb2, hs2, ho2⟩
 have C2 := Lib.hid ((B2.out.set 2 (.slice (some ⟨w.heap.size + 1 + 1 + 1, 0, none⟩) t.labels.length t.labels.length)).below hb2)
 have C1 := Lib.hid ((B1.out.setOther ⟨w.heap.size + 1 + 1, 2, none⟩ (.slice (some ⟨w.heap.size + 1 + 1 + 1, 0, none⟩) t.labels.length t.labels.length) (by simp)).below hb2)
 have HB3 := Lib.hid (HB2.out.trans (hb2.mono (B' := w.heap.size) (by simp; omega)))
 have HO1' := Lib.hid (owns_below (owns_setOther HO1.out ⟨w.heap.size + 1 + 1, 2, none⟩ (.slice (some ⟨w.heap.size + 1 + 1 + 1, 0, none⟩) t.labels.length t.labels.length) (by simp [Value.ownBlock])) hb2)
 have HO2 := Lib.hid ho2
 simp only [World.size_setCell] at hs2 HO2
 clear hb2 ho2 c2 f2 B1 B2 HB1 HO1 b3 B0
 have d0 := C2.out.cell 0 rfl
 have d1 := C2.out.cell 1 rfl
 have d2 := C2.out.cell 2 rfl
 have d3 := C2.out.cell 3 rfl
 have f3 := C2.out.frozen 3
 have e0 := C1.out.cell 0 rfl
 have e1 := C1.out.cell 1 rfl
 have e2 := C1.out.cell 2 rfl
 have e3 := C1.out.cell 3 rfl
 have g0 := C1.out.frozen 0
 have g1 := C1.out.frozen 1
 have g2 := C1.out.frozen 2
 have g3 := C1.out.frozen 3
 simp only [World.size_setCell]
 go_wp2_with fail
 refine bodyPost_ret (v := .agg #[.int .i64 t.states, .int .i64 t.initial, .slice (some ⟨w.heap.size + 1 + 1 + 1, 0, none⟩) t.labels.length t.labels.length, .slice (some ⟨w1.heap.size, 0, none⟩) t.edges.length t.edges.length])
  (by simp [results, Tryz.results6, go_sem, e0, e1, e2, e3]) rfl ⟨w.heap.size + 1 + 1 + 1, w1.heap.size, rfl, ?_, by omega, by omega, by simp; omega, ?_, ?_⟩
 ·exact ((((HB3.out.setCell (by simp; omega) _).setCell (by simp) _).setCell (by simp) _).setCell (by simp) _).setCell (by simp) _
 ·obtain ⟨q1, ⟨q2, q3⟩ | ⟨q4, q5, q6, q7, q8, q9⟩⟩ := (owns_setOther (owns_setOther (owns_setOther (owns_setOther (owns_setOther HO1'.out ⟨w.heap.size + 1 + 1, 3, none⟩ (.slice (some ⟨w1.heap.size, 0, none⟩) t.edges.length t.edges.length) (by simp [Value.ownBlock]; try omega)) ⟨w.heap.size + 1, 0, none⟩ (.int .i64 t.states) (by simp [Value.ownBlock]; try omega)) ⟨w.heap.size + 1, 1, none⟩ (.int .i64 t.initial) (by simp [Value.ownBlock]; try omega)) ⟨w.heap.size + 1, 2, none⟩ (.slice (some ⟨w.heap.size + 1 + 1 + 1, 0, none⟩) t.labels.length t.labels.length) (by simp [Value.ownBlock]; try omega)) ⟨w.heap.size + 1, 3, none⟩ (.slice (some ⟨w1.heap.size, 0, none⟩) t.edges.length t.edges.length) (by simp [Value.ownBlock]; try omega))
  ·simp at q2
  ·exact ⟨q1, .inr ⟨q4, q5, q6, q7, by omega, q9⟩⟩
 ·exact owns_setOther (owns_setOther (owns_setOther (owns_setOther (owns_setOther HO2.out _ _ (by simp [Value.ownBlock]; try omega)) _ _ (by simp [Value.ownBlock]; try omega)) _ _ (by simp [Value.ownBlock]; try omega)) _ _ (by simp [Value.ownBlock]; try omega)) _ _ (by simp [Value.ownBlock]; try omega)

end Go.Proofs.YtmhpfmanagbggaaGreatDoor

namespace Go.Proofs.YtmhpfmanagbggaaGreatDoor
open Go Go.RowKit

def SomeText (w : World) (e : Ending) (w' : World) : Prop := ∃ s, e = .returned (.string s) ∧ Below w.heap.size w w'

/-- A text out of one digit's byte. -/
theorem digit_text (w : World) (n : Int) (_h0 : 0 ≤ n) :
  (convert 127 9 (.slice (some ⟨w.heap.size, 0, none⟩) 1 1)).run Tryz.prog (w.alloc (.cells #[.int .u8 (48 + n % 10)] 5)) = .ok (.string ⟨#[UInt8.ofNat (48 + n % 10).toNat]⟩) (w.alloc (.cells #[.int .u8 (48 + n % 10)] 5)) := by
 refine run_convert_bytes_back (P := Tryz.prog) _ 127 9 5 ⟨w.heap.size, 0, none⟩ 1 [UInt8.ofNat (48 + n % 10).toNat] Tryz.underlying127 Tryz.underlying5 Tryz.underlying9 ?_
 intro j hj
 obtain rfl : j = 0 := by simpa using hj
 simp [Addr.add]
 omega

set_option maxRecDepth 100000 in
set_option maxHeartbeats 400000 in
theorem markText_any (k : Int) (w : World) (h1 : 0 ≤ k) (h2 : k ≤ 1000000000) : Calls Tryz.prog 54 #[.int .i64 k] w (SomeText w) := by
 by_cases h0 : k ≤ 0
 ·go_enter Tryz.func54, Tryz.ntmps54
  go_wp2
  go_ret
  exact ⟨_, rfl, Below.refl _ _⟩
 ·go_enter Tryz.func54, Tryz.ntmps54
  go_wp2
  go_loopw [0, 3] (fun q s wr => ∃ (n : Int) (t : ByteArray), 0 ≤ n ∧ t.size + n ≤ 1000000000 ∧ q = .int .i64 n ∧ s = .string t ∧ Below w.heap.size w wr) (fun q _ _ => (intOf q).toNat)
  case atStart => exact ⟨_, _, by omega, by show ((0 : Nat) : Int) + k ≤ _; omega, rfl, rfl, Below.refl _ _⟩
  case round =>
   obtain ⟨n, t, hn, hn2, rfl, rfl, hbl⟩ := hrel
   by_cases hp : 0 < n
   ·have kc := digit_text wr n hn
    go_wp2
    go_roundw
    case rel =>
     have hz : (ByteArray.mk #[UInt8.ofNat (48 + n % 10).toNat] ++ t).size = 1 + t.size := by rw [ByteArray.size_append]; rfl
     exact ⟨_, _, by omega, by rw [hz]; omega, rfl, rfl, hbl.alloc hbl.size _⟩
    case measure => simp [intOf]; omega
   ·go_wp2
    go_ret
    exact ⟨_, rfl, hbl⟩



/-- What a function that marks a slice does: it returns the next mark, and turns no block but the slice's own. -/
def Marked (w : World) (v : Value) (r : Int) (C : World → Prop) (e : Ending) (w' : World) : Prop := e = .returned (.int .i64 r) ∧ w.grownBy w' v.ownBlock ∧ C w'
def MarkedIn (lo hi : Nat) (w : World) (r : Int) (e : Ending) (w' : World) : Prop := e = .returned (.int .i64 r) ∧ Turns lo hi w w'

end Go.Proofs.YtmhpfmanagbggaaGreatDoor

namespace Go.Proofs.YtmhpfmanagbggaaGreatDoor
open Go Go.RowKit

set_option maxRecDepth 100000 in
set_option maxHeartbeats 400000 in
theorem markStringS_any (lo hi b n cap : Nat) (cs : List Value) (k : Int) (w : World) (h1 : 0 ≤ k) (h2 : k + n ≤ 1000000000) (hb1 : lo ≤ b) (hb2 : b < hi) (hv : w.ownsRow lo 9 1 (.slice (some ⟨b, 0, none⟩) n cap) n cs) :
  Calls Tryz.prog 24 #[.slice (some ⟨b, 0, none⟩) n cap, .int .i64 k] w (MarkedIn lo hi w (k + n)) := by
 have HV := Lib.hid hv
 clear hv
 go_enter Tryz.func24, Tryz.ntmps24
 go_wp2
 go_loopw [1, 5] (fun q i wr => ∃ (j : Nat) (cs : List Value), j ≤ n ∧ q = .int .i64 (k + j) ∧ i = .int .i64 j ∧ Turns lo hi w wr ∧ wr.ownsRow lo 9 1 (.slice (some ⟨b, 0, none⟩) n cap) n cs) (fun _ i _ => n - (intOf i).toNat)
 case atStart => exact ⟨0, cs, Nat.zero_le _, by simp, rfl, turns_refl _ _ _, HV.out⟩
 case round =>
  obtain ⟨j, cs, hj, rfl, rfl, hg, ho⟩ := hrel
  have HG := Lib.hid hg
  have HO := Lib.hid ho
  clear hg ho HV
  by_cases hlt : j < n
  ·go_wp2_with fail
   refine (markText_any _ _ (by omega) (by omega)).mono ?_
   rintro e w1 ⟨s, rfl, hb⟩
   have ho1 := owns_below HO.out hb
   obtain ⟨xc1, c1⟩ := own_cell ho1 (j) (by omega)
   have f1 := ho1.frozenAt j
   have HO2 := Lib.hid (ho1.stored j (.string s)).1
   have HB := Lib.hid hb
   clear ho1 hb
   go_wp2
   go_roundw
   case rel => exact ⟨j + 1, _, by omega, by go_num, by go_num, turns_trans (turns_trans HG.out (turns_below HB.out)) (turns_set _ _ _ hb1 hb2), HO2.out⟩
   case measure => simp [intOf]; omega
  ·go_wp2
   go_ret
   obtain rfl : j = n := by omega
   exact ⟨rfl, HG.out⟩

set_option maxRecDepth 100000 in
set_option maxHeartbeats 1000000 in
theorem markEdgeS_any (lo hi b n cap : Nat) (cs : List Value) (k : Int) (w : World) (h1 : 0 ≤ k) (h2 : k + 3 * n ≤ 1000000000) (hb1 : lo ≤ b) (hb2 : b < hi) (hv : w.ownsRow lo 67 3 (.slice (some ⟨b, 0, none⟩) n cap) n cs) :
  Calls Tryz.prog 25 #[.slice (some ⟨b, 0, none⟩) n cap, .int .i64 k] w (MarkedIn lo hi w (k + 3 * n)) := by
 have HV := Lib.hid hv
 clear hv
 go_enter Tryz.func25, Tryz.ntmps25
 go_wp2
 go_loopw [1, 5] (fun q i wr => ∃ (j : Nat) (cs : List Value), j ≤ n ∧ q = .int .i64 (k + 3 * j) ∧ i = .int .i64 j ∧ Turns lo hi w wr ∧ wr.ownsRow lo 67 3 (.slice (some ⟨b, 0, none⟩) n cap) n cs) (fun _ i _ => n - (intOf i).toNat)
 case atStart => exact ⟨0, cs, Nat.zero_le _, by simp, rfl, turns_refl _ _ _, HV.out⟩
 case round =>
  obtain ⟨j, cs, hj, rfl, rfl, hg, ho⟩ := hrel
  have HG := Lib.hid hg
  clear hg HV
  by_cases hlt : j < n
  ·obtain ⟨xc0, c0⟩ := own_cell ho (j * 3) (by omega)
   have s0 := (ho.stored (j * 3) (.int .i64 (k + 3 * j))).1
   obtain ⟨xc1, c1⟩ := own_cell s0 (j * 3 + 1) (by omega)
   have s1 := (s0.stored (j * 3 + 1) (.int .i64 (k + 3 * j + 1))).1
   obtain ⟨xc2, c2⟩ := own_cell s1 (j * 3 + 2) (by omega)
   have HO := Lib.hid (s1.stored (j * 3 + 2) (.int .i64 (k + 3 * j + 1 + 1))).1
   obtain ⟨xg1, g1⟩ := own_cell ho (j * 3 + 1) (by omega)
   obtain ⟨xg2, g2⟩ := own_cell ho (j * 3 + 2) (by omega)
   have f0 := ho.frozenAt (j * 3)
   have f1 := ho.frozenAt (j * 3 + 1)
   have f2 := ho.frozenAt (j * 3 + 2)
   clear ho s0 s1
   go_wp2
   go_roundw
   case rel => exact ⟨j + 1, _, by omega, by go_num, by go_num, turns_trans (turns_trans (turns_trans HG.out (turns_set _ _ _ hb1 hb2)) (turns_set _ _ _ hb1 hb2)) (turns_set _ _ _ hb1 hb2), HO.out⟩
   case measure => simp [intOf]; omega
  ·go_wp2
   go_ret
   obtain rfl : j = n := by omega
   exact ⟨rfl, HG.out⟩

set_option maxHeartbeats 1000000 in
theorem markLts_any (lo hi b1 b2 n1 n2 : Nat) (x y : Int) (cs1 cs2 : List Value) (k : Int) (w : World) (h1 : 0 ≤ k) (h2 : k + n1 + 3 * n2 ≤ 1000000000) (hb1 : lo ≤ b1) (hb2 : b1 < hi) (hb3 : lo ≤ b2) (hb4 : b2 < hi) (hhi : hi ≤ w.heap.size) (hne : b1 ≠ b2)
  (hv1 : w.ownsRow lo 9 1 (.slice (some ⟨b1, 0, none⟩) n1 n1) n1 cs1) (hv2 : w.ownsRow lo 67 3 (.slice (some ⟨b2, 0, none⟩) n2 n2) n2 cs2) :
  Calls Tryz.prog 10 #[.agg #[.int .i64 x, .int .i64 y, .slice (some ⟨b1, 0, none⟩) n1 n1, .slice (some ⟨b2, 0, none⟩) n2 n2], .int .i64 k] w (MarkedIn lo hi w (k + n1 + 3 * n2)) := by
 have V1 := Lib.hid hv1
 have V2 := Lib.hid hv2
 have HN := Lib.hid hne
 clear hv1 hv2 hne
 go_enter Tryz.func10, Tryz.ntmps10
 go_wp2_with fail
 refine (markStringS_any b1 (b1 + 1) b1 n1 n1 cs1 _ _ h1 (by omega) (Nat.le_refl _) (Nat.lt_succ_self _) ?_).mono ?_
 ·have := owns_below V1.out ((Below.refl _ w).alloc (Nat.le_refl _) (.cells #[.int .i64 x, .int .i64 y, .slice (some ⟨b1, 0, none⟩) n1 n1, .slice (some ⟨b2, 0, none⟩) n2 n2] 29))
  exact own_base this
 rintro e w1 ⟨rfl, ht1⟩
 have A := Lib.hid ((Blk.new w [.int .i64 x, .int .i64 y, .slice (some ⟨b1, 0, none⟩) n1 n1, .slice (some ⟨b2, 0, none⟩) n2 n2] 29).turns ht1 (by omega))
 have c3 := A.out.cell 3 rfl
 have T1 : Hid (Turns lo hi w w1) := turns_trans (turns_below ((Below.refl _ w).alloc (Nat.le_refl _) _)) (turns_wide ht1 (by omega) (by omega))
 have W2 := Lib.hid (owns_turns (owns_below V2.out ((Below.refl _ w).alloc (Nat.le_refl _) _)) ht1 (fun b e => by simp [Value.ownBlock] at e; have := HN.out; omega))
 clear ht1
 go_wp2_with fail
 refine (markEdgeS_any lo hi b2 n2 n2 cs2 _ _ (by omega) (by omega) hb3 hb4 W2.out).mono ?_
 rintro e w2 ⟨rfl, ht2⟩
 have T2 := Lib.hid ht2
 clear ht2
 go_wp2_with fail
 go_ret
 exact ⟨rfl, turns_trans T1.out T2.out⟩

end Go.Proofs.YtmhpfmanagbggaaGreatDoor

namespace Go.Proofs.YtmhpfmanagbggaaGreatDoor
open Go Go.RowKit

set_option maxHeartbeats 400000 in
theorem eqInt64S_same (va vb : Value) (lo lo' : Nat) (xs : List Int) (w : World) (hva : SliceK 1 encI lo w va xs) (hvb : SliceK 1 encI lo' w vb xs) :
  Calls Tryz.prog 21 #[va, vb] w fun e w' => e = .returned (.bool true) ∧ Below w.heap.size w w' := by
 obtain ⟨a, ca, rfl, hna, hca, ha⟩ := hva
 obtain ⟨b, cb, rfl, hnb, hcb, hb⟩ := hvb
 go_enter Tryz.func21, Tryz.ntmps21
 go_wp2
 go_loopw [5] (fun i wr => ∃ k : Nat, k ≤ xs.length ∧ i = .int .i64 k ∧ Below w.heap.size w wr) (fun i _ => xs.length - (intOf i).toNat)
 case atStart => exact ⟨0, Nat.zero_le _, rfl, Below.refl _ _⟩
 case round =>
  obtain ⟨k, hk, rfl, hbl⟩ := hrel
  by_cases hlt : k < xs.length
  ·obtain ⟨b1, o1, rfl, -, h1, c1⟩ := ha.one hlt
   obtain ⟨b2, o2, rfl, -, h2, c2⟩ := hb.one hlt
   simp only [encI, List.getElem?_cons_zero] at c1 c2
   replace c1 := keeps hbl h1 c1
   replace c2 := keeps hbl h2 c2
   clear ha hb
   go_wp2
   go_quiet (fail)
   go_wp2
   go_roundw
   case rel => exact ⟨k + 1, by omega, by go_num, drews hbl _⟩
   case measure => simp [intOf]; omega
  ·clear ha hb
   go_wp2
   go_ret
   exact ⟨rfl, hbl⟩

end Go.Proofs.YtmhpfmanagbggaaGreatDoor

namespace Go.Proofs.YtmhpfmanagbggaaGreatDoor
open Go Go.RowKit

set_option maxHeartbeats 1000000 in
theorem eqMonitor_same (lo lo' : Nat) (p : Mon) (lv ev mv lv2 ev2 mv2 : Value) (w : World) (hp : MonIn lo w lv ev mv p) (hq : MonIn lo' w lv2 ev2 mv2 p) :
  Calls Tryz.prog 8 #[.agg #[.int .i64 p.sys.states, .int .i64 p.sys.initial, lv, ev, mv], .agg #[.int .i64 p.sys.states, .int .i64 p.sys.initial, lv2, ev2, mv2]] w fun e w' => e = .returned (.bool true) ∧ Below w.heap.size w w' := by
 obtain ⟨n0, hn0⟩ : ∃ n0, n0 = w.heap.size := ⟨_, rfl⟩
 obtain ⟨W, hW⟩ : ∃ W, W = (w.alloc (.cells #[.int .i64 p.sys.states, .int .i64 p.sys.initial, lv, ev, mv] 32)).alloc (.cells #[.int .i64 p.sys.states, .int .i64 p.sys.initial, lv2, ev2, mv2] 32) := ⟨_, rfl⟩
 have hbW : Below w.heap.size w W := by rw [hW]; exact ((Below.refl _ _).alloc (Nat.le_refl _) _).alloc (by simp) _
 have B0 : Blk W n0 [.int .i64 p.sys.states, .int .i64 p.sys.initial, lv, ev, mv] 32 := by
  rw [hW, hn0]; exact (Blk.new w [.int .i64 p.sys.states, .int .i64 p.sys.initial, lv, ev, mv] _).alloc _
 have B1 : Blk W (n0 + 1) [.int .i64 p.sys.states, .int .i64 p.sys.initial, lv2, ev2, mv2] 32 := by
  rw [hW, hn0]
  have := Blk.new (w.alloc (.cells #[.int .i64 p.sys.states, .int .i64 p.sys.initial, lv, ev, mv] 32)) [.int .i64 p.sys.states, .int .i64 p.sys.initial, lv2, ev2, mv2] 32
  rw [World.size_alloc] at this
  exact this
 have HP := Lib.hid (hp.below hbW)
 have HQ := Lib.hid (hq.below hbW)
 have HBW := Lib.hid hbW
 have HB0 := Lib.hid B0
 have HB1 := Lib.hid B1
 have HW := Lib.hid hW
 have HN0 := Lib.hid hn0
 have HC1 := Lib.hid (eqLts_same (.agg #[.int .i64 p.sys.states, .int .i64 p.sys.initial, lv, ev]) (.agg #[.int .i64 p.sys.states, .int .i64 p.sys.initial, lv2, ev2]) lo lo' p.sys W ⟨lv, ev, rfl, HP.out.labels, HP.out.edges⟩ ⟨lv2, ev2, rfl, HQ.out.labels, HQ.out.edges⟩)
 obtain ⟨⟨al, cl, rfl, -⟩, ⟨ae, ce, rfl, -⟩, ⟨am, cm, rfl, -⟩⟩ := hp
 obtain ⟨⟨al2, cl2, rfl, -⟩, ⟨ae2, ce2, rfl, -⟩, ⟨am2, cm2, rfl, -⟩⟩ := hq
 clear hbW B0 B1 hW hn0
 go_enter Tryz.func8, Tryz.ntmps8
 go_wp2_with fail
 rw [← HW.out, ← HN0.out]
 refine Calls.mono HC1.out ?_
 rintro e w1 ⟨rfl, hb1⟩
 have HBB1 := Lib.hid hb1
 have x4 := (HB0.out.below hb1).cell 4 rfl
 have y4 := (HB1.out.below hb1).cell 4 rfl
 clear hb1
 go_wp2_with fail
 refine (eqInt64S_same _ _ lo lo' p.vs _ (HP.out.marks.below HBB1.out) (HQ.out.marks.below HBB1.out)).mono ?_
 rintro e w2 ⟨rfl, hb2⟩
 have HBB2 := Lib.hid (HBB1.out.trans (hb2.mono HBB1.out.size))
 clear hb2 x4 y4
 go_wp2_with fail
 go_ret
 exact ⟨rfl, HBW.out.trans (HBB2.out.mono HBW.out.size)⟩

end Go.Proofs.YtmhpfmanagbggaaGreatDoor

namespace Go.Proofs.YtmhpfmanagbggaaGreatDoor
open Go Go.RowKit

set_option maxRecDepth 100000 in
set_option maxHeartbeats 400000 in
theorem markInt64S_any (lo : Nat) (v : Value) (cs : List Value) (k : Int) (w : World) (h1 : 0 ≤ k) (h2 : k + cs.length ≤ 1000000000) (hv : w.ownsRow lo 2 1 v cs.length cs) :
  Calls Tryz.prog 26 #[v, .int .i64 k] w (Marked w v (k + cs.length) (fun w' => w'.ownsRow lo 2 1 v cs.length (marked k cs cs.length))) := by
 have HV := Lib.hid hv
 rcases hv.2 with ⟨rfl, h0⟩ | ⟨b, cap, cur, rfl, -, -, hcap, hm, -⟩
 ·clear hv
  have hcs : cs = [] := List.eq_nil_of_length_eq_zero h0
  subst hcs
  go_enter Tryz.func26, Tryz.ntmps26
  go_wp2
  go_loop [1, 5] (fun q i => q = .int .i64 k ∧ i = .int .i64 0) (fun _ _ => 0)
  case atStart => exact ⟨rfl, rfl⟩
  case round =>
   obtain ⟨rfl, rfl⟩ := hrel
   go_wp2
   go_ret
   exact ⟨ret_int (by simp), grown_refl _ _, by rw [marked_zero]; exact HV.out⟩
 ·clear hv
  go_enter Tryz.func26, Tryz.ntmps26
  go_wp2
  go_loopw [1, 5] (fun q i wr => ∃ j : Nat, j ≤ cs.length ∧ q = .int .i64 (k + j) ∧ i = .int .i64 j ∧ w.grownBy wr (some b) ∧ wr.ownsRow lo 2 1 (.slice (some ⟨b, 0, none⟩) cs.length cap) cs.length (marked k cs j)) (fun _ i _ => cs.length - (intOf i).toNat)
  case atStart => exact ⟨0, Nat.zero_le _, by simp, rfl, grown_refl _ _, by rw [marked_zero]; exact HV.out⟩
  case round =>
   obtain ⟨j, hj, rfl, rfl, hg, ho⟩ := hrel
   by_cases hlt : j < cs.length
   ·have c1 := ho.cellAt j (by omega)
    rw [marked_get _ _ _ hlt] at c1
    have f1 := ho.frozenAt j
    have ho2 := ho.stored j (.int .i64 (k + j))
    rw [marked_set _ _ _ hlt] at ho2
    have HO := Lib.hid ho2
    have HG := Lib.hid hg
    clear ho ho2 hg HV
    go_wp2
    go_roundw
    case rel => exact ⟨j + 1, by omega, by go_num, by go_num, grown_trans HG.out HO.out.2, HO.out.1⟩
    case measure => simp [intOf]; omega
   ·go_wp2
    go_ret
    obtain rfl : j = cs.length := by omega
    exact ⟨rfl, hg, ho⟩


set_option maxRecDepth 100000 in
set_option maxHeartbeats 400000 in
theorem heldInt64S_same (v : Value) (lo n : Nat) (k : Int) (w : World) (h1 : 0 ≤ k) (h2 : k + n ≤ 1000000000) (hv : SliceK 1 encI lo w v (seqI k n)) :
  Calls Tryz.prog 28 #[v, .int .i64 k] w fun e w' => e = .returned (.int .i64 (k + n)) ∧ w = w' := by
 obtain ⟨a, cap, rfl, hn, hcap, hr⟩ := hv
 have hl : (seqI k n).length = n := by simp [seqI]
 rw [hl] at hn ⊢
 have HL := Lib.hid hl
 clear hl
 go_enter Tryz.func28, Tryz.ntmps28
 go_wp2
 go_loop [1, 5] (fun q i => ∃ j : Nat, j ≤ n ∧ q = .int .i64 (k + j) ∧ i = .int .i64 j) (fun _ i => n - (intOf i).toNat)
 case atStart => exact ⟨0, Nat.zero_le _, by simp, rfl⟩
 case round =>
  obtain ⟨j, hj, rfl, rfl⟩ := hrel
  by_cases hlt : j < n
  ·obtain ⟨b, off, rfl, -, -, c1⟩ := hr.one (i := j) (by rw [HL.out]; exact hlt)
   simp only [encI, List.getElem?_cons_zero, seqI, List.getElem_map, List.getElem_range] at c1
   clear hr
   go_wp2
   go_round
   case rel => exact ⟨j + 1, by omega, by go_num, by go_num⟩
   case measure => simp [intOf]; omega
  ·clear hr
   go_wp2
   go_ret
   obtain rfl : j = n := by omega
   exact ⟨rfl, rfl⟩

end Go.Proofs.YtmhpfmanagbggaaGreatDoor

namespace Go.Proofs.YtmhpfmanagbggaaGreatDoor
open Go Go.RowKit

def mdig : Nat → Int → ByteArray → ByteArray
 | 0, _, t => t
 | f + 1, n, t => if 0 < n then mdig f (n / 10) (⟨#[UInt8.ofNat (48 + n % 10).toNat]⟩ ++ t) else t
/-- The text of a mark. -/
def mtxt (k : Int) : ByteArray := if k ≤ 0 then ⟨#[109, 48]⟩ else ⟨#[109]⟩ ++ mdig 10 k ⟨#[]⟩
theorem mdig_stop (f : Nat) {n : Int} (t : ByteArray) (h : ¬ 0 < n) : mdig f n t = t := by
 cases f with
 | zero => rfl
 | succ f => rw [mdig, if_neg h]

set_option maxRecDepth 100000 in
set_option maxHeartbeats 400000 in
theorem markText_is (k : Int) (w : World) (h1 : 0 ≤ k) (h2 : k ≤ 1000000000) : Calls Tryz.prog 54 #[.int .i64 k] w fun e w' => e = .returned (.string (mtxt k)) ∧ Below w.heap.size w w' := by
 obtain ⟨R, hR⟩ : ∃ R, R = mtxt k := ⟨_, rfl⟩
 rw [← hR]
 by_cases h0 : k ≤ 0
 ·unfold mtxt at hR
  rw [if_pos h0] at hR
  subst hR
  go_enter Tryz.func54, Tryz.ntmps54
  go_wp2
  go_ret
  exact ⟨rfl, Below.refl _ _⟩
 ·unfold mtxt at hR
  rw [if_neg h0] at hR
  obtain ⟨D, hD⟩ : ∃ D, D = mdig 10 k ⟨#[]⟩ := ⟨_, rfl⟩
  rw [← hD] at hR
  have HD := Lib.hid hD
  have HR := Lib.hid hR
  clear hD hR
  go_enter Tryz.func54, Tryz.ntmps54
  go_wp2
  go_loopw [0, 3] (fun q s wr => ∃ (n : Int) (t : ByteArray) (f : Nat), 0 ≤ n ∧ t.size + n ≤ 1000000000 ∧ n < (10 : Int) ^ f ∧ mdig f n t = D ∧ q = .int .i64 n ∧ s = .string t ∧ Below w.heap.size w wr) (fun q _ _ => (intOf q).toNat)
  case atStart => exact ⟨k, ⟨#[]⟩, 10, by omega, by show ((0 : Nat) : Int) + k ≤ _; omega, by show k < 10000000000; omega, HD.out.symm, rfl, rfl, Below.refl _ _⟩
  case round =>
   obtain ⟨n, t, f, hn, hn2, hf, hd, rfl, rfl, hbl⟩ := hrel
   have HDD := Lib.hid hd
   have HF := Lib.hid hf
   clear hd hf
   by_cases hp : 0 < n
   ·have kc := digit_text wr n hn
    go_wp2
    go_roundw
    case rel =>
     have hz : (ByteArray.mk #[UInt8.ofNat (48 + n % 10).toNat] ++ t).size = 1 + t.size := by rw [ByteArray.size_append]; rfl
     have hf := HF.out
     cases f with
     | zero => exfalso; rw [Int.pow_zero] at hf; omega
     | succ f =>
      have hd := HDD.out
      rw [mdig, if_pos hp] at hd
      refine ⟨_, _, f, by omega, by rw [hz]; omega, ?_, hd, rfl, rfl, hbl.alloc hbl.size _⟩
      rw [Int.pow_succ] at hf
      omega
    case measure => simp [intOf]; omega
   ·have HE : Hid (t = D) := by have := HDD.out; rw [mdig_stop f t hp] at this; exact this
    go_wp2
    go_ret
    exact ⟨by rw [HR.out, HE.out]; rfl, hbl⟩

/-- The marks from k on, as texts. -/
def mrkS (k : Int) (n : Nat) : List ByteArray := (List.range n).map fun i => mtxt (k + (i : Nat))
def markedS (k : Int) (cs : List Value) (j : Nat) : List Value := (mrkS k j).map Value.string ++ cs.drop j
theorem mrkS_len (k : Int) (n : Nat) : (mrkS k n).length = n := by simp [mrkS]
theorem markedS_zero (k : Int) (cs : List Value) : markedS k cs 0 = cs := by simp [markedS, mrkS]
theorem markedS_all (k : Int) (cs : List Value) : markedS k cs cs.length = (mrkS k cs.length).map Value.string := by simp [markedS]
theorem markedS_get (k : Int) (cs : List Value) (j : Nat) (h : j < cs.length) : (markedS k cs j)[j]? = some cs[j] := by
 unfold markedS
 rw [List.getElem?_append_right (by simp [mrkS])]
 simp [h, mrkS]
theorem markedS_set (k : Int) (cs : List Value) (j : Nat) (h : j < cs.length) : (markedS k cs j).set j (.string (mtxt (k + (j : Nat)))) = markedS k cs (j + 1) := by
 unfold markedS mrkS
 rw [List.set_append_right _ _ (by simp), List.range_succ, List.map_append, List.map_append, List.append_assoc, List.drop_eq_getElem_cons h]
 simp only [List.length_map, List.length_range, Nat.sub_self, List.set_cons_zero, List.map_cons, List.map_nil, List.cons_append, List.nil_append]

set_option maxRecDepth 100000 in
set_option maxHeartbeats 400000 in
theorem markStringS_is (lo : Nat) (v : Value) (cs : List Value) (k : Int) (w : World) (h1 : 0 ≤ k) (h2 : k + cs.length ≤ 1000000000) (hv : w.ownsRow lo 9 1 v cs.length cs) :
  Calls Tryz.prog 24 #[v, .int .i64 k] w (Marked w v (k + cs.length) (fun w' => w'.ownsRow lo 9 1 v cs.length ((mrkS k cs.length).map Value.string))) := by
 have HV := Lib.hid hv
 rcases hv.2 with ⟨rfl, h0⟩ | ⟨b, cap, cur, rfl, -, -, hcap, hm, -⟩
 ·clear hv
  have hcs : cs = [] := List.eq_nil_of_length_eq_zero h0
  subst hcs
  go_enter Tryz.func24, Tryz.ntmps24
  go_wp2
  go_loop [1, 5] (fun q i => q = .int .i64 k ∧ i = .int .i64 0) (fun _ _ => 0)
  case atStart => exact ⟨rfl, rfl⟩
  case round =>
   obtain ⟨rfl, rfl⟩ := hrel
   go_wp2
   go_ret
   exact ⟨ret_int (by simp), grown_refl _ _, HV.out⟩
 ·clear hv
  obtain ⟨N, hN⟩ : ∃ N, N = cs.length := ⟨_, rfl⟩
  rw [← hN] at h2 hcap HV ⊢
  have HN := Lib.hid hN
  clear hN
  go_enter Tryz.func24, Tryz.ntmps24
  go_wp2
  go_loopw [1, 5] (fun q i wr => ∃ j : Nat, j ≤ N ∧ q = .int .i64 (k + j) ∧ i = .int .i64 j ∧ w.grownBy wr (some b) ∧ wr.ownsRow lo 9 1 (.slice (some ⟨b, 0, none⟩) N cap) N (markedS k cs j)) (fun _ i _ => N - (intOf i).toNat)
  case atStart => exact ⟨0, Nat.zero_le _, by simp, rfl, grown_refl _ _, by rw [markedS_zero]; exact HV.out⟩
  case round =>
   obtain ⟨j, hj, rfl, rfl, hg, ho⟩ := hrel
   have HG := Lib.hid hg
   have HO := Lib.hid ho
   clear hg ho HV
   by_cases hlt : j < N
   ·go_wp2_with fail
    refine (markText_is _ _ (by omega) (by omega)).mono ?_
    rintro e w1 ⟨rfl, hb⟩
    have hjc : j < cs.length := by rw [← HN.out]; exact hlt
    have ho1 := owns_below HO.out hb
    have c1 := ho1.cellAt j (by omega)
    rw [markedS_get _ _ _ hjc] at c1
    have f1 := ho1.frozenAt j
    have ho2 := ho1.stored j (.string (mtxt (k + j)))
    rw [markedS_set _ _ _ hjc] at ho2
    have HO2 := Lib.hid ho2
    have HB := Lib.hid (grown_below hb (some b))
    clear ho1 ho2 hb
    go_wp2
    go_roundw
    case rel => exact ⟨j + 1, by omega, by go_num, by go_num, grown_trans (grown_trans HG.out HB.out) HO2.out.2, HO2.out.1⟩
    case measure => simp [intOf]; omega
   ·go_wp2
    go_ret
    obtain rfl : j = N := by omega
    refine ⟨rfl, HG.out, ?_⟩
    have := HO.out
    rw [HN.out, markedS_all, ← HN.out] at this
    exact this

set_option maxRecDepth 100000 in
set_option maxHeartbeats 400000 in
theorem heldStringS_is (v : Value) (lo n : Nat) (k : Int) (w : World) (h1 : 0 ≤ k) (h2 : k + n ≤ 1000000000) (hv : SliceK 1 encS lo w v (mrkS k n)) :
  Calls Tryz.prog 55 #[v, .int .i64 k] w fun e w' => e = .returned (.int .i64 (k + n)) ∧ Below w.heap.size w w' := by
 obtain ⟨a, cap, rfl, hn, hcap, hr⟩ := hv
 have hl := mrkS_len k n
 rw [hl] at hn ⊢
 have HL := Lib.hid hl
 have HR := Lib.hid hr
 clear hl hr
 go_enter Tryz.func55, Tryz.ntmps55
 go_wp2
 go_loopw [1, 5] (fun q i wr => ∃ j : Nat, j ≤ n ∧ q = .int .i64 (k + j) ∧ i = .int .i64 j ∧ Below w.heap.size w wr) (fun _ i _ => n - (intOf i).toNat)
 case atStart => exact ⟨0, Nat.zero_le _, by simp, rfl, Below.refl _ _⟩
 case round =>
  obtain ⟨j, hj, rfl, rfl, hb⟩ := hrel
  have HB := Lib.hid hb
  by_cases hlt : j < n
  ·obtain ⟨b, off, rfl, -, hbl, c1⟩ := (HR.out.below hb).one (i := j) (by rw [HL.out]; exact hlt)
   simp only [encS, List.getElem?_cons_zero, mrkS, List.getElem_map, List.getElem_range] at c1
   have l1 := later_cell hbl c1
   have HM := Lib.hid (fun w' => markText_is (k + j) w' (by omega) (by omega))
   clear hb c1
   go_wp2
   refine wp_region_later (by kernel_rfl) (by kernel_rfl) ?_
   repeat (go_big_quiet_step (((go_at_call 54; refine later_call (HM.out _)))))
   refine wpQuiet_nil ?_
   intro _ hw9
   obtain ⟨nl, hw8⟩ := hw9
   subst hw8
   have HB2 := Lib.hid (HB.out.trans (nl.h.mono HB.out.size))
   clear l1
   go_wp2
   go_roundw
   case rel => exact ⟨j + 1, by omega, by go_num, by go_num, HB2.out⟩
   case measure => simp [intOf]; omega
  ·clear hb
   go_wp2
   go_ret
   obtain rfl : j = n := by omega
   exact ⟨rfl, HB.out⟩

end Go.Proofs.YtmhpfmanagbggaaGreatDoor
