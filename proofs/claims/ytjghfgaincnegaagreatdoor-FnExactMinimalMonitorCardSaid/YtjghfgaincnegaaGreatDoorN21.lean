/-
  The reference's MinimalMonitor.
  What the small functions of the package laws compute: the size of the arguments, their copies, their comparison.
  The copies of the arguments that the package laws makes.
  What the functions of the laws that mark do.
  The functions of the laws that mark texts, edges, a system: what they turn.
  The law helper eqInt64S on equal lists.
  The law's helpers on lists of numbers: the size, the copy.
  The law's helpers on monitors: the size, the comparison where they are the same.
-/
import Derived.Test.YtjghfgaincnegaaGreatDoorN18
import Derived.Test.YtjghfgaincnegaaGreatDoorN20
import Derived.Test.YtjghfgaincnegaaGreatDoorN17
import Derived.Test.YtjghfgaincnegaaGreatDoorRows
import Derived.Test.YtjghfgaincnegaaGreatDoorN1
import Derived.BigQuiet
import Derived.Deep.QuietTactic
import Derived.Deep.LoopGhost
import Derived.Test.YtjghfgaincnegaaGreatDoorN6
namespace Go.Proofs.YtjghfgaincnegaaGreatDoor
open Go Go.RowKit

theorem svs_results {w : World} {b : Nat} {v0 v1 v2 v3 v4 : Value} {tmps : Array Value} (hc : tmps.getD 2 undef = .pointer (some ⟨b, 0, none⟩)) (hb : Blk w b [v0, v1, v2, v3, v4] 34) :
  (results Tryz.f6 tmps).run Tryz.prog w = .ok (.tuple #[.agg #[v0, v1, v2, v3, v4], tmps.getD 3 undef]) w := by
 have h0 := hb.cell 0 rfl
 have h1 := hb.cell 1 rfl
 have h2 := hb.cell 2 rfl
 have h3 := hb.cell 3 rfl
 have h4 := hb.cell 4 rfl
 simp only [Array.getD_eq_getD_getElem?] at hc
 simp [results, Tryz.results6, go_sem, hc, h0, h1, h2, h3, h4, Result.andThen]

set_option maxRecDepth 100000 in
set_option maxHeartbeats 4000000 in
theorem specMinimalMonitor_any (lo : Nat) (m : Mon) (lv ev vv : Value) (w : World) (hsh : Short m.sys.labels) (hp : MonIn lo w lv ev vv m) :
  Calls Tryz.prog 6 #[.agg #[.int .i64 m.sys.states, .int .i64 m.sys.initial, lv, ev, vv]] w (RetMinM m w) := by
 obtain ⟨tb, htb⟩ : ∃ tb, tb = w.heap.size := ⟨_, rfl⟩
 obtain ⟨wA, hwA⟩ : ∃ wA, wA = (w.alloc (.cells #[.int .i64 m.sys.states, .int .i64 m.sys.initial, lv, ev, vv] 34)).alloc (.cells #[.int .i64 0, .int .i64 0, .slice none 0 0, .slice none 0 0, .slice none 0 0] 34) := ⟨_, rfl⟩
 have hbA : Below w.heap.size w wA := by rw [hwA]; exact ((Below.refl _ _).alloc (Nat.le_refl _) _).alloc (by simp) _
 have hT : Blk wA tb [.int .i64 m.sys.states, .int .i64 m.sys.initial, lv, ev, vv] 34 := by rw [hwA, htb]; exact (Blk.new w _ _).alloc _
 have hR : Blk wA (tb + 1) [.int .i64 0, .int .i64 0, .slice none 0 0, .slice none 0 0, .slice none 0 0] 34 := by
  have := Blk.new (w.alloc (.cells #[.int .i64 m.sys.states, .int .i64 m.sys.initial, lv, ev, vv] 34)) [.int .i64 0, .int .i64 0, .slice none 0 0, .slice none 0 0, .slice none 0 0] 34
  rw [World.size_alloc, ← htb] at this
  rw [hwA]
  exact this
 have hpa := hp.below hbA
 have HP : Hid (MonPtr lo wA tb m) := ⟨⟨lv, ev, hT.lt, hT.cell 0 rfl, hT.cell 1 rfl, hT.cell 2 rfl, hT.cell 3 rfl, hpa.labels, hpa.edges⟩, vv, hT.cell 4 rfl, hpa.marks⟩
 have HC := Lib.hid (l30Is_any tb lo m wA hsh HP.out)
 have HBA := Lib.hid hbA
 have HR := Lib.hid hR
 have HWA := Lib.hid hwA
 have HTB := Lib.hid htb
 have hle : w.heap.size ≤ tb + 1 := by rw [htb]; omega
 clear hsh hp hwA hbA hT hR htb hpa
 by_cases hv : MonOk m
 ·have HV := Lib.hid hv
  have HVA := Lib.hid (Decides.yes HC.out hv)
  clear hv
  go_enter Tryz.func6, Tryz.ntmps6
  go_wp2_with fail
  rw [← HWA.out, ← HTB.out]
  refine Calls.mono HVA.out ?_
  rintro e w1 ⟨rfl, hb1⟩
  have HB1 := Lib.hid hb1
  have HR1 := Lib.hid (HR.out.below hb1)
  have HD := Lib.hid (l30Minimal_any tb lo m w1 HV.out (HP.out.below hb1))
  clear hb1
  skip
  go_wp2_with fail
  refine Calls.mono HD.out ?_
  rintro e w5 ⟨hb5, st, r, lv5, ev5, vv5, rfl, hms, hown, hvo⟩
  obtain ⟨la5, lc5, rfl, -, -⟩ := owns_slice hown.1
  obtain ⟨ea5, ec5, rfl, -, -⟩ := owns_slice hown.2
  obtain ⟨va5, vc5, rfl, -, -⟩ := owns_slice hvo
  have hs1 : w.heap.size ≤ w1.heap.size := (HBA.out.trans (HB1.out.mono HBA.out.size)).size
  have HB5 := Lib.hid (HBA.out.trans ((HB1.out.trans (hb5.mono HB1.out.size)).mono HBA.out.size))
  have HR5 := Lib.hid (HR1.out.below hb5)
  have HO5 := Lib.hid (hown.lower hs1)
  have HVO5 := Lib.hid (own_lower hvo hs1)
  have HMS := Lib.hid hms
  have r0 := HR5.out.cell 0 rfl
  have r1 := HR5.out.cell 1 rfl
  have r2 := HR5.out.cell 2 rfl
  have r3 := HR5.out.cell 3 rfl
  have r4 := HR5.out.cell 4 rfl
  have s0 := HR5.out.frozen 0
  have s1 := HR5.out.frozen 1
  have s2 := HR5.out.frozen 2
  have s3 := HR5.out.frozen 3
  have s4 := HR5.out.frozen 4
  clear hb5 hms hown hvo HD
  go_wp2
  refine bodyPost_ret (svs_results rfl (((((HR5.out.set 0 _).set 1 _).set 2 _).set 3 _).set 4 _)) rfl ?_
  refine ⟨(((((HB5.out).setCell hle _).setCell hle _).setCell hle _).setCell hle _).setCell hle _, ⟨r, st.rows.map (bkOf m.vs)⟩, 0, _, _, .slice va5 st.rows.length vc5, rfl, .inr ⟨HV.out, ⟨st, HMS.out, rfl⟩, rfl⟩, ⟨?_, ?_⟩, ?_⟩
  ·exact own5M HR5.out HO5.out.1 (by decide)
  ·exact own5M HR5.out HO5.out.2 (by decide)
  ·show World.ownsRow _ _ _ _ _ (st.rows.map (bkOf m.vs)).length _
   rw [List.length_map]
   exact own5M HR5.out HVO5.out (by decide)
 ·have HV := Lib.hid hv
  have HVA := Lib.hid (Decides.no HC.out hv)
  clear hv
  go_enter Tryz.func6, Tryz.ntmps6
  go_wp2_with fail
  rw [← HWA.out, ← HTB.out]
  refine Calls.mono HVA.out ?_
  rintro e w1 ⟨rfl, hb1⟩
  have HB1 := Lib.hid hb1
  have HR1 := Lib.hid (HR.out.below hb1)
  have r0 := HR1.out.cell 0 rfl
  have r1 := HR1.out.cell 1 rfl
  have r2 := HR1.out.cell 2 rfl
  have r3 := HR1.out.cell 3 rfl
  have r4 := HR1.out.cell 4 rfl
  have s0 := HR1.out.frozen 0
  have s1 := HR1.out.frozen 1
  have s2 := HR1.out.frozen 2
  have s3 := HR1.out.frozen 3
  have s4 := HR1.out.frozen 4
  clear hb1
  skip
  go_wp2
  refine bodyPost_ret (svs_results rfl (((((HR1.out.set 0 _).set 1 _).set 2 _).set 3 _).set 4 _)) rfl ?_
  exact minm_none ((((((HBA.out.trans (HB1.out.mono HBA.out.size)).setCell hle _).setCell hle _).setCell hle _).setCell hle _).setCell hle _) HV.out

end Go.Proofs.YtjghfgaincnegaaGreatDoor

namespace Go.Proofs.YtjghfgaincnegaaGreatDoor
open Go Go.RowKit

def szS (ss : List ByteArray) (left : Int) : Int :=
 match ss with
 | [] => left
 | s :: r => if left - s.size < 0 then -1 else szS r (left - s.size)

theorem szS_lt (ss : List ByteArray) (left : Int) (h : 0 ≤ left) : -1 ≤ szS ss left ∧ szS ss left ≤ left := by
 induction ss generalizing left with
 | nil => simp [szS]; omega
 | cons s r ih =>
  unfold szS
  split
  ·omega
  ·have := ih (left - s.size) (by omega); omega

/-- What szStringS returns. -/
def szSS (ss : List ByteArray) (left : Int) : Int := if left - ss.length < 0 then -1 else szS ss (left - ss.length)
theorem szSS_neg {ss : List ByteArray} {left : Int} (h : left - ss.length < 0) : szSS ss left = -1 := by unfold szSS; rw [if_pos h]
theorem szSS_pos {ss : List ByteArray} {left : Int} (h : ¬ left - ss.length < 0) : szSS ss left = szS ss (left - ss.length) := by unfold szSS; rw [if_neg h]
def szN (n : Nat) (left : Int) : Int := if left - n < 0 then -1 else left - n
theorem szN_neg {n : Nat} {left : Int} (h : left - n < 0) : szN n left = -1 := by unfold szN; rw [if_pos h]
theorem szN_pos {n : Nat} {left : Int} (h : ¬ left - n < 0) : szN n left = left - n := by unfold szN; rw [if_neg h]

set_option maxHeartbeats 400000 in
theorem szStringS_any (v : Value) (lo : Nat) (ss : List ByteArray) (left : Int) (w : World)
   (h1 : 0 ≤ left) (h2 : left ≤ 1048576) (hs : StrsOk ss) (hv : SliceK 1 encS lo w v ss) :
  Calls Tryz.prog 28 #[v, .int .i64 left] w fun e w' => e = .returned (.int .i64 (szSS ss left)) ∧ w = w' := by
 have hS := Lib.hid hs
 clear hs
 obtain ⟨a, cap, rfl, hn, hcap, hr⟩ := hv
 by_cases hl : left - ss.length < 0
 ·go_enter Tryz.func28, Tryz.ntmps28
  go_wp2
  go_ret
  exact ⟨ret_int (szSS_neg hl).symm, rfl⟩
 ·go_enter Tryz.func28, Tryz.ntmps28
  go_wp2
  go_loop [1, 5] (fun t i => ∃ k : Nat, ∃ l : Int, k ≤ ss.length ∧ i = .int .i64 k ∧ t = .int .i64 l ∧ 0 ≤ l ∧ l ≤ 1048576 ∧ szS (ss.drop k) l = szS ss (left - ss.length)) (fun _ i => ss.length - (intOf i).toNat)
  case atStart => exact ⟨0, _, Nat.zero_le _, rfl, rfl, by omega, by omega, rfl⟩
  case round =>
   obtain ⟨k, l, hk, rfl, rfl, hl0, hl1, hs⟩ := hrel
   have hs' := Lib.hid hs
   clear hs
   by_cases hlt : k < ss.length
   ·have hsk := hS.out _ (List.getElem_mem hlt)
    obtain ⟨b, off, rfl, -, -, hck⟩ := hr.one hlt
    simp only [encS, List.getElem?_cons_zero] at hck
    clear hr
    have hd : Hid (szS (ss.drop k) l = if l - (ss[k]).size < 0 then -1 else szS (ss.drop (k+1)) (l - (ss[k]).size)) := by
     unfold Hid; rw [List.drop_eq_getElem_cons hlt, szS]
    by_cases hz : l - (ss[k]).size < 0
    ·go_wp2
     go_ret
     refine ⟨?_, rfl⟩
     exact ret_int (by rw [szSS_pos (by omega), ← hs'.out, hd.out, if_pos (by omega)])
    ·go_wp2
     go_round
     case rel => exact ⟨k+1, _, by omega, by go_num, rfl, by omega, by omega, by rw [← hs'.out, hd.out, if_neg (by omega)]⟩
     case measure => simp [intOf]; omega
   ·clear hr
    go_wp2
    go_ret
    refine ⟨?_, rfl⟩
    have : k = ss.length := by omega
    exact ret_int (by rw [szSS_pos (by omega), ← hs'.out]; simp [this, szS])

theorem szEdgeS_any (a : Option Addr) (cap n : Nat) (left : Int) (w : World) (h1 : 0 ≤ left) (h2 : left ≤ 1048576) (hn : n ≤ cap) (hcap : cap ≤ 9223372036854775807) :
  Calls Tryz.prog 29 #[.slice a n cap, .int .i64 left] w fun e w' => e = .returned (.int .i64 (szN n left)) ∧ w = w' := by
 by_cases hl : left - n < 0
 ·go_enter Tryz.func29, Tryz.ntmps29
  go_wp2
  go_ret
  exact ⟨ret_int (szN_neg hl).symm, rfl⟩
 ·go_enter Tryz.func29, Tryz.ntmps29
  go_wp2
  go_ret
  exact ⟨ret_int (szN_pos (by omega)).symm, rfl⟩

/-- What szLts returns. -/
def szL (t : Lts) (left : Int) : Int :=
 if szSS t.labels left < 0 then -1
 else if szN t.edges.length (szSS t.labels left) < 0 then -1
 else szN t.edges.length (szSS t.labels left)

theorem szSS_le (ss : List ByteArray) (left : Int) (h : 0 ≤ left) : -1 ≤ szSS ss left ∧ szSS ss left ≤ left := by
 unfold szSS
 split
 ·omega
 ·have := szS_lt ss (left - ss.length) (by omega); omega

set_option maxHeartbeats 400000 in
theorem szLts_any (v : Value) (lo : Nat) (t : Lts) (left : Int) (w : World)
   (h1 : 0 ≤ left) (h2 : left ≤ 1048576) (hs : StrsOk t.labels) (hv : LtsAt lo w v t) :
  Calls Tryz.prog 12 #[v, .int .i64 left] w
   fun e w' => e = .returned (.int .i64 (szL t left)) ∧ Below w.heap.size w w' := by
 have hb := szSS_le t.labels left h1
 have hS := Lib.hid hs
 clear hs
 obtain ⟨lv, ev, rfl, hl, ae, ce, rfl, hn, hcap, hr⟩ := hv
 go_enter Tryz.func12, Tryz.ntmps12
 go_wp2_with fail
 refine (szStringS_any _ _ _ _ _ h1 h2 hS.out (hl.below ((Below.refl _ w).alloc (Nat.le_refl _) _))).mono ?_
 clear hl hr
 rintro e w' ⟨rfl, rfl⟩
 have hf : Hid (szL t left = if szSS t.labels left < 0 then -1 else if szN t.edges.length (szSS t.labels left) < 0 then -1 else szN t.edges.length (szSS t.labels left)) := rfl
 generalize szSS t.labels left = q at *
 by_cases hl : q < 0
 ·go_wp2_with fail
  go_ret
  exact ⟨ret_int (by rw [hf.out, if_pos hl]), (Below.refl _ _).alloc (Nat.le_refl _) _⟩
 ·go_wp2_with fail
  refine (szEdgeS_any _ _ _ _ _ (by omega) (by omega) hn hcap).mono ?_
  rintro e w' ⟨rfl, rfl⟩
  generalize szN t.edges.length q = q2 at *
  by_cases hl2 : q2 < 0
  ·go_wp2_with fail
   go_ret
   exact ⟨ret_int (by rw [hf.out, if_neg (by omega), if_pos (by omega)]), (Below.refl _ _).alloc (Nat.le_refl _) _⟩
  ·go_wp2_with fail
   go_ret
   exact ⟨ret_int (by rw [hf.out, if_neg (by omega), if_neg (by omega)]), (Below.refl _ _).alloc (Nat.le_refl _) _⟩

set_option maxHeartbeats 400000 in
theorem eqStringS_same (va vb : Value) (lo lo' : Nat) (xs : List ByteArray) (w : World) (hva : SliceK 1 encS lo w va xs) (hvb : SliceK 1 encS lo' w vb xs) :
  Calls Tryz.prog 36 #[va, vb] w fun e w' => e = .returned (.bool true) ∧ Below w.heap.size w w' := by
 obtain ⟨a, ca, rfl, hna, hca, ha⟩ := hva
 obtain ⟨b, cb, rfl, hnb, hcb, hb⟩ := hvb
 go_enter Tryz.func36, Tryz.ntmps36
 go_wp2
 go_loopw [5] (fun i wr => ∃ k : Nat, k ≤ xs.length ∧ i = .int .i64 k ∧ Below w.heap.size w wr) (fun i _ => xs.length - (intOf i).toNat)
 case atStart => exact ⟨0, Nat.zero_le _, rfl, Below.refl _ _⟩
 case round =>
  obtain ⟨k, hk, rfl, hbl⟩ := hrel
  by_cases hlt : k < xs.length
  ·obtain ⟨b1, o1, rfl, -, h1, c1⟩ := ha.one hlt
   obtain ⟨b2, o2, rfl, -, h2, c2⟩ := hb.one hlt
   simp only [encS, List.getElem?_cons_zero] at c1 c2
   replace c1 := keeps hbl h1 c1
   replace c2 := keeps hbl h2 c2
   clear ha hb
   go_wp2
   go_quiet (fail)
   go_wp2
   go_roundw
   case rel => exact ⟨k + 1, by omega, by go_num, drews hbl _⟩
   case measure => simp [intOf]; omega
  ·clear ha hb
   go_wp2
   go_ret
   exact ⟨rfl, hbl⟩

set_option maxHeartbeats 400000 in
theorem eqEdge_same (x y z : Int) (w : World) :
  Calls Tryz.prog 83 #[.agg #[.int .i64 x, .int .i64 y, .int .i64 z], .agg #[.int .i64 x, .int .i64 y, .int .i64 z]] w fun e w' => e = .returned (.bool true) ∧ Below w.heap.size w w' := by
 go_enter Tryz.func83, Tryz.ntmps83
 go_wp2
 go_ret
 exact ⟨rfl, ((Below.refl _ _).alloc (Nat.le_refl _) _).alloc (by simp) _⟩

set_option maxHeartbeats 400000 in
theorem eqEdgeS_same (va vb : Value) (lo lo' : Nat) (xs : List Edge) (w : World) (hva : SliceK 3 encE lo w va xs) (hvb : SliceK 3 encE lo' w vb xs) :
  Calls Tryz.prog 37 #[va, vb] w fun e w' => e = .returned (.bool true) ∧ Below w.heap.size w w' := by
 obtain ⟨a, ca, rfl, hna, hca, ha⟩ := hva
 obtain ⟨b, cb, rfl, hnb, hcb, hb⟩ := hvb
 go_enter Tryz.func37, Tryz.ntmps37
 go_wp2
 go_loopw [5] (fun i wr => ∃ k : Nat, k ≤ xs.length ∧ i = .int .i64 k ∧ Below w.heap.size w wr) (fun i _ => xs.length - (intOf i).toNat)
 case atStart => exact ⟨0, Nat.zero_le _, rfl, Below.refl _ _⟩
 case round =>
  obtain ⟨k, hk, rfl, hbl⟩ := hrel
  by_cases hlt : k < xs.length
  ·obtain ⟨b1, o1, rfl, -, h1, c1, c2, c3⟩ := (ha.below hbl).edge hlt
   obtain ⟨b2, o2, rfl, -, h2, c4, c5, c6⟩ := (hb.below hbl).edge hlt
   replace c1 := later_cell h1 c1
   replace c2 := later_cell h1 c2
   replace c3 := later_cell h1 c3
   replace c4 := later_cell h2 c4
   replace c5 := later_cell h2 c5
   replace c6 := later_cell h2 c6
   clear ha hb
   go_wp2
   refine wp_region_later (by kernel_rfl) (by kernel_rfl) ?_
   repeat (go_big_quiet_step ((go_at_call 83; exact later_call (eqEdge_same _ _ _ _))))
   refine wpQuiet_nil ?_
   intro _ hw9
   obtain ⟨nl, hw8⟩ := hw9
   subst hw8
   go_wp2
   go_roundw
   case rel => exact ⟨k + 1, by omega, by go_num, hbl.trans (nl.h.mono hbl.size)⟩
   case measure => simp [intOf]; omega
  ·clear ha hb
   go_wp2
   go_ret
   exact ⟨rfl, hbl⟩

set_option maxHeartbeats 400000 in
theorem eqLts_same (va vb : Value) (lo lo' : Nat) (t : Lts) (w : World) (hva : LtsAt lo w va t) (hvb : LtsAt lo' w vb t) :
  Calls Tryz.prog 16 #[va, vb] w fun e w' => e = .returned (.bool true) ∧ Below w.heap.size w w' := by
 obtain ⟨la, ea, rfl, h1, h2⟩ := hva
 obtain ⟨lb, eb, rfl, h3, h4⟩ := hvb
 have hw0 : ∀ o1 o2, Below w.heap.size w ((w.alloc o1).alloc o2) := fun _ _ => ((Below.refl _ _).alloc (Nat.le_refl _) _).alloc (by simp) _
 have H0 := Lib.hid hw0
 have H1 := Lib.hid h1
 have H2 := Lib.hid h2
 have H3 := Lib.hid h3
 have H4 := Lib.hid h4
 clear hw0
 obtain ⟨_, _, rfl, -⟩ := h1
 obtain ⟨_, _, rfl, -⟩ := h2
 obtain ⟨_, _, rfl, -⟩ := h3
 obtain ⟨_, _, rfl, -⟩ := h4
 go_enter Tryz.func16, Tryz.ntmps16
 go_wp2_with fail
 refine (eqStringS_same _ _ _ _ _ _ (SliceK.below H1.out (H0.out _ _)) (SliceK.below H3.out (H0.out _ _))).mono ?_
 rintro e w1 ⟨rfl, hb1⟩
 obtain ⟨hc1, -⟩ := both hb1
 have hz := hb1.size
 simp only [World.size_alloc] at hz
 go_wp2_with fail
 refine (eqEdgeS_same _ _ _ _ _ _ (SliceK.below H2.out ((H0.out _ _).trans (hb1.mono (by simp; omega)))) (SliceK.below H4.out ((H0.out _ _).trans (hb1.mono (by simp; omega))))).mono ?_
 rintro e w2 ⟨rfl, hb2⟩
 go_wp2_with fail
 go_ret
 exact ⟨rfl, (H0.out _ _).trans ((hb1.mono (by simp; omega)).trans (hb2.mono (by omega)))⟩

end Go.Proofs.YtjghfgaincnegaaGreatDoor

namespace Go.Proofs.YtjghfgaincnegaaGreatDoor
open Go Go.RowKit

theorem info_string : (Tryz.prog.info? 9).map (fun i => (i.zero, i.size, i.bytes)) = some (some (.string ⟨#[]⟩), 1, 16) := by kernel_rfl
theorem info_edge : (Tryz.prog.info? 78).map (fun i => (i.zero, i.size, i.bytes)) = some (some (.agg #[.int .i64 0, .int .i64 0, .int .i64 0]), 3, 24) := by kernel_rfl

def MadeStrs (w : World) (ss : List ByteArray) (e : Ending) (w' : World) : Prop :=
 e = .returned (.slice (some ⟨w.heap.size, 0, none⟩) ss.length ss.length) ∧ Below w.heap.size w w' ∧ w.heap.size < w'.heap.size ∧ w'.ownsRow w.heap.size 9 1 (.slice (some ⟨w.heap.size, 0, none⟩) ss.length ss.length) ss.length (ss.map .string)

set_option maxHeartbeats 400000 in
theorem toStringS_any (v : Value) (lo : Nat) (ss : List ByteArray) (w : World) (hn : ss.length ≤ 1048576) (hv : SliceK 1 encS lo w v ss) :
  Calls Tryz.prog 32 #[v] w (MadeStrs w ss) := by
 obtain ⟨a, ca, rfl, hna, hca, ha⟩ := hv
 obtain ⟨i0, hi, hz0, hz1, hz2⟩ := info_parts info_string
 go_enter Tryz.func32, Tryz.ntmps32
 go_wp2_with (at_make; refine wpList_make_full _ rfl _ _ 22 rfl w.heap.size 9 i0 _ 1 Tryz.underlying22 hi hz0 hz1 .i64 .i64 _ _ ss.length rfl rfl rfl rfl ?_ ?_ ?_ ?_)
 ·rw [hz2]; omega
 ·simp [maxLen]; omega
 ·exact Nat.le_refl _
 ·intro w1 ho hg
  rw [toList_madeCells_one] at ho
  have hb1 : Below w.heap.size w w1 := (Below.refl _ w).grown hg (Nat.le_refl _) (fun _ h => by cases h)
  clear hi hz0 hz1 hz2 i0
  have HO := Lib.hid ho
  clear ho hg
  go_wp2
  go_loopw [4] (fun i wr => ∃ k : Nat, k ≤ ss.length ∧ i = .int .i64 k ∧ Below w.heap.size w wr ∧ wr.ownsRow w.heap.size 9 1 (.slice (some ⟨w.heap.size, 0, none⟩) ss.length ss.length) ss.length ((ss.take k).map .string ++ List.replicate (ss.length - k) (.string ⟨#[]⟩))) (fun i _ => ss.length - (intOf i).toNat)
  case atStart => exact ⟨0, Nat.zero_le _, rfl, hb1, by simpa using HO.out⟩
  case round =>
   obtain ⟨k, hk, rfl, hbl, ho⟩ := hrel
   clear HO hb1
   by_cases hlt : k < ss.length
   ·obtain ⟨b1, o1, rfl, -, h1, c1⟩ := (ha.below hbl).one hlt
    simp only [encS, List.getElem?_cons_zero] at c1
    have c2 := ho.cellAt k (by omega)
    rw [filled_get _ _ _ _ hlt] at c2
    have c3 := ho.frozenAt k
    have ho2 := ho.stored k (.string ss[k])
    rw [filled_set _ _ _ _ hlt] at ho2
    have HO := Lib.hid ho2
    clear ho ho2 ha
    go_wp2
    go_roundw
    case rel => exact ⟨k + 1, by omega, by go_num, hbl.setCell (by exact Nat.le_refl _) _, HO.out.1⟩
    case measure => simp [intOf]; omega
   ·clear ha
    go_wp2
    go_ret
    have hke : k = ss.length := by omega
    subst hke
    exact ⟨rfl, hbl, (ho.lt _ rfl).2, by simpa using ho⟩

def RetEdge (w : World) (x y z : Int) (e : Ending) (w' : World) : Prop := e = .returned (.agg #[.int .i64 x, .int .i64 y, .int .i64 z]) ∧ Below w.heap.size w w'

set_option maxHeartbeats 400000 in
theorem toEdge_any (x y z : Int) (w : World) : Calls Tryz.prog 71 #[.agg #[.int .i64 x, .int .i64 y, .int .i64 z]] w (RetEdge w x y z) := by
 go_enter Tryz.func71, Tryz.ntmps71
 go_wp2
 refine bodyPost_ret (v := .agg #[.int .i64 x, .int .i64 y, .int .i64 z]) (by simp [results, Tryz.results71, go_sem]) rfl ⟨rfl, ?_⟩
 repeat (first | exact Below.refl _ _ | refine Below.setCell ?_ (by simp) _ | refine Below.alloc ?_ (by simp; try omega) _)

def MadeEdges (w : World) (es : List Edge) (e : Ending) (w' : World) : Prop :=
 e = .returned (.slice (some ⟨w.heap.size, 0, none⟩) es.length es.length) ∧ Below w.heap.size w w' ∧ w.heap.size < w'.heap.size ∧ w'.ownsRow w.heap.size 78 3 (.slice (some ⟨w.heap.size, 0, none⟩) es.length es.length) es.length (es.flatMap encE)

set_option maxHeartbeats 1000000 in
theorem toEdgeS_any (v : Value) (lo : Nat) (es : List Edge) (w : World) (hn : es.length ≤ 1048576) (hv : SliceK 3 encE lo w v es) :
  Calls Tryz.prog 33 #[v] w (MadeEdges w es) := by
 obtain ⟨a, ca, rfl, hna, hca, ha⟩ := hv
 obtain ⟨i0, hi, hz0, hz1, hz2⟩ := info_parts info_edge
 go_enter Tryz.func33, Tryz.ntmps33
 go_wp2_with (at_make; refine wpList_make_full _ rfl _ _ 30 rfl w.heap.size 78 i0 _ 3 Tryz.underlying30 hi hz0 hz1 .i64 .i64 _ _ es.length rfl rfl rfl rfl ?_ ?_ ?_ ?_)
 ·rw [hz2]; omega
 ·simp [maxLen]; omega
 ·exact Nat.le_refl _
 ·intro w1 ho hg
  have hb1 : Below w.heap.size w w1 := (Below.refl _ w).grown hg (Nat.le_refl _) (fun _ h => by cases h)
  have ho1 : w1.ownsRow w.heap.size 78 3 (.slice (some ⟨w.heap.size, 0, none⟩) es.length es.length) es.length (List.replicate (es.length * 3) (.int .i64 0)) := by
   have : (madeCells #[.int .i64 0, .int .i64 0, .int .i64 0] (es.length * 3)).toList = List.replicate (es.length * 3) (Value.int .i64 0) := by
    apply List.ext_getElem?
    intro j
    by_cases hj : j < es.length * 3
    ·have h3 : j % 3 < 3 := Nat.mod_lt _ (by omega)
     simp only [madeCells, Array.toList_map, Array.toList_range, List.getElem?_map, List.getElem?_range hj, List.getElem?_replicate, if_pos hj, Option.map_some]
     show some (#[Value.int IntKind.i64 0, Value.int IntKind.i64 0, Value.int IntKind.i64 0][j % 3]!) = _
     generalize j % 3 = q at h3
     match q, h3 with
     | 0, _ => rfl
     | 1, _ => rfl
     | 2, _ => rfl
    ·simp [madeCells, hj]
   rw [this] at ho
   exact ho
  clear hi hz0 hz1 hz2 i0
  have HO := Lib.hid ho1
  clear ho hg ho1
  go_wp2
  go_loopw [4] (fun i wr => ∃ k : Nat, k ≤ es.length ∧ i = .int .i64 k ∧ Below w.heap.size w wr ∧ w.heap.size < wr.heap.size ∧ wr.ownsRow w.heap.size 78 3 (.slice (some ⟨w.heap.size, 0, none⟩) es.length es.length) es.length ((es.take k).flatMap encE ++ List.replicate ((es.length - k) * 3) (.int .i64 0))) (fun i _ => es.length - (intOf i).toNat)
  case atStart => exact ⟨0, Nat.zero_le _, rfl, hb1, (HO.out.lt _ rfl).2, by simpa using HO.out⟩
  case round =>
   obtain ⟨k, hk, rfl, hbl, hsz, ho⟩ := hrel
   clear HO hb1
   by_cases hlt : k < es.length
   ·obtain ⟨b1, o1, rfl, -, h1, c1, c2, c3⟩ := (ha.below hbl).edge hlt
    have HO := Lib.hid ho
    clear ho ha
    go_wp2_with fail
    refine (toEdge_any _ _ _ _).mono ?_
    rintro e w2 ⟨rfl, hb2⟩
    have ho := owns_below HO.out hb2
    clear c1 c2 c3
    have d0 := (ho.cellAt (k * 3) (by omega)).trans (filledE_get _ _ _ 0 hlt (by omega))
    have s0 := (ho.stored (k * 3) (.int .i64 es[k].src)).1
    have d1 := s0.cellAt (k * 3 + 1) (by omega)
    rw [List.getElem?_set_ne (by omega), filledE_get _ _ _ _ hlt (by omega)] at d1
    have s1 := (s0.stored (k * 3 + 1) (.int .i64 es[k].lab)).1
    have d2 := s1.cellAt (k * 3 + 2) (by omega)
    rw [List.getElem?_set_ne (by omega), List.getElem?_set_ne (by omega), filledE_get _ _ _ _ hlt (by omega)] at d2
    have g1 := ho.cellAt (k * 3 + 1) (by omega)
    rw [filledE_get _ _ _ _ hlt (by omega)] at g1
    have g2 := ho.cellAt (k * 3 + 2) (by omega)
    rw [filledE_get _ _ _ _ hlt (by omega)] at g2
    have f0 := ho.frozenAt (k * 3)
    have f3 := ho.frozenAt (k * 3 + 1)
    have f4 := ho.frozenAt (k * 3 + 2)
    have f1 := s0.frozenAt (k * 3 + 1)
    have f2 := s1.frozenAt (k * 3 + 2)
    have ho2 := (s1.stored (k * 3 + 2) (.int .i64 es[k].dst)).1
    rw [filledE_set _ _ _ hlt] at ho2
    clear s0 s1
    have HO2 := Lib.hid ho2
    have hsz2 := hb2.size
    clear ho ho2 HO
    go_wp2
    go_roundw
    case rel => exact ⟨k + 1, by omega, by go_num, (((hbl.trans (hb2.mono hbl.size)).setCell (by exact Nat.le_refl _) _).setCell (by exact Nat.le_refl _) _).setCell (by exact Nat.le_refl _) _, by simp; omega, HO2.out⟩
    case measure => simp [intOf]; omega
   ·clear ha
    go_wp2
    go_ret
    have hke : k = es.length := by omega
    subst hke
    exact ⟨rfl, hbl, (ho.lt _ rfl).2, by simpa using ho⟩

/-- A copy of a system, in memory of the call's own: its labels lie in one new block, its edges in a later one. -/
def MadeLts (w : World) (t : Lts) (e : Ending) (w' : World) : Prop :=
 ∃ b1 b2, e = .returned (.agg #[.int .i64 t.states, .int .i64 t.initial, .slice (some ⟨b1, 0, none⟩) t.labels.length t.labels.length, .slice (some ⟨b2, 0, none⟩) t.edges.length t.edges.length]) ∧ Below w.heap.size w w' ∧ w.heap.size ≤ b1 ∧ b1 < b2 ∧ b2 < w'.heap.size
  ∧ w'.ownsRow w.heap.size 9 1 (.slice (some ⟨b1, 0, none⟩) t.labels.length t.labels.length) t.labels.length (t.labels.map .string) ∧ w'.ownsRow b2 78 3 (.slice (some ⟨b2, 0, none⟩) t.edges.length t.edges.length) t.edges.length (t.edges.flatMap encE)

set_option maxHeartbeats 1000000 in
theorem toLts_any (v : Value) (lo : Nat) (t : Lts) (w : World) (hl : t.labels.length ≤ 1048576) (he : t.edges.length ≤ 1048576) (hv : LtsAt lo w v t) :
  Calls Tryz.prog 14 #[v] w (MadeLts w t) := by
 obtain ⟨lv, ev, rfl, h1, h2⟩ := hv
 have H1 := Lib.hid h1
 have H2 := Lib.hid h2
 obtain ⟨_, _, rfl, -⟩ := h1
 obtain ⟨_, _, rfl, -⟩ := h2
 have H0 : Hid (∀ o1 o2 o3, Below w.heap.size w (((w.alloc o1).alloc o2).alloc o3)) := fun _ _ _ => (((Below.refl _ _).alloc (Nat.le_refl _) _).alloc (by simp) _).alloc (by simp; omega) _
 go_enter Tryz.func14, Tryz.ntmps14
 go_wp2_with fail
 refine (toStringS_any _ _ _ _ hl (SliceK.below H1.out (H0.out _ _ _))).mono ?_
 rintro e w1 ⟨rfl, hb1, hs1, ho1⟩
 have B2 := Lib.hid ((Blk.new ((w.alloc _).alloc _) [.int .i64 t.states, .int .i64 t.initial, .slice none 0 0, .slice none 0 0] 32).below hb1)
 have B1 := Lib.hid (((Blk.new (w.alloc _) [.int .i64 0, .int .i64 0, .slice none 0 0, .slice none 0 0] 32).alloc _).below hb1)
 have B0 := Lib.hid ((((Blk.new w [.int .i64 t.states, .int .i64 t.initial, _, _] 25).alloc _).alloc _).below hb1)
 have hz := hb1.size
 simp only [World.size_alloc] at hz hs1 B1 B2 B0
 have HB1 := Lib.hid ((H0.out _ _ _).trans (hb1.mono (B' := w.heap.size) (by simp; omega)))
 have HO1 := Lib.hid ho1
 clear hb1 ho1
 have b3 := B0.out.cell 3 rfl
 have c2 := B2.out.cell 2 rfl
 have f2 := B2.out.frozen 2
 simp only [World.size_alloc] at HO1
 go_wp2_with fail
 have HB2 := Lib.hid (HB1.out.setCell (p := ⟨w.heap.size + 1 + 1, 2, none⟩) (by simp; omega) (.slice (some ⟨w.heap.size + 1 + 1 + 1, 0, none⟩) t.labels.length t.labels.length))
 refine (toEdgeS_any _ _ _ _ he (SliceK.below H2.out HB2.out)).mono ?_
 rintro e w2 ⟨rfl, hb2, hs2, ho2⟩
 have C2 := Lib.hid ((B2.out.set 2 (.slice (some ⟨w.heap.size + 1 + 1 + 1, 0, none⟩) t.labels.length t.labels.length)).below hb2)
 have C1 := Lib.hid ((B1.out.setOther ⟨w.heap.size + 1 + 1, 2, none⟩ (.slice (some ⟨w.heap.size + 1 + 1 + 1, 0, none⟩) t.labels.length t.labels.length) (by simp)).below hb2)
 have HB3 := Lib.hid (HB2.out.trans (hb2.mono (B' := w.heap.size) (by simp; omega)))
 have HO1' := Lib.hid (owns_below (owns_setOther HO1.out ⟨w.heap.size + 1 + 1, 2, none⟩ (.slice (some ⟨w.heap.size + 1 + 1 + 1, 0, none⟩) t.labels.length t.labels.length) (by simp [Value.ownBlock])) hb2)
 have HO2 := Lib.hid ho2
 simp only [World.size_setCell] at hs2 HO2
 clear hb2 ho2 c2 f2 B1 B2 HB1 HO1 b3 B0
 have d0 := C2.out.cell 0 rfl
 have d1 := C2.out.cell 1 rfl
 have d2 := C2.out.cell 2 rfl
 have d3 := C2.out.cell 3 rfl
 have f3 := C2.out.frozen 3
 have e0 := C1.out.cell 0 rfl
 have e1 := C1.out.cell 1 rfl
 have e2 := C1.out.cell 2 rfl
 have e3 := C1.out.cell 3 rfl
 have g0 := C1.out.frozen 0
 have g1 := C1.out.frozen 1
 have g2 := C1.out.frozen 2
 have g3 := C1.out.frozen 3
 simp only [World.size_setCell]
 go_wp2_with fail
 refine bodyPost_ret (v := .agg #[.int .i64 t.states, .int .i64 t.initial, .slice (some ⟨w.heap.size + 1 + 1 + 1, 0, none⟩) t.labels.length t.labels.length, .slice (some ⟨w1.heap.size, 0, none⟩) t.edges.length t.edges.length])
  (by simp [results, Tryz.results14, go_sem, e0, e1, e2, e3]) rfl ⟨w.heap.size + 1 + 1 + 1, w1.heap.size, rfl, ?_, by omega, by omega, by simp; omega, ?_, ?_⟩
 ·exact ((((HB3.out.setCell (by simp; omega) _).setCell (by simp) _).setCell (by simp) _).setCell (by simp) _).setCell (by simp) _
 ·obtain ⟨q1, ⟨q2, q3⟩ | ⟨q4, q5, q6, q7, q8, q9⟩⟩ := (owns_setOther (owns_setOther (owns_setOther (owns_setOther (owns_setOther HO1'.out ⟨w.heap.size + 1 + 1, 3, none⟩ (.slice (some ⟨w1.heap.size, 0, none⟩) t.edges.length t.edges.length) (by simp [Value.ownBlock]; try omega)) ⟨w.heap.size + 1, 0, none⟩ (.int .i64 t.states) (by simp [Value.ownBlock]; try omega)) ⟨w.heap.size + 1, 1, none⟩ (.int .i64 t.initial) (by simp [Value.ownBlock]; try omega)) ⟨w.heap.size + 1, 2, none⟩ (.slice (some ⟨w.heap.size + 1 + 1 + 1, 0, none⟩) t.labels.length t.labels.length) (by simp [Value.ownBlock]; try omega)) ⟨w.heap.size + 1, 3, none⟩ (.slice (some ⟨w1.heap.size, 0, none⟩) t.edges.length t.edges.length) (by simp [Value.ownBlock]; try omega))
  ·simp at q2
  ·exact ⟨q1, .inr ⟨q4, q5, q6, q7, by omega, q9⟩⟩
 ·exact owns_setOther (owns_setOther (owns_setOther (owns_setOther (owns_setOther HO2.out _ _ (by simp [Value.ownBlock]; try omega)) _ _ (by simp [Value.ownBlock]; try omega)) _ _ (by simp [Value.ownBlock]; try omega)) _ _ (by simp [Value.ownBlock]; try omega)) _ _ (by simp [Value.ownBlock]; try omega)

end Go.Proofs.YtjghfgaincnegaaGreatDoor

namespace Go.Proofs.YtjghfgaincnegaaGreatDoor
open Go Go.RowKit

def SomeText (w : World) (e : Ending) (w' : World) : Prop := ∃ s, e = .returned (.string s) ∧ Below w.heap.size w w'

/-- A text out of one digit's byte. -/
theorem digit_text (w : World) (n : Int) (_h0 : 0 ≤ n) :
  (convert 160 9 (.slice (some ⟨w.heap.size, 0, none⟩) 1 1)).run Tryz.prog (w.alloc (.cells #[.int .u8 (48 + n % 10)] 5)) = .ok (.string ⟨#[UInt8.ofNat (48 + n % 10).toNat]⟩) (w.alloc (.cells #[.int .u8 (48 + n % 10)] 5)) := by
 refine run_convert_bytes_back (P := Tryz.prog) _ 160 9 5 ⟨w.heap.size, 0, none⟩ 1 [UInt8.ofNat (48 + n % 10).toNat] Tryz.underlying160 Tryz.underlying5 Tryz.underlying9 ?_
 intro j hj
 obtain rfl : j = 0 := by simpa using hj
 simp [Addr.add]
 omega

set_option maxRecDepth 100000 in
set_option maxHeartbeats 400000 in
theorem markText_any (k : Int) (w : World) (h1 : 0 ≤ k) (h2 : k ≤ 1000000000) : Calls Tryz.prog 84 #[.int .i64 k] w (SomeText w) := by
 by_cases h0 : k ≤ 0
 ·go_enter Tryz.func84, Tryz.ntmps84
  go_wp2
  go_ret
  exact ⟨_, rfl, Below.refl _ _⟩
 ·go_enter Tryz.func84, Tryz.ntmps84
  go_wp2
  go_loopw [0, 3] (fun q s wr => ∃ (n : Int) (t : ByteArray), 0 ≤ n ∧ t.size + n ≤ 1000000000 ∧ q = .int .i64 n ∧ s = .string t ∧ Below w.heap.size w wr) (fun q _ _ => (intOf q).toNat)
  case atStart => exact ⟨_, _, by omega, by show ((0 : Nat) : Int) + k ≤ _; omega, rfl, rfl, Below.refl _ _⟩
  case round =>
   obtain ⟨n, t, hn, hn2, rfl, rfl, hbl⟩ := hrel
   by_cases hp : 0 < n
   ·have kc := digit_text wr n hn
    go_wp2
    go_roundw
    case rel =>
     have hz : (ByteArray.mk #[UInt8.ofNat (48 + n % 10).toNat] ++ t).size = 1 + t.size := by rw [ByteArray.size_append]; rfl
     exact ⟨_, _, by omega, by rw [hz]; omega, rfl, rfl, hbl.alloc hbl.size _⟩
    case measure => simp [intOf]; omega
   ·go_wp2
    go_ret
    exact ⟨_, rfl, hbl⟩



/-- What a function that marks a slice does: it returns the next mark, and turns no block but the slice's own. -/
def Marked (w : World) (v : Value) (r : Int) (C : World → Prop) (e : Ending) (w' : World) : Prop := e = .returned (.int .i64 r) ∧ w.grownBy w' v.ownBlock ∧ C w'
def MarkedIn (lo hi : Nat) (w : World) (r : Int) (e : Ending) (w' : World) : Prop := e = .returned (.int .i64 r) ∧ Turns lo hi w w'

end Go.Proofs.YtjghfgaincnegaaGreatDoor

namespace Go.Proofs.YtjghfgaincnegaaGreatDoor
open Go Go.RowKit

set_option maxRecDepth 100000 in
set_option maxHeartbeats 400000 in
theorem markStringS_any (lo hi b n cap : Nat) (cs : List Value) (k : Int) (w : World) (h1 : 0 ≤ k) (h2 : k + n ≤ 1000000000) (hb1 : lo ≤ b) (hb2 : b < hi) (hv : w.ownsRow lo 9 1 (.slice (some ⟨b, 0, none⟩) n cap) n cs) :
  Calls Tryz.prog 38 #[.slice (some ⟨b, 0, none⟩) n cap, .int .i64 k] w (MarkedIn lo hi w (k + n)) := by
 have HV := Lib.hid hv
 clear hv
 go_enter Tryz.func38, Tryz.ntmps38
 go_wp2
 go_loopw [1, 5] (fun q i wr => ∃ (j : Nat) (cs : List Value), j ≤ n ∧ q = .int .i64 (k + j) ∧ i = .int .i64 j ∧ Turns lo hi w wr ∧ wr.ownsRow lo 9 1 (.slice (some ⟨b, 0, none⟩) n cap) n cs) (fun _ i _ => n - (intOf i).toNat)
 case atStart => exact ⟨0, cs, Nat.zero_le _, by simp, rfl, turns_refl _ _ _, HV.out⟩
 case round =>
  obtain ⟨j, cs, hj, rfl, rfl, hg, ho⟩ := hrel
  have HG := Lib.hid hg
  have HO := Lib.hid ho
  clear hg ho HV
  by_cases hlt : j < n
  ·go_wp2_with fail
   refine (markText_any _ _ (by omega) (by omega)).mono ?_
   rintro e w1 ⟨s, rfl, hb⟩
   have ho1 := owns_below HO.out hb
   obtain ⟨xc1, c1⟩ := own_cell ho1 (j) (by omega)
   have f1 := ho1.frozenAt j
   have HO2 := Lib.hid (ho1.stored j (.string s)).1
   have HB := Lib.hid hb
   clear ho1 hb
   go_wp2
   go_roundw
   case rel => exact ⟨j + 1, _, by omega, by go_num, by go_num, turns_trans (turns_trans HG.out (turns_below HB.out)) (turns_set _ _ _ hb1 hb2), HO2.out⟩
   case measure => simp [intOf]; omega
  ·go_wp2
   go_ret
   obtain rfl : j = n := by omega
   exact ⟨rfl, HG.out⟩

set_option maxRecDepth 100000 in
set_option maxHeartbeats 1000000 in
theorem markEdgeS_any (lo hi b n cap : Nat) (cs : List Value) (k : Int) (w : World) (h1 : 0 ≤ k) (h2 : k + 3 * n ≤ 1000000000) (hb1 : lo ≤ b) (hb2 : b < hi) (hv : w.ownsRow lo 78 3 (.slice (some ⟨b, 0, none⟩) n cap) n cs) :
  Calls Tryz.prog 39 #[.slice (some ⟨b, 0, none⟩) n cap, .int .i64 k] w (MarkedIn lo hi w (k + 3 * n)) := by
 have HV := Lib.hid hv
 clear hv
 go_enter Tryz.func39, Tryz.ntmps39
 go_wp2
 go_loopw [1, 5] (fun q i wr => ∃ (j : Nat) (cs : List Value), j ≤ n ∧ q = .int .i64 (k + 3 * j) ∧ i = .int .i64 j ∧ Turns lo hi w wr ∧ wr.ownsRow lo 78 3 (.slice (some ⟨b, 0, none⟩) n cap) n cs) (fun _ i _ => n - (intOf i).toNat)
 case atStart => exact ⟨0, cs, Nat.zero_le _, by simp, rfl, turns_refl _ _ _, HV.out⟩
 case round =>
  obtain ⟨j, cs, hj, rfl, rfl, hg, ho⟩ := hrel
  have HG := Lib.hid hg
  clear hg HV
  by_cases hlt : j < n
  ·obtain ⟨xc0, c0⟩ := own_cell ho (j * 3) (by omega)
   have s0 := (ho.stored (j * 3) (.int .i64 (k + 3 * j))).1
   obtain ⟨xc1, c1⟩ := own_cell s0 (j * 3 + 1) (by omega)
   have s1 := (s0.stored (j * 3 + 1) (.int .i64 (k + 3 * j + 1))).1
   obtain ⟨xc2, c2⟩ := own_cell s1 (j * 3 + 2) (by omega)
   have HO := Lib.hid (s1.stored (j * 3 + 2) (.int .i64 (k + 3 * j + 1 + 1))).1
   obtain ⟨xg1, g1⟩ := own_cell ho (j * 3 + 1) (by omega)
   obtain ⟨xg2, g2⟩ := own_cell ho (j * 3 + 2) (by omega)
   have f0 := ho.frozenAt (j * 3)
   have f1 := ho.frozenAt (j * 3 + 1)
   have f2 := ho.frozenAt (j * 3 + 2)
   clear ho s0 s1
   go_wp2
   go_roundw
   case rel => exact ⟨j + 1, _, by omega, by go_num, by go_num, turns_trans (turns_trans (turns_trans HG.out (turns_set _ _ _ hb1 hb2)) (turns_set _ _ _ hb1 hb2)) (turns_set _ _ _ hb1 hb2), HO.out⟩
   case measure => simp [intOf]; omega
  ·go_wp2
   go_ret
   obtain rfl : j = n := by omega
   exact ⟨rfl, HG.out⟩

set_option maxHeartbeats 1000000 in
theorem markLts_any (lo hi b1 b2 n1 n2 : Nat) (x y : Int) (cs1 cs2 : List Value) (k : Int) (w : World) (h1 : 0 ≤ k) (h2 : k + n1 + 3 * n2 ≤ 1000000000) (hb1 : lo ≤ b1) (hb2 : b1 < hi) (hb3 : lo ≤ b2) (hb4 : b2 < hi) (hhi : hi ≤ w.heap.size) (hne : b1 ≠ b2)
  (hv1 : w.ownsRow lo 9 1 (.slice (some ⟨b1, 0, none⟩) n1 n1) n1 cs1) (hv2 : w.ownsRow lo 78 3 (.slice (some ⟨b2, 0, none⟩) n2 n2) n2 cs2) :
  Calls Tryz.prog 17 #[.agg #[.int .i64 x, .int .i64 y, .slice (some ⟨b1, 0, none⟩) n1 n1, .slice (some ⟨b2, 0, none⟩) n2 n2], .int .i64 k] w (MarkedIn lo hi w (k + n1 + 3 * n2)) := by
 have V1 := Lib.hid hv1
 have V2 := Lib.hid hv2
 have HN := Lib.hid hne
 clear hv1 hv2 hne
 go_enter Tryz.func17, Tryz.ntmps17
 go_wp2_with fail
 refine (markStringS_any b1 (b1 + 1) b1 n1 n1 cs1 _ _ h1 (by omega) (Nat.le_refl _) (Nat.lt_succ_self _) ?_).mono ?_
 ·have := owns_below V1.out ((Below.refl _ w).alloc (Nat.le_refl _) (.cells #[.int .i64 x, .int .i64 y, .slice (some ⟨b1, 0, none⟩) n1 n1, .slice (some ⟨b2, 0, none⟩) n2 n2] 32))
  exact own_base this
 rintro e w1 ⟨rfl, ht1⟩
 have A := Lib.hid ((Blk.new w [.int .i64 x, .int .i64 y, .slice (some ⟨b1, 0, none⟩) n1 n1, .slice (some ⟨b2, 0, none⟩) n2 n2] 32).turns ht1 (by omega))
 have c3 := A.out.cell 3 rfl
 have T1 : Hid (Turns lo hi w w1) := turns_trans (turns_below ((Below.refl _ w).alloc (Nat.le_refl _) _)) (turns_wide ht1 (by omega) (by omega))
 have W2 := Lib.hid (owns_turns (owns_below V2.out ((Below.refl _ w).alloc (Nat.le_refl _) _)) ht1 (fun b e => by simp [Value.ownBlock] at e; have := HN.out; omega))
 clear ht1
 go_wp2_with fail
 refine (markEdgeS_any lo hi b2 n2 n2 cs2 _ _ (by omega) (by omega) hb3 hb4 W2.out).mono ?_
 rintro e w2 ⟨rfl, ht2⟩
 have T2 := Lib.hid ht2
 clear ht2
 go_wp2_with fail
 go_ret
 exact ⟨rfl, turns_trans T1.out T2.out⟩

end Go.Proofs.YtjghfgaincnegaaGreatDoor

namespace Go.Proofs.YtjghfgaincnegaaGreatDoor
open Go Go.RowKit

set_option maxHeartbeats 400000 in
theorem eqInt64S_same (va vb : Value) (lo lo' : Nat) (xs : List Int) (w : World) (hva : SliceK 1 encI lo w va xs) (hvb : SliceK 1 encI lo' w vb xs) :
  Calls Tryz.prog 24 #[va, vb] w fun e w' => e = .returned (.bool true) ∧ Below w.heap.size w w' := by
 obtain ⟨a, ca, rfl, hna, hca, ha⟩ := hva
 obtain ⟨b, cb, rfl, hnb, hcb, hb⟩ := hvb
 go_enter Tryz.func24, Tryz.ntmps24
 go_wp2
 go_loopw [5] (fun i wr => ∃ k : Nat, k ≤ xs.length ∧ i = .int .i64 k ∧ Below w.heap.size w wr) (fun i _ => xs.length - (intOf i).toNat)
 case atStart => exact ⟨0, Nat.zero_le _, rfl, Below.refl _ _⟩
 case round =>
  obtain ⟨k, hk, rfl, hbl⟩ := hrel
  by_cases hlt : k < xs.length
  ·obtain ⟨b1, o1, rfl, -, h1, c1⟩ := ha.one hlt
   obtain ⟨b2, o2, rfl, -, h2, c2⟩ := hb.one hlt
   simp only [encI, List.getElem?_cons_zero] at c1 c2
   replace c1 := keeps hbl h1 c1
   replace c2 := keeps hbl h2 c2
   clear ha hb
   go_wp2
   go_quiet (fail)
   go_wp2
   go_roundw
   case rel => exact ⟨k + 1, by omega, by go_num, drews hbl _⟩
   case measure => simp [intOf]; omega
  ·clear ha hb
   go_wp2
   go_ret
   exact ⟨rfl, hbl⟩

end Go.Proofs.YtjghfgaincnegaaGreatDoor

namespace Go.Proofs.YtjghfgaincnegaaGreatDoor
open Go Go.RowKit

theorem szInt64S_any (a : Option Addr) (cap n : Nat) (left : Int) (w : World) (h1 : 0 ≤ left) (h2 : left ≤ 1048576) (hn : n ≤ cap) (hcap : cap ≤ 9223372036854775807) :
  Calls Tryz.prog 18 #[.slice a n cap, .int .i64 left] w fun e w' => e = .returned (.int .i64 (szN n left)) ∧ w = w' := by
 by_cases hl : left - n < 0
 ·go_enter Tryz.func18, Tryz.ntmps18
  go_wp2
  go_ret
  exact ⟨ret_int (szN_neg hl).symm, rfl⟩
 ·go_enter Tryz.func18, Tryz.ntmps18
  go_wp2
  go_ret
  exact ⟨ret_int (szN_pos (by omega)).symm, rfl⟩

theorem szL_le (t : Lts) (left : Int) (h : 0 ≤ left) : szL t left ≤ left := by
 unfold szL
 have h1 := szSS_le t.labels left h
 split
 ·omega
 ·split
  ·omega
  ·next h2 =>
   by_cases h3 : szSS t.labels left - t.edges.length < 0
   ·rw [szN_neg h3] at h2; omega
   ·rw [szN_pos h3]; omega

theorem info_i64 : (Tryz.prog.info? 2).map (fun i => (i.zero, i.size, i.bytes)) = some (some (.int .i64 0), 1, 8) := by kernel_rfl
def MadeCopy (w : World) (xs : List Int) (e : Ending) (w' : World) : Prop :=
 e = .returned (.slice (some ⟨w.heap.size, 0, none⟩) xs.length xs.length) ∧ Below w.heap.size w w' ∧ w.heap.size < w'.heap.size ∧ w'.ownsRow w.heap.size 2 1 (.slice (some ⟨w.heap.size, 0, none⟩) xs.length xs.length) xs.length (xs.map (Value.int .i64))

set_option maxHeartbeats 400000 in
theorem toInt64S_any (v : Value) (lo : Nat) (ss : List Int) (w : World) (hn : ss.length ≤ 1048576) (hv : SliceK 1 encI lo w v ss) :
  Calls Tryz.prog 21 #[v] w (MadeCopy w ss) := by
 obtain ⟨a, ca, rfl, hna, hca, ha⟩ := hv
 obtain ⟨i0, hi, hz0, hz1, hz2⟩ := info_parts info_i64
 go_enter Tryz.func21, Tryz.ntmps21
 go_wp2_with (at_make; refine wpList_make_full _ rfl _ _ 26 rfl w.heap.size 2 i0 _ 1 Tryz.underlying26 hi hz0 hz1 .i64 .i64 _ _ ss.length rfl rfl rfl rfl ?_ ?_ ?_ ?_)
 ·rw [hz2]; omega
 ·simp [maxLen]; omega
 ·exact Nat.le_refl _
 ·intro w1 ho hg
  rw [toList_madeCells_one] at ho
  have hb1 : Below w.heap.size w w1 := (Below.refl _ w).grown hg (Nat.le_refl _) (fun _ h => by cases h)
  clear hi hz0 hz1 hz2 i0
  have HO := Lib.hid ho
  clear ho hg
  go_wp2
  go_loopw [4] (fun i wr => ∃ k : Nat, k ≤ ss.length ∧ i = .int .i64 k ∧ Below w.heap.size w wr ∧ wr.ownsRow w.heap.size 2 1 (.slice (some ⟨w.heap.size, 0, none⟩) ss.length ss.length) ss.length ((ss.take k).map (Value.int .i64) ++ List.replicate (ss.length - k) (.int .i64 0))) (fun i _ => ss.length - (intOf i).toNat)
  case atStart => exact ⟨0, Nat.zero_le _, rfl, hb1, by simpa using HO.out⟩
  case round =>
   obtain ⟨k, hk, rfl, hbl, ho⟩ := hrel
   clear HO hb1
   by_cases hlt : k < ss.length
   ·obtain ⟨b1, o1, rfl, -, h1, c1⟩ := (ha.below hbl).one hlt
    simp only [encI, List.getElem?_cons_zero] at c1
    have c2 := ho.cellAt k (by omega)
    rw [filled_get _ _ _ _ hlt] at c2
    have c3 := ho.frozenAt k
    have ho2 := ho.stored k (.int .i64 ss[k])
    rw [filled_set _ _ _ _ hlt] at ho2
    have HO := Lib.hid ho2
    clear ho ho2 ha
    go_wp2
    go_roundw
    case rel => exact ⟨k + 1, by omega, by go_num, hbl.setCell (by exact Nat.le_refl _) _, HO.out.1⟩
    case measure => simp [intOf]; omega
   ·clear ha
    go_wp2
    go_ret
    have hke : k = ss.length := by omega
    subst hke
    exact ⟨rfl, hbl, (ho.lt _ rfl).2, by simpa using ho⟩


end Go.Proofs.YtjghfgaincnegaaGreatDoor

namespace Go.Proofs.YtjghfgaincnegaaGreatDoor
open Go Go.RowKit

theorem box5 {w W : World} {b : Nat} {c0 c1 c2 c3 c4 : Value} {T : TypeId} (_ : b = w.heap.size) (hW : W = w.alloc (.cells #[c0, c1, c2, c3, c4] T)) : Below w.heap.size w W ∧ Blk W w.heap.size [c0, c1, c2, c3, c4] T := by
 subst hW; exact ⟨box_below _ _ _, Blk.new w _ _⟩
theorem blk5 {w : World} {b : Nat} {c0 c1 c2 c3 c4 : Value} {T : TypeId} (h : Blk w b [c0, c1, c2, c3, c4] T) :
  w.cell? ⟨b, 0, none⟩ = some c0 ∧ w.cell? ⟨b, 1, none⟩ = some c1 ∧ w.cell? ⟨b, 2, none⟩ = some c2 ∧ w.cell? ⟨b, 3, none⟩ = some c3 ∧ w.cell? ⟨b, 4, none⟩ = some c4 :=
 ⟨h.cell 0 rfl, h.cell 1 rfl, h.cell 2 rfl, h.cell 3 rfl, h.cell 4 rfl⟩
/-- What szMonitor returns. -/
def szM (p : Mon) (left : Int) : Int :=
 if szL p.sys left < 0 then -1
 else if szN p.vs.length (szL p.sys left) < 0 then -1
 else szN p.vs.length (szL p.sys left)

set_option maxHeartbeats 1000000 in
theorem szMonitor_any (lo : Nat) (p : Mon) (lv ev mv : Value) (left : Int) (w : World)
   (h1 : 0 ≤ left) (h2 : left ≤ 1048576) (hs : StrsOk p.sys.labels) (hp : MonIn lo w lv ev mv p) :
  Calls Tryz.prog 5 #[.agg #[.int .i64 p.sys.states, .int .i64 p.sys.initial, lv, ev, mv], .int .i64 left] w
   fun e w' => e = .returned (.int .i64 (szM p left)) ∧ Below w.heap.size w w' := by
 obtain ⟨W, hW⟩ : ∃ W, W = w.alloc (.cells #[.int .i64 p.sys.states, .int .i64 p.sys.initial, lv, ev, mv] 28) := ⟨_, rfl⟩
 obtain ⟨b0, hb0⟩ : ∃ b0, b0 = w.heap.size := ⟨_, rfl⟩
 obtain ⟨hB0, hBX⟩ := box5 hb0 hW
 rw [← hb0] at hBX
 have HB0 := Lib.hid hB0
 have HBX := Lib.hid hBX
 have HW := Lib.hid hW
 have HP := Lib.hid (hp.below hB0)
 have HZ := Lib.hid hb0
 have hsl := szL_le p.sys left h1
 have HC1 := Lib.hid (szLts_any (.agg #[.int .i64 p.sys.states, .int .i64 p.sys.initial, lv, ev]) lo p.sys left W h1 h2 hs ⟨lv, ev, rfl, HP.out.labels, HP.out.edges⟩)
 obtain ⟨⟨al, cl, rfl, -⟩, ⟨ae, ce, rfl, -⟩, ⟨am, cm, rfl, hmn, hmc, -⟩⟩ := hp
 have HF : Hid (szM p left = if szL p.sys left < 0 then -1 else if szN p.vs.length (szL p.sys left) < 0 then -1 else szN p.vs.length (szL p.sys left)) := rfl
 generalize szL p.sys left = q1 at *
 clear hs hB0 hBX hW hb0
 by_cases c1 : q1 < 0
 ·go_enter Tryz.func5, Tryz.ntmps5
  go_wp2_with fail
  rw [← HW.out]
  refine Calls.mono HC1.out ?_
  rintro e w1 ⟨rfl, hb1⟩
  have HB1 := Lib.hid (HB0.out.trans (hb1.mono HB0.out.size))
  clear hb1
  go_wp2_with fail
  go_ret
  exact ⟨ret_int (by rw [HF.out, if_pos (by omega)]), HB1.out⟩
 have hq2 : szN p.vs.length q1 ≤ q1 := by
  by_cases h3 : q1 - p.vs.length < 0
  ·rw [szN_neg h3]; omega
  ·rw [szN_pos h3]; omega
 have HC2 := Lib.hid (fun w1 => szInt64S_any am cm p.vs.length q1 w1 (by omega) (by omega) hmn hmc)
 generalize szN p.vs.length q1 = q2 at *
 by_cases c2 : q2 < 0
 ·go_enter Tryz.func5, Tryz.ntmps5
  go_wp2_with fail
  rw [← HW.out]
  refine Calls.mono HC1.out ?_
  rintro e w1 ⟨rfl, hb1⟩
  have HB1 := Lib.hid (HB0.out.trans (hb1.mono HB0.out.size))
  have x4 := (HBX.out.below hb1).cell 4 rfl
  rw [← HZ.out]
  clear hb1
  go_wp2_with fail
  refine Calls.mono (HC2.out _) ?_
  rintro e w2 ⟨rfl, rfl⟩
  go_wp2_with fail
  go_ret
  exact ⟨ret_int (by rw [HF.out, if_neg (by omega), if_pos (by omega)]), HB1.out⟩
 ·go_enter Tryz.func5, Tryz.ntmps5
  go_wp2_with fail
  rw [← HW.out]
  refine Calls.mono HC1.out ?_
  rintro e w1 ⟨rfl, hb1⟩
  have HB1 := Lib.hid (HB0.out.trans (hb1.mono HB0.out.size))
  have x4 := (HBX.out.below hb1).cell 4 rfl
  rw [← HZ.out]
  clear hb1
  go_wp2_with fail
  refine Calls.mono (HC2.out _) ?_
  rintro e w2 ⟨rfl, rfl⟩
  go_wp2_with fail
  go_ret
  exact ⟨ret_int (by rw [HF.out, if_neg (by omega), if_neg (by omega)]), HB1.out⟩
set_option maxHeartbeats 1000000 in
theorem eqMonitor_same (lo lo' : Nat) (p : Mon) (lv ev mv lv2 ev2 mv2 : Value) (w : World) (hp : MonIn lo w lv ev mv p) (hq : MonIn lo' w lv2 ev2 mv2 p) :
  Calls Tryz.prog 9 #[.agg #[.int .i64 p.sys.states, .int .i64 p.sys.initial, lv, ev, mv], .agg #[.int .i64 p.sys.states, .int .i64 p.sys.initial, lv2, ev2, mv2]] w fun e w' => e = .returned (.bool true) ∧ Below w.heap.size w w' := by
 obtain ⟨n0, hn0⟩ : ∃ n0, n0 = w.heap.size := ⟨_, rfl⟩
 obtain ⟨W, hW⟩ : ∃ W, W = (w.alloc (.cells #[.int .i64 p.sys.states, .int .i64 p.sys.initial, lv, ev, mv] 34)).alloc (.cells #[.int .i64 p.sys.states, .int .i64 p.sys.initial, lv2, ev2, mv2] 34) := ⟨_, rfl⟩
 have hbW : Below w.heap.size w W := by rw [hW]; exact ((Below.refl _ _).alloc (Nat.le_refl _) _).alloc (by simp) _
 have B0 : Blk W n0 [.int .i64 p.sys.states, .int .i64 p.sys.initial, lv, ev, mv] 34 := by
  rw [hW, hn0]; exact (Blk.new w [.int .i64 p.sys.states, .int .i64 p.sys.initial, lv, ev, mv] _).alloc _
 have B1 : Blk W (n0 + 1) [.int .i64 p.sys.states, .int .i64 p.sys.initial, lv2, ev2, mv2] 34 := by
  rw [hW, hn0]
  have := Blk.new (w.alloc (.cells #[.int .i64 p.sys.states, .int .i64 p.sys.initial, lv, ev, mv] 34)) [.int .i64 p.sys.states, .int .i64 p.sys.initial, lv2, ev2, mv2] 34
  rw [World.size_alloc] at this
  exact this
 have HP := Lib.hid (hp.below hbW)
 have HQ := Lib.hid (hq.below hbW)
 have HBW := Lib.hid hbW
 have HB0 := Lib.hid B0
 have HB1 := Lib.hid B1
 have HW := Lib.hid hW
 have HN0 := Lib.hid hn0
 have HC1 := Lib.hid (eqLts_same (.agg #[.int .i64 p.sys.states, .int .i64 p.sys.initial, lv, ev]) (.agg #[.int .i64 p.sys.states, .int .i64 p.sys.initial, lv2, ev2]) lo lo' p.sys W ⟨lv, ev, rfl, HP.out.labels, HP.out.edges⟩ ⟨lv2, ev2, rfl, HQ.out.labels, HQ.out.edges⟩)
 obtain ⟨⟨al, cl, rfl, -⟩, ⟨ae, ce, rfl, -⟩, ⟨am, cm, rfl, -⟩⟩ := hp
 obtain ⟨⟨al2, cl2, rfl, -⟩, ⟨ae2, ce2, rfl, -⟩, ⟨am2, cm2, rfl, -⟩⟩ := hq
 clear hbW B0 B1 hW hn0
 go_enter Tryz.func9, Tryz.ntmps9
 go_wp2_with fail
 rw [← HW.out, ← HN0.out]
 refine Calls.mono HC1.out ?_
 rintro e w1 ⟨rfl, hb1⟩
 have HBB1 := Lib.hid hb1
 have x4 := (HB0.out.below hb1).cell 4 rfl
 have y4 := (HB1.out.below hb1).cell 4 rfl
 clear hb1
 go_wp2_with fail
 refine (eqInt64S_same _ _ lo lo' p.vs _ (HP.out.marks.below HBB1.out) (HQ.out.marks.below HBB1.out)).mono ?_
 rintro e w2 ⟨rfl, hb2⟩
 have HBB2 := Lib.hid (HBB1.out.trans (hb2.mono HBB1.out.size))
 clear hb2 x4 y4
 go_wp2_with fail
 go_ret
 exact ⟨rfl, HBW.out.trans (HBB2.out.mono HBW.out.size)⟩

end Go.Proofs.YtjghfgaincnegaaGreatDoor
