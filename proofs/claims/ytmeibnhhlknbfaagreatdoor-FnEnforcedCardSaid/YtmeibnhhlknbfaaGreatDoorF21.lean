/-
  Traces of visible labels: the program's areLabels, areVisible; the reference's l12Visible.
  The reference's trace of the arguments' bytes.
  ValidLts at a valid system, and at one that is not; boxes.
  What the implementation's IsDeterministicLts computes.
  The library's slices.IndexFunc and slices.ContainsFunc at a slice of edges, with a function that may lay blocks of its own.
  The library's slices.IndexFunc and slices.ContainsFunc at a slice of numbers, with a function that may lay blocks of its own.
  The program's ValidMonitor.
  What the implementation's follow and step compute at one state of a deterministic system.
  What the implementation's step computes in a deterministic system.
-/
import Derived.Test.YtmeibnhhlknbfaaGreatDoorF20
import Derived.Test.YtmeibnhhlknbfaaGreatDoorF10
import Derived.Test.YtmeibnhhlknbfaaGreatDoorF2
import Derived.Test.YtmeibnhhlknbfaaGreatDoorF19
import Derived.Test.YtmeibnhhlknbfaaGreatDoorProg
import Derived.Test.YtmeibnhhlknbfaaGreatDoorF1
import Derived.Test.YtmeibnhhlknbfaaGreatDoorF16
import Derived.Test.YtmeibnhhlknbfaaGreatDoorF6
import Derived.Test.YtmeibnhhlknbfaaGreatDoorF7
import Derived.Test.YtmeibnhhlknbfaaGreatDoorF5
namespace Go.Proofs.YtmeibnhhlknbfaaGreatDoor
open Go Go.RowKit

theorem ContainsFuncV (lo : Nat) (v : Value) (xs : List ByteArray) (fid : Nat) (caps : Array Value) (P : ByteArray → Bool) (w : World) (hv : SliceK 1 encS lo w v xs) (eg : ∀ args w, (callFunc fid args).run Tryz.prog w = .ok (.enter fid args) w) (hP : AskS fid caps P xs w.heap.size w) :
  Calls Tryz.prog 76 #[v, .func (.func fid) #[] caps] w fun e w' => e = .returned (.bool (xs.any P)) ∧ Below w.heap.size w w' := by
 have HC := Lib.hid (IndexFuncS lo v xs fid caps P w hv eg hP)
 clear hP
 go_enter Tryz.func76, Tryz.ntmps76
 go_wp2_with fail
 refine Calls.mono HC.out ?_
 rintro e w' ⟨rfl, hb⟩
 have HB := Lib.hid hb
 clear hb
 go_wp2_with fail
 go_ret
 exact ⟨ret_bool idxS_any, HB.out⟩

def tauV : ByteArray := ⟨#[116, 97, 117]⟩
theorem tauV_list : tauV.toList = [116, 97, 117] := by rw [Lib.toList_data]; rfl
def visOne (s : ByteArray) : Bool := labelOk s.data.toList && !(s.toList == tauV.toList)
/-- All labels are visible ones. -/
def visB (ss : List ByteArray) : Bool := ss.all visOne
theorem visB_sub {a b : List ByteArray} (h : List.Sublist a b) (hb : visB b = true) : visB a = true := by
 unfold visB at *
 rw [List.all_eq_true] at *
 exact fun x hx => hb x (h.subset hx)
theorem vis_two (ss : List ByteArray) : ((!ss.any fun s => !labelOk s.data.toList) && !(ss.any fun y => y.toList == tauV.toList)) = visB ss := by
 unfold visB visOne
 induction ss with
 | nil => rfl
 | cons x ss ih =>
  rw [List.all_cons, List.any_cons, List.any_cons, ← ih]
  cases labelOk x.data.toList <;> cases (x.toList == tauV.toList) <;> simp

theorem labs1_any (s : ByteArray) (w : World) (hs : s.size ≤ 1048576) (g : Glob w) : Calls Tryz.prog 77 #[.string s] w fun e w' => e = .returned (.bool (!labelOk s.data.toList)) ∧ Below w.heap.size w w' := by
 have HC := Lib.hid (IsLabel_is (s := s) rfl w hs g)
 go_enter Tryz.func77, Tryz.ntmps77
 go_wp2_with fail
 refine Calls.mono HC.out ?_
 rintro e w' ⟨rfl, hb⟩
 have HB := Lib.hid hb
 clear hb
 go_wp2
 go_ret
 exact ⟨rfl, HB.out⟩
theorem areLabels_any (lo : Nat) (v : Value) (ss : List ByteArray) (w : World) (hsh : Short20 ss) (hv : SliceK 1 encS lo w v ss) (g : Glob w) : Calls Tryz.prog 56 #[v] w fun e w' => e = .returned (.bool (!ss.any fun s => !labelOk s.data.toList)) ∧ Below w.heap.size w w' := by
 have HC := Lib.hid (ContainsFuncV lo v ss 77 #[] (fun s => !labelOk s.data.toList) w hv (fun args w => by kernel_rfl) fun w' hb x hx => labs1_any x w' (by obtain ⟨i, hi, rfl⟩ := List.mem_iff_getElem.1 hx; exact hsh i hi) (g.below hb))
 clear hsh hv g
 go_enter Tryz.func56, Tryz.ntmps56
 go_wp2_with fail
 refine Calls.mono HC.out ?_
 rintro e w' ⟨rfl, hb⟩
 have HB := Lib.hid hb
 clear hb
 go_wp2
 go_ret
 exact ⟨rfl, HB.out⟩
theorem areVisible_any (lo : Nat) (v : Value) (ss : List ByteArray) (w : World) (hsh : Short20 ss) (hv : SliceK 1 encS lo w v ss) (g : Glob w) : Calls Tryz.prog 29 #[v] w fun e w' => e = .returned (.bool (visB ss)) ∧ Below w.heap.size w w' := by
 have HC := Lib.hid (areLabels_any lo v ss w hsh hv g)
 have HT := Lib.hid (fun w' (hb : Below w.heap.size w w') => Contains_strs lo v tauV ss w' (hv.below hb))
 obtain ⟨b1, hb1⟩ : ∃ b, b = (!ss.any fun s => !labelOk s.data.toList) := ⟨_, rfl⟩
 obtain ⟨b2, hb2⟩ : ∃ b, b = (ss.any fun y => y.toList == tauV.toList) := ⟨_, rfl⟩
 have HV : Hid ((b1 && !b2) = visB ss) := by unfold Hid; rw [hb1, hb2]; exact vis_two ss
 rw [← hb1] at HC
 rw [← hb2] at HT
 clear hsh hv g hb1 hb2
 go_enter Tryz.func29, Tryz.ntmps29
 go_wp2_with fail
 refine Calls.mono HC.out ?_
 rintro e w' ⟨rfl, hb⟩
 have HB := Lib.hid hb
 clear hb HC
 cases b1
 ·go_wp2
  go_ret
  exact ⟨ret_bool HV.out, HB.out⟩
 ·go_wp2_with fail
  refine Calls.mono (HT.out _ HB.out) ?_
  rintro e w'' ⟨rfl, rfl⟩
  go_wp2
  go_ret
  exact ⟨ret_bool HV.out, HB.out⟩

set_option maxRecDepth 100000 in
set_option maxHeartbeats 1000000 in
theorem l12Visible_any (lo : Nat) (v : Value) (ss : List ByteArray) (w : World) (hsh : Short ss) (hv : SliceK 1 encS lo w v ss) : Calls Tryz.prog 14 #[v] w fun e w' => e = .returned (.bool (visB ss)) ∧ Below w.heap.size w w' := by
 obtain ⟨a, c, rfl, hn, hc, hrow⟩ := hv
 have HR := Lib.hid hrow
 have HSH := Lib.hid hsh
 obtain ⟨N, hN⟩ : ∃ N, N = ss.length := ⟨_, rfl⟩
 rw [← hN] at hn ⊢
 have HN := Lib.hid hN
 clear hrow hsh hN
 go_enter Tryz.func14, Tryz.ntmps14
 go_wp2
 go_loopw [3] (fun v2 wr => ∃ k : Nat, k ≤ N ∧ v2 = .int .i64 k ∧ Below w.heap.size w wr ∧ visB (ss.take k) = true) (fun v2 _ => N - (intOf v2).toNat)
 case atStart => exact ⟨0, Nat.zero_le _, rfl, Below.refl _ _, rfl⟩
 case round =>
  obtain ⟨k, hk, rfl, hbl, hvis⟩ := hrel
  have HB := Lib.hid hbl
  have HVI := Lib.hid hvis
  have hsz := hbl.size
  by_cases hlt : k < N
  ·have hks : k < ss.length := by rw [← HN.out]; exact hlt
   obtain ⟨b, o, rfl, -, hbb, c0⟩ := (HR.out.below hbl).one hks
   simp only [encS, List.getElem?_cons_zero] at c0
   obtain ⟨s, hs⟩ : ∃ s, s = ss[k] := ⟨_, rfl⟩
   rw [← hs] at c0
   have HLA := Lib.hid (fun w' => l01Label_any s w' (by rw [hs]; exact HSH.out k hks))
   have HNX : Hid (visOne s = true → visB (ss.take (k + 1)) = true) := fun h => by
    unfold visB at *
    rw [List.take_succ_eq_append_getElem hks, List.all_append, HVI.out, ← hs]
    simp [h]
   have HNO : Hid (visOne s = false → visB ss = false) := fun h => by
    unfold visB
    rw [List.all_eq_false]
    exact ⟨s, by rw [hs]; exact List.getElem_mem hks, by rw [h]; decide⟩
   clear hs hks hbl hvis
   obtain ⟨b1, hb1⟩ : ∃ b, b = labelOk s.data.toList := ⟨_, rfl⟩
   rw [← hb1] at HLA
   obtain ⟨b2, hb2⟩ : ∃ b, b = (s.toList == [116, 97, 117]) := ⟨_, rfl⟩
   have HVO : Hid (visOne s = (b1 && !b2)) := by unfold Hid visOne; rw [hb1, hb2, tauV_list]
   have h2 : (s.toList == [116, 97, 117]) = b2 := hb2.symm
   clear hb1 hb2
   go_wp2_with fail
   refine Calls.mono (HLA.out _) ?_
   rintro e w1 ⟨rfl, hb1⟩
   have HB1 := Lib.hid (HB.out.trans (hb1.mono hsz))
   have c1 := keeps hb1 hbb c0
   clear hb1 c0
   cases b1
   ·have HRS : Hid (visB ss = false) := HNO.out (by rw [HVO.out]; rfl)
    go_wp2
    go_ret
    exact ⟨ret_bool HRS.out.symm, HB1.out⟩
   ·cases b2
    ·have HRS : Hid (visB (ss.take (k + 1)) = true) := HNX.out (by rw [HVO.out]; rfl)
     go_wp2
     go_roundw
     case rel => exact ⟨k + 1, by omega, by go_num, HB1.out, HRS.out⟩
     case measure => simp [intOf]; omega
    ·have HRS : Hid (visB ss = false) := HNO.out (by rw [HVO.out]; rfl)
     go_wp2
     go_ret
     exact ⟨ret_bool HRS.out.symm, HB1.out⟩
  ·have HRS : Hid (visB ss = true) := by
    have hkn : k = ss.length := by rw [← HN.out]; omega
    have h := HVI.out
    rw [hkn, List.take_length] at h
    exact h
   clear hbl hvis
   go_wp2
   go_ret
   exact ⟨ret_bool HRS.out.symm, HB.out⟩

end Go.Proofs.YtmeibnhhlknbfaaGreatDoor

namespace Go.Proofs.YtmeibnhhlknbfaaGreatDoor
open Go Go.RowKit

def RetTr (w : World) (e : Ending) (w' : World) : Prop :=
 Below w.heap.size w w' ∧ ∃ (v : Value) (ls : List ByteArray), e = .returned v ∧ OwnStrs w.heap.size w' v ls ∧ ls.length ≤ 10 ∧ ∀ l ∈ ls, l.size ≤ 6

set_option maxRecDepth 100000 in
set_option maxHeartbeats 2000000 in
theorem b10Trace_any (lo : Nat) (cv : Value) (bs : List UInt8) (t : Lts) (lv ev : Value) (w : World) (hl : SliceK 1 encS lo w lv t.labels) (he : SliceK 3 encE lo w ev t.edges) (h6 : ∀ l ∈ t.labels, l.size ≤ 6) (hc : BytesIn w.heap.size w cv bs) :
  Calls Tryz.prog 6 #[cv, .agg #[.int .i64 t.states, .int .i64 t.initial, lv, ev]] w (RetTr w) := by
 obtain ⟨tb, htb⟩ : ∃ tb, tb = w.heap.size := ⟨_, rfl⟩
 obtain ⟨W, hW⟩ : ∃ W, W = w.alloc (.cells #[.int .i64 t.states, .int .i64 t.initial, lv, ev] 27) := ⟨_, rfl⟩
 have hb : Below w.heap.size w W := by rw [hW]; exact (Below.refl _ _).alloc (Nat.le_refl _) _
 have hT : Blk W tb [.int .i64 t.states, .int .i64 t.initial, lv, ev] 27 := by rw [hW, htb]; exact Blk.new _ _ _
 have HT : Hid (LtsPtr lo W tb t) := ⟨_, _, hT.lt, hT.cell 0 rfl, hT.cell 1 rfl, hT.cell 2 rfl, hT.cell 3 rfl, hl.below hb, he.below hb⟩
 obtain ⟨sb, hsb⟩ : ∃ sb, sb = W.heap.size := ⟨_, rfl⟩
 have HFR := Lib.hid (from_any cv bs W (bytes_up hc hb))
 rw [← hsb] at HFR
 have HB := Lib.hid hb
 have hsW : w.heap.size ≤ W.heap.size := hb.size
 have H6 := Lib.hid h6
 have HW := Lib.hid hW
 have HTB := Lib.hid htb
 have HSB := Lib.hid hsb
 obtain ⟨ca, cc, rfl, -⟩ := id hc
 clear hl he h6 hc hT hb hW htb hsb
 go_enter Tryz.func6, Tryz.ntmps6
 go_wp2_with fail
 rw [← HW.out]
 try rw [← HTB.out]
 refine Calls.mono HFR.out ?_
 rintro e w1 ⟨rfl, hb1, hs1⟩
 have hb1' : Below W.heap.size W w1 := by rw [← HSB.out]; exact hb1
 have HDT := Lib.hid (drawTrace_any sb 0 lo tb t W w1 hb1' (by rw [← HSB.out]; exact Nat.le_refl _) HT.out H6.out hs1 (by decide))
 have HB1 := Lib.hid (HB.out.trans (hb1'.mono hsW))
 have hsz1 : w.heap.size ≤ w1.heap.size := HB1.out.size
 have hwsb : w.heap.size ≤ sb := by rw [HSB.out]; exact hsW
 clear hb1 hb1' hs1 HFR HB HT
 go_wp2_with fail
 refine Calls.mono HDT.out ?_
 rintro e w2 ⟨v, ls, rfl, hd2, ho2, hlen, hls⟩
 have HB2 := Lib.hid (drew_belowY HB1.out hd2 hsz1 hwsb)
 have HO2 : Hid (OwnStrs w.heap.size w2 v ls) := ho2.lower hsz1
 have HLS := Lib.hid hls
 have HVI := Lib.hid (l12Visible_any w.heap.size v ls w2 (fun i hi => by have := hls _ (List.getElem_mem hi); omega) HO2.out.at)
 have hsz2 : w.heap.size ≤ w2.heap.size := HB2.out.size
 obtain ⟨va, vc, rfl, -, -⟩ := owns_slice ho2
 clear hd2 ho2 hls HDT HB1
 go_wp2_with fail
 refine Calls.mono HVI.out ?_
 rintro e w3 ⟨rfl, hb3⟩
 have HB3 := Lib.hid (HB2.out.trans (hb3.mono hsz2))
 have HO3 := Lib.hid (OwnStrs.below HO2.out hb3)
 have hsz3 : w.heap.size ≤ w3.heap.size := HB3.out.size
 clear hb3 HVI
 obtain ⟨b, hb⟩ : ∃ b, b = visB ls := ⟨_, rfl⟩
 rw [← hb]
 clear hb
 cases b
 ·go_wp2
  go_ret
  exact ⟨HB3.out.alloc hsz3 _, _, [], rfl, OwnStrs.lower (strs_lit (w := w3) (xs := []) (cs := #[]) rfl (by decide)) hsz3, by decide, fun l hl => by cases hl⟩
 ·go_wp2
  go_ret
  exact ⟨HB3.out, _, ls, rfl, HO3.out, hlen, HLS.out⟩

end Go.Proofs.YtmeibnhhlknbfaaGreatDoor

namespace Go.Proofs.YtmeibnhhlknbfaaGreatDoor
open Go Go.RowKit

theorem Valid_yes {lo : Nat} {t : Lts} {lv ev : Value} {w : World} (hv : Valid t) (hsh : Short20 t.labels) (hl : SliceK 1 encS lo w lv t.labels) (he : SliceK 3 encE lo w ev t.edges) (g : Glob w) :
  Calls Tryz.prog 73 #[.agg #[.int .i64 t.states, .int .i64 t.initial, lv, ev]] w fun e w' => e = .returned (.bool true) ∧ Below w.heap.size w w' :=
 Decides.yes (ValidLts_any lo t lv ev w hsh hl he g) hv
theorem Valid_no {lo : Nat} {t : Lts} {lv ev : Value} {w : World} (hv : ¬ Valid t) (hsh : Short20 t.labels) (hl : SliceK 1 encS lo w lv t.labels) (he : SliceK 3 encE lo w ev t.edges) (g : Glob w) :
  Calls Tryz.prog 73 #[.agg #[.int .i64 t.states, .int .i64 t.initial, lv, ev]] w fun e w' => e = .returned (.bool false) ∧ Below w.heap.size w w' :=
 Decides.no (ValidLts_any lo t lv ev w hsh hl he g) hv

theorem box_below (w : World) (a : Array Value) (T : TypeId) : Below w.heap.size w (w.alloc (.cells a T)) := (Below.refl _ _).alloc (Nat.le_refl _) _

end Go.Proofs.YtmeibnhhlknbfaaGreatDoor

namespace Go.Proofs.YtmeibnhhlknbfaaGreatDoor
open Go Go.RowKit

set_option maxRecDepth 100000 in
set_option maxHeartbeats 4000000 in
theorem IsDet_any (lo : Nat) (t : Lts) (lv ev : Value) (w : World) (hsh : Short20 t.labels) (hl : SliceK 1 encS lo w lv t.labels) (he : SliceK 3 encE lo w ev t.edges) (g : Glob w) :
  Calls Tryz.prog 50 #[.agg #[.int .i64 t.states, .int .i64 t.initial, lv, ev]] w (Decides (Valid t ∧ Single t) w) := by
 have HB0 : Hid (Below w.heap.size w (w.alloc (.cells #[.int .i64 t.states, .int .i64 t.initial, lv, ev] 27))) := box_below _ _ _
 by_cases hv : Valid t
 ·have HV := Lib.hid (Valid_yes hv hsh (hl.below HB0.out) (he.below HB0.out) (g.below HB0.out))
  have HVV := Lib.hid hv
  clear hv hsh hl g
  obtain ⟨ae, ce, rfl, hen, hec, her⟩ := he
  have HER := Lib.hid her
  clear her
  go_enter Tryz.func50, Tryz.ntmps50
  go_wp2_with fail
  refine Calls.mono HV.out ?_
  rintro e w1 ⟨rfl, hb1⟩
  have HB1 := Lib.hid (HB0.out.trans (hb1.mono HB0.out.size))
  have q3 : w1.cell? ⟨w.heap.size, 3, none⟩ = some (.slice ae t.edges.length ce) := keeps hb1 (by simp) (by simp)
  have hbz : w.heap.size < w1.heap.size := by have := hb1.size; simp at this; omega
  have HER1 := Lib.hid (HER.out.below HB1.out)
  have Q3 := Lib.hid q3
  clear hb1 HB0 HV HER
  obtain ⟨b0, hb0⟩ : ∃ b0, b0 = w.heap.size := ⟨_, rfl⟩
  rw [← hb0] at hbz Q3 q3
  simp only [← hb0]
  have HB00 := Lib.hid hb0
  clear hb0
  go_wp2_with fail
  clear q3
  go_loopw [11] (fun i wr => ∃ k : Nat, k ≤ t.edges.length ∧ i = .int .i64 k ∧ Below w1.heap.size w1 wr ∧ (∀ q (h : q < t.edges.length), q < k → t.edges[q].lab ≠ 0) ∧ (∀ q (h : q + 1 < t.edges.length), q + 1 < k → ¬ (t.edges[q + 1].src = t.edges[q].src ∧ t.edges[q + 1].lab = t.edges[q].lab))) (fun i _ => t.edges.length - (intOf i).toNat)
  case atStart => exact ⟨0, Nat.zero_le _, rfl, Below.refl _ _, fun _ _ h => by omega, fun _ _ h => by omega⟩
  case round =>
   obtain ⟨k, hk, rfl, hbl, hx1, hx2⟩ := hrel
   have HX1 := Lib.hid hx1
   have HX2 := Lib.hid hx2
   have HBE := Lib.hid hbl
   have hsz := hbl.size
   have q3 := keeps hbl hbz Q3.out
   clear hx1 hx2 hbl
   by_cases hlt : k < t.edges.length
   ·obtain ⟨be, oe, rfl, -, hbe, e1, e2, e3⟩ := (HER1.out.below HBE.out).edge hlt
    have HROW := Lib.hid (HER1.out.below HBE.out)
    obtain ⟨e, hee⟩ : ∃ e, e = t.edges[k] := ⟨_, rfl⟩
    rw [← hee] at e1 e2 e3
    have HEE := Lib.hid hee
    clear hee
    have HO : Below wr.heap.size wr (wr.alloc (.cells #[.int .i64 e.src, .int .i64 e.lab, .int .i64 e.dst] 59)) := box_below _ _ _
    have s3 := later_cell (w0 := wr.alloc (.cells #[.int .i64 e.src, .int .i64 e.lab, .int .i64 e.dst] 59)) (b := b0) (by simp; omega) (keeps HO (by omega) q3)
    have t0 := later_cell (w0 := wr.alloc (.cells #[.int .i64 e.src, .int .i64 e.lab, .int .i64 e.dst] 59)) (b := wr.heap.size) (o := 0) (v := .int .i64 e.src) (by simp) (by simp)
    have t1 := later_cell (w0 := wr.alloc (.cells #[.int .i64 e.src, .int .i64 e.lab, .int .i64 e.dst] 59)) (b := wr.heap.size) (o := 1) (v := .int .i64 e.lab) (by simp) (by simp)
    have HO2 := Lib.hid HO
    have HLT : Hid (Below w1.heap.size w1 (wr.alloc (.cells #[.int .i64 e.src, .int .i64 e.lab, .int .i64 e.dst] 59))) := HBE.out.trans (HO.mono hsz)
    cases g1 : (e.lab == 0)
    ·have HG1 : Hid (t.edges[k].lab ≠ 0) := by unfold Hid; rw [← HEE.out]; simpa using g1
     rcases Nat.eq_zero_or_pos k with hk0 | hk0
     ·have hk1 : decide ((0 : Int) < (k : Int)) = false := by rw [decide_eq_false_iff_not]; omega
      have hk2 : decide (0 < k) = false := by rw [decide_eq_false_iff_not]; omega
      have hk3 : ¬ (0 : Int) < (k : Int) := by omega
      have hk4 : ¬ 0 < k := by omega
      have HK0 : Hid (k = 0) := hk0
      clear hk0 HO
      go_wp2_with fail
      refine wp_region_later (by kernel_rfl) (by kernel_rfl) ?_
      repeat (go_big_quiet_step ((fail)))
      refine wpQuiet_nil ?_
      intro _ hw9
      obtain ⟨nl, hw8⟩ := hw9
      subst hw8
      clear g1 t0 t1 s3
      go_wp2_with fail
      go_roundw
      case rel => exact ⟨k + 1, by omega, by go_num, HLT.out.trans (nl.h.mono HLT.out.size), fun q h h' => by
        obtain rfl : q = k := by have := HK0.out; omega
        exact HG1.out, fun q h h' => by
        have := HK0.out; omega⟩
      case measure => simp [intOf]; omega
     ·obtain ⟨m, rfl⟩ : ∃ m, k = m + 1 := ⟨k - 1, by omega⟩
      obtain ⟨_, _, e9, -, -, d1, d2, -⟩ := HROW.out.edge (show m < t.edges.length by omega)
      simp only [Option.some.injEq, Addr.mk.injEq, and_true] at e9
      obtain ⟨rfl, rfl⟩ := e9
      replace d1 := later_cell (w0 := wr.alloc (.cells #[.int .i64 e.src, .int .i64 e.lab, .int .i64 e.dst] 59)) (b := be) (by simp; omega) (keeps HO hbe d1)
      replace d2 := later_cell (w0 := wr.alloc (.cells #[.int .i64 e.src, .int .i64 e.lab, .int .i64 e.dst] 59)) (b := be) (by simp; omega) (keeps HO hbe d2)
      have hk1 : decide ((0 : Int) < (m : Int) + 1) = true := by rw [decide_eq_true_eq]; omega
      have hk2 : (0 : Int) < (m : Int) + 1 := by omega
      clear hk0 HO
      cases g2 : (t.edges[m].src == e.src)
      ·have HG2 : Hid (¬ t.edges[m + 1].src = t.edges[m].src) := by unfold Hid; rw [← HEE.out]; rw [beq_eq_false_iff_ne] at g2; exact fun h => g2 h.symm
       go_wp2_with fail
       refine wp_region_later (by kernel_rfl) (by kernel_rfl) ?_
       repeat (go_big_quiet_step ((fail)))
       refine wpQuiet_nil ?_
       intro _ hw9
       obtain ⟨nl, hw8⟩ := hw9
       subst hw8
       clear g1 t0 t1 s3
       go_wp2_with fail
       go_roundw
       case rel => exact ⟨m + 1 + 1, by omega, by go_num, HLT.out.trans (nl.h.mono HLT.out.size), fun q h h' => by
         by_cases e9 : q = m + 1
         ·subst e9; exact HG1.out
         ·exact HX1.out q h (by omega), fun q h h' => by
         by_cases e9 : q = m
         ·subst e9; exact fun h => HG2.out h.1
         ·exact HX2.out q h (by omega)⟩
       case measure => simp [intOf]; omega
      ·have HG2 : Hid (t.edges[m + 1].src = t.edges[m].src) := by unfold Hid; rw [← HEE.out]; rw [beq_iff_eq] at g2; exact g2.symm
       cases g3 : (t.edges[m].lab == e.lab)
       ·have HG3 : Hid (¬ t.edges[m + 1].lab = t.edges[m].lab) := by unfold Hid; rw [← HEE.out]; rw [beq_eq_false_iff_ne] at g3; exact fun h => g3 h.symm
        go_wp2_with fail
        refine wp_region_later (by kernel_rfl) (by kernel_rfl) ?_
        repeat (go_big_quiet_step ((fail)))
        refine wpQuiet_nil ?_
        intro _ hw9
        obtain ⟨nl, hw8⟩ := hw9
        subst hw8
        clear g1 t0 t1 s3
        go_wp2_with fail
        go_roundw
        case rel => exact ⟨m + 1 + 1, by omega, by go_num, HLT.out.trans (nl.h.mono HLT.out.size), fun q h h' => by
          by_cases e9 : q = m + 1
          ·subst e9; exact HG1.out
          ·exact HX1.out q h (by omega), fun q h h' => by
          by_cases e9 : q = m
          ·subst e9; exact fun h => HG3.out h.2
          ·exact HX2.out q h (by omega)⟩
        case measure => simp [intOf]; omega
       ·have HG3 : Hid (t.edges[m + 1].lab = t.edges[m].lab) := by unfold Hid; rw [← HEE.out]; rw [beq_iff_eq] at g3; exact g3.symm
        go_wp2_with fail
        refine wp_region_later (by kernel_rfl) (by kernel_rfl) ?_
        repeat (go_big_quiet_step ((fail)))
        refine wpQuiet_nil ?_
        intro _ hw9
        obtain ⟨nl, hw8⟩ := hw9
        subst hw8
        go_wp2_with fail
        go_ret
        refine ⟨false, rfl, ⟨(fun h => by cases h), fun h => ?_⟩, HB1.out.trans ((HLT.out.trans (nl.h.mono HLT.out.size)).mono HB1.out.size)⟩
        exact absurd ⟨HG2.out, HG3.out⟩ (h.2.one m hlt)
    ·have HG1 : Hid (t.edges[k].lab = 0) := by unfold Hid; rw [← HEE.out]; simpa using g1
     clear HO
     go_wp2_with fail
     refine wp_region_later (by kernel_rfl) (by kernel_rfl) ?_
     repeat (go_big_quiet_step ((fail)))
     refine wpQuiet_nil ?_
     intro _ hw9
     obtain ⟨nl, hw8⟩ := hw9
     subst hw8
     go_wp2_with fail
     go_ret
     refine ⟨false, rfl, ⟨(fun h => by cases h), fun h => ?_⟩, HB1.out.trans ((HLT.out.trans (nl.h.mono HLT.out.size)).mono HB1.out.size)⟩
     exact absurd HG1.out (h.2.visible k hlt)
   ·go_wp2_with fail
    go_ret
    exact ⟨true, rfl, ⟨fun _ => ⟨HVV.out, fun q h => HX1.out q h (by omega), fun q h => HX2.out q h (by omega)⟩, fun _ => rfl⟩, HB1.out.trans (HBE.out.mono HB1.out.size)⟩
 ·have HV := Lib.hid (Valid_no hv hsh (hl.below HB0.out) (he.below HB0.out) (g.below HB0.out))
  have HVV := Lib.hid hv
  clear hv hsh hl he g
  go_enter Tryz.func50, Tryz.ntmps50
  go_wp2_with fail
  refine Calls.mono HV.out ?_
  rintro e w1 ⟨rfl, hb1⟩
  have HB1 := Lib.hid (HB0.out.trans (hb1.mono HB0.out.size))
  clear hb1
  go_wp2_with fail
  go_ret
  exact ⟨false, rfl, ⟨(fun h => by cases h), fun h => absurd h.1 HVV.out⟩, HB1.out⟩

end Go.Proofs.YtmeibnhhlknbfaaGreatDoor

namespace Go.Proofs.YtmeibnhhlknbfaaGreatDoor
open Go Go.RowKit

def idxE (P : Edge → Bool) (xs : List Edge) : Int := if xs.findIdx P < xs.length then (xs.findIdx P : Nat) else -1
theorem idxE_neg {P : Edge → Bool} {xs : List Edge} : idxE P xs = -1 ↔ ∀ x ∈ xs, P x = false := by
 unfold idxE
 by_cases h : xs.findIdx P < xs.length
 ·rw [if_pos h]
  refine ⟨fun e => by omega, fun h2 => ?_⟩
  obtain ⟨x, hx, hp⟩ := List.findIdx_lt_length.1 h
  rw [h2 x hx] at hp
  cases hp
 ·rw [if_neg h]
  refine ⟨fun _ x hx => ?_, fun _ => rfl⟩
  cases hp : P x
  ·rfl
  ·exact absurd (List.findIdx_lt_length.2 ⟨x, hx, hp⟩) h
theorem idxE_any {P : Edge → Bool} {xs : List Edge} : decide (0 ≤ idxE P xs) = xs.any P := by
 unfold idxE
 by_cases h : xs.findIdx P < xs.length
 ·rw [if_pos h]
  obtain ⟨x, hx, hp⟩ := List.findIdx_lt_length.1 h
  rw [List.any_eq_true.2 ⟨x, hx, hp⟩]
  simp
 ·rw [if_neg h]
  have : xs.any P = false := by
   rw [List.any_eq_false]
   intro x hx hp
   exact h (List.findIdx_lt_length.2 ⟨x, hx, hp⟩)
  rw [this]
  rfl
/-- A function of one element that answers P, and turns nothing that was there. -/
def AskE (fid : Nat) (caps : Array Value) (P : Edge → Bool) (xs : List Edge) (B : Nat) (w : World) : Prop :=
 ∀ w', Below B w w' → ∀ x ∈ xs, Calls Tryz.prog fid (#[.agg #[.int .i64 x.src, .int .i64 x.lab, .int .i64 x.dst]] ++ caps) w' fun e w'' => e = .returned (.bool (P x)) ∧ Below w'.heap.size w' w''

set_option maxRecDepth 100000 in
set_option maxHeartbeats 1000000 in
theorem IndexFuncE (lo : Nat) (v : Value) (xs : List Edge) (fid : Nat) (caps : Array Value) (P : Edge → Bool) (w : World) (hv : SliceK 3 encE lo w v xs) (eg : ∀ args w, (callFunc fid args).run Tryz.prog w = .ok (.enter fid args) w) (hP : AskE fid caps P xs w.heap.size w) :
  Calls Tryz.prog 75 #[v, .func (.func fid) #[] caps] w fun e w' => e = .returned (.int .i64 (idxE P xs)) ∧ Below w.heap.size w w' := by
 obtain ⟨a, c, rfl, hcn, hcc, hrow⟩ := hv
 have HR := Lib.hid hrow
 have HP := Lib.hid hP
 clear hP hrow
 go_enter Tryz.func75, Tryz.ntmps75
 go_wp2_with fail
 go_loopw [8] (fun i wr => ∃ k : Nat, k ≤ xs.length ∧ i = .int .i64 k ∧ Below w.heap.size w wr ∧ ∀ j (h : j < xs.length), j < k → P xs[j] = false) (fun i _ => xs.length - (intOf i).toNat)
 case atStart => exact ⟨0, Nat.zero_le _, rfl, Below.refl _ _, fun _ _ h => by omega⟩
 case round =>
  obtain ⟨k, hk, rfl, hbl, ha⟩ := hrel
  have HA := Lib.hid ha
  have HBL := Lib.hid hbl
  clear ha
  by_cases hlt : k < xs.length
  ·obtain ⟨b1, o1, rfl, -, hbs, c1, c2, c3⟩ := (HR.out.below hbl).edge hlt
   clear hbl
   obtain ⟨x, hx⟩ : ∃ x, x = xs[k] := ⟨_, rfl⟩
   rw [← hx] at c1 c2 c3
   have HX := Lib.hid hx
   have HC := Lib.hid (HP.out wr HBL.out x (by rw [hx]; exact List.getElem_mem _))
   obtain ⟨b, hb⟩ : ∃ b, b = P x := ⟨_, rfl⟩
   rw [← hb] at HC
   have HB := Lib.hid hb
   clear hb hx
   go_wp2_with fail
   refine Calls.mono HC.out ?_
   rintro e w1 ⟨rfl, hb1⟩
   have HB1 := Lib.hid (HBL.out.trans (hb1.mono HBL.out.size))
   clear hb1 c1 c2 c3
   cases b
   ·go_wp2_with fail
    go_roundw
    case rel => exact ⟨k + 1, by omega, by go_num, HB1.out, fun j h hj => by
     by_cases e : j = k
     ·subst e; rw [← HX.out]; exact HB.out.symm
     ·exact HA.out j h (by omega)⟩
    case measure => simp [intOf]; omega
   ·have HI : Hid (idxE P xs = (k : Int)) := by
     unfold Hid idxE
     have h1 : xs.findIdx P = k := by
      rw [List.findIdx_eq hlt]
      exact ⟨by rw [← HX.out]; exact HB.out.symm, fun j hj => HA.out j (by omega) hj⟩
     rw [h1, if_pos hlt]
    go_wp2_with fail
    go_ret
    exact ⟨ret_int HI.out.symm, HB1.out⟩
  ·clear hbl
   have HI : Hid (idxE P xs = -1) := by
    unfold Hid
    rw [idxE_neg]
    intro x hx
    obtain ⟨j, hj, rfl⟩ := List.mem_iff_getElem.1 hx
    exact HA.out j hj (by omega)
   go_wp2_with fail
   go_ret
   exact ⟨ret_int HI.out.symm, HBL.out⟩

theorem ContainsFuncE (lo : Nat) (v : Value) (xs : List Edge) (fid : Nat) (caps : Array Value) (P : Edge → Bool) (w : World) (hv : SliceK 3 encE lo w v xs) (eg : ∀ args w, (callFunc fid args).run Tryz.prog w = .ok (.enter fid args) w) (hP : AskE fid caps P xs w.heap.size w) :
  Calls Tryz.prog 54 #[v, .func (.func fid) #[] caps] w fun e w' => e = .returned (.bool (xs.any P)) ∧ Below w.heap.size w w' := by
 have HC := Lib.hid (IndexFuncE lo v xs fid caps P w hv eg hP)
 clear hP
 go_enter Tryz.func54, Tryz.ntmps54
 go_wp2_with fail
 refine Calls.mono HC.out ?_
 rintro e w' ⟨rfl, hb⟩
 have HB := Lib.hid hb
 clear hb
 go_wp2_with fail
 go_ret
 exact ⟨ret_bool idxE_any, HB.out⟩

end Go.Proofs.YtmeibnhhlknbfaaGreatDoor

namespace Go.Proofs.YtmeibnhhlknbfaaGreatDoor
open Go Go.RowKit

def idxI (P : Int → Bool) (xs : List Int) : Int := if xs.findIdx P < xs.length then (xs.findIdx P : Nat) else -1
theorem idxI_neg {P : Int → Bool} {xs : List Int} : idxI P xs = -1 ↔ ∀ x ∈ xs, P x = false := by
 unfold idxI
 by_cases h : xs.findIdx P < xs.length
 ·rw [if_pos h]
  refine ⟨fun e => by omega, fun h2 => ?_⟩
  obtain ⟨x, hx, hp⟩ := List.findIdx_lt_length.1 h
  rw [h2 x hx] at hp
  cases hp
 ·rw [if_neg h]
  refine ⟨fun _ x hx => ?_, fun _ => rfl⟩
  cases hp : P x
  ·rfl
  ·exact absurd (List.findIdx_lt_length.2 ⟨x, hx, hp⟩) h
theorem idxI_any {P : Int → Bool} {xs : List Int} : decide (0 ≤ idxI P xs) = xs.any P := by
 unfold idxI
 by_cases h : xs.findIdx P < xs.length
 ·rw [if_pos h]
  obtain ⟨x, hx, hp⟩ := List.findIdx_lt_length.1 h
  rw [List.any_eq_true.2 ⟨x, hx, hp⟩]
  simp
 ·rw [if_neg h]
  have : xs.any P = false := by
   rw [List.any_eq_false]
   intro x hx hp
   exact h (List.findIdx_lt_length.2 ⟨x, hx, hp⟩)
  rw [this]
  rfl
/-- A function of one element that answers P, and turns nothing that was there. -/
def AskI (fid : Nat) (caps : Array Value) (P : Int → Bool) (xs : List Int) (B : Nat) (w : World) : Prop :=
 ∀ w', Below B w w' → ∀ x ∈ xs, Calls Tryz.prog fid (#[.int .i64 x] ++ caps) w' fun e w'' => e = .returned (.bool (P x)) ∧ Below w'.heap.size w' w''

set_option maxRecDepth 100000 in
set_option maxHeartbeats 1000000 in
theorem IndexFuncI (lo : Nat) (v : Value) (xs : List Int) (fid : Nat) (caps : Array Value) (P : Int → Bool) (w : World) (hv : SliceK 1 encI lo w v xs) (eg : ∀ args w, (callFunc fid args).run Tryz.prog w = .ok (.enter fid args) w) (hP : AskI fid caps P xs w.heap.size w) :
  Calls Tryz.prog 74 #[v, .func (.func fid) #[] caps] w fun e w' => e = .returned (.int .i64 (idxI P xs)) ∧ Below w.heap.size w w' := by
 obtain ⟨a, c, rfl, hcn, hcc, hrow⟩ := hv
 have HR := Lib.hid hrow
 have HP := Lib.hid hP
 clear hP hrow
 go_enter Tryz.func74, Tryz.ntmps74
 go_wp2_with fail
 go_loopw [8] (fun i wr => ∃ k : Nat, k ≤ xs.length ∧ i = .int .i64 k ∧ Below w.heap.size w wr ∧ ∀ j (h : j < xs.length), j < k → P xs[j] = false) (fun i _ => xs.length - (intOf i).toNat)
 case atStart => exact ⟨0, Nat.zero_le _, rfl, Below.refl _ _, fun _ _ h => by omega⟩
 case round =>
  obtain ⟨k, hk, rfl, hbl, ha⟩ := hrel
  have HA := Lib.hid ha
  have HBL := Lib.hid hbl
  clear ha
  by_cases hlt : k < xs.length
  ·obtain ⟨b1, o1, rfl, -, hbs, c1⟩ := (HR.out.below hbl).one hlt
   simp only [encI, List.getElem?_cons_zero] at c1
   clear hbl
   obtain ⟨x, hx⟩ : ∃ x, x = xs[k] := ⟨_, rfl⟩
   rw [← hx] at c1
   have HX := Lib.hid hx
   have HC := Lib.hid (HP.out wr HBL.out x (by rw [hx]; exact List.getElem_mem _))
   obtain ⟨b, hb⟩ : ∃ b, b = P x := ⟨_, rfl⟩
   rw [← hb] at HC
   have HB := Lib.hid hb
   clear hb hx
   go_wp2_with fail
   refine Calls.mono HC.out ?_
   rintro e w1 ⟨rfl, hb1⟩
   have HB1 := Lib.hid (HBL.out.trans (hb1.mono HBL.out.size))
   clear hb1 c1
   cases b
   ·go_wp2_with fail
    go_roundw
    case rel => exact ⟨k + 1, by omega, by go_num, HB1.out, fun j h hj => by
     by_cases e : j = k
     ·subst e; rw [← HX.out]; exact HB.out.symm
     ·exact HA.out j h (by omega)⟩
    case measure => simp [intOf]; omega
   ·have HI : Hid (idxI P xs = (k : Int)) := by
     unfold Hid idxI
     have h1 : xs.findIdx P = k := by
      rw [List.findIdx_eq hlt]
      exact ⟨by rw [← HX.out]; exact HB.out.symm, fun j hj => HA.out j (by omega) hj⟩
     rw [h1, if_pos hlt]
    go_wp2_with fail
    go_ret
    exact ⟨ret_int HI.out.symm, HB1.out⟩
  ·clear hbl
   have HI : Hid (idxI P xs = -1) := by
    unfold Hid
    rw [idxI_neg]
    intro x hx
    obtain ⟨j, hj, rfl⟩ := List.mem_iff_getElem.1 hx
    exact HA.out j hj (by omega)
   go_wp2_with fail
   go_ret
   exact ⟨ret_int HI.out.symm, HBL.out⟩

theorem ContainsFuncI (lo : Nat) (v : Value) (xs : List Int) (fid : Nat) (caps : Array Value) (P : Int → Bool) (w : World) (hv : SliceK 1 encI lo w v xs) (eg : ∀ args w, (callFunc fid args).run Tryz.prog w = .ok (.enter fid args) w) (hP : AskI fid caps P xs w.heap.size w) :
  Calls Tryz.prog 51 #[v, .func (.func fid) #[] caps] w fun e w' => e = .returned (.bool (xs.any P)) ∧ Below w.heap.size w w' := by
 have HC := Lib.hid (IndexFuncI lo v xs fid caps P w hv eg hP)
 clear hP
 go_enter Tryz.func51, Tryz.ntmps51
 go_wp2_with fail
 refine Calls.mono HC.out ?_
 rintro e w' ⟨rfl, hb⟩
 have HB := Lib.hid hb
 clear hb
 go_wp2_with fail
 go_ret
 exact ⟨ret_bool idxI_any, HB.out⟩

end Go.Proofs.YtmeibnhhlknbfaaGreatDoor

namespace Go.Proofs.YtmeibnhhlknbfaaGreatDoor
open Go Go.RowKit

def verdB (x : Int) : Bool := !(decide (0 ≤ x) && decide (x ≤ 2))
theorem vm1_any (x : Int) (w : World) : Calls Tryz.prog 52 #[.int .i64 x] w fun e w' => e = .returned (.bool (verdB x)) ∧ Below w.heap.size w w' := by
 have HW := Lib.hid (within_any x 0 2 w)
 obtain ⟨b, hb⟩ : ∃ b, b = (decide (0 ≤ x) && decide (x ≤ 2)) := ⟨_, rfl⟩
 rw [← hb] at HW
 have HB : Hid (verdB x = !b) := by unfold Hid verdB; rw [hb]
 clear hb
 go_enter Tryz.func52, Tryz.ntmps52
 go_wp2_with fail
 refine Calls.mono HW.out ?_
 rintro e w1 ⟨rfl, rfl⟩
 go_wp2_with fail
 go_ret
 exact ⟨by rw [HB.out]; rfl, Below.refl _ _⟩
def finB (V : List Int) (e : Edge) : Bool := V.getD e.src.toNat 0 != 0
set_option maxHeartbeats 1000000 in
theorem vm2_any (lo b0 : Nat) (V : List Int) (vv : Value) (e0 : Edge) (w : World) (hs0 : 0 ≤ e0.src) (hs1 : e0.src < (V.length : Int)) (hb : b0 < w.heap.size) (hc : w.cell? ⟨b0, 4, none⟩ = some vv) (hv : SliceK 1 encI lo w vv V) :
  Calls Tryz.prog 55 #[.agg #[.int .i64 e0.src, .int .i64 e0.lab, .int .i64 e0.dst], .pointer (some ⟨b0, 0, none⟩)] w fun e w' => e = .returned (.bool (finB V e0)) ∧ Below w.heap.size w w' := by
 obtain ⟨k, hk⟩ : ∃ k : Nat, (k : Int) = e0.src := ⟨e0.src.toNat, by omega⟩
 have hkV : k < V.length := by omega
 obtain ⟨a, c, rfl, hn, hcc, hrow⟩ := hv
 obtain ⟨bl, ol, rfl, -, hbl, c1⟩ := hrow.one hkV
 simp only [encI, List.getElem?_cons_zero] at c1
 obtain ⟨x, hx⟩ : ∃ x, x = V[k] := ⟨_, rfl⟩
 rw [← hx] at c1
 have HF : Hid (finB V e0 = (x != 0)) := by
  unfold Hid finB
  rw [← hk, Int.toNat_natCast, List.getD_eq_getElem?_getD, List.getElem?_eq_getElem hkV, hx]
  rfl
 rw [← hk]
 obtain ⟨N, hN⟩ : ∃ N, N = V.length := ⟨_, rfl⟩
 rw [← hN] at hc hn hkV
 obtain ⟨W, hW⟩ : ∃ W, W = w.alloc (.cells #[.int .i64 k, .int .i64 e0.lab, .int .i64 e0.dst] 59) := ⟨_, rfl⟩
 have hb0 : Below w.heap.size w W := by rw [hW]; exact box_below _ _ _
 have HB0 := Lib.hid hb0
 clear hx hk hN hrow hs0 hs1 hW hb0
 go_enter Tryz.func55, Tryz.ntmps55
 go_wp2
 go_ret
 exact ⟨by rw [HF.out]; rfl, (Below.refl _ _).alloc (Nat.le_refl _) _⟩

theorem mon_iff {m : Mon} (hv : Valid m.sys) (hs : Single m.sys) (hl : (m.vs.length : Int) = m.sys.states) : MonOk m ↔ m.vs.any verdB = false ∧ m.sys.edges.any (finB m.vs) = false := by
 constructor
 ·intro h
  rw [List.any_eq_false, List.any_eq_false]
  refine ⟨fun x hx => ?_, fun e he => ?_⟩
  ·have := h.low x hx
   unfold verdB
   rw [decide_eq_true this.1, decide_eq_true this.2]
   simp
  ·unfold finB
   rw [h.fin e he]
   simp
 ·rintro ⟨h1, h2⟩
  rw [List.any_eq_false] at h1 h2
  refine ⟨hv, hs, hl, fun x hx => ?_, fun e he => ?_⟩
  ·have := h1 x hx
   unfold verdB at this
   simpa using this
  ·have := h2 e he
   unfold finB at this
   simpa using this

set_option maxRecDepth 100000 in
set_option maxHeartbeats 2000000 in
theorem ValidMonitor_any (lo : Nat) (m : Mon) (lv ev vv : Value) (w : World) (hsh : Short20 m.sys.labels) (hp : MonIn lo w lv ev vv m) (g : Glob w) :
  Calls Tryz.prog 28 #[.agg #[.int .i64 m.sys.states, .int .i64 m.sys.initial, lv, ev, vv]] w (Decides (MonOk m) w) := by
 obtain ⟨W, hW⟩ : ∃ W, W = w.alloc (.cells #[.int .i64 m.sys.states, .int .i64 m.sys.initial, lv, ev, vv] 30) := ⟨_, rfl⟩
 obtain ⟨b0, hb0⟩ : ∃ b0, b0 = w.heap.size := ⟨_, rfl⟩
 have hB0 : Below w.heap.size w W := by rw [hW]; exact box_below _ _ _
 have hBX : Blk W b0 [.int .i64 m.sys.states, .int .i64 m.sys.initial, lv, ev, vv] 30 := by rw [hW, hb0]; exact Blk.new w _ _
 have HB0 := Lib.hid hB0
 have HBX := Lib.hid hBX
 have HW := Lib.hid hW
 have HP := Lib.hid (hp.below hB0)
 have HZ0 := Lib.hid hb0
 have HC := Lib.hid (IsDet_any lo m.sys lv ev W hsh HP.out.labels HP.out.edges (g.below hB0))
 have hMarks := hp.marks
 obtain ⟨⟨al, cl, rfl, -⟩, ⟨ae, ce, rfl, -⟩, -⟩ := hp
 obtain ⟨am, cm, rfl, hmn, hmc, -⟩ := hMarks
 obtain ⟨VN, hVN⟩ : ∃ VN, VN = m.vs.length := ⟨_, rfl⟩
 obtain ⟨ST, hST⟩ : ∃ ST, ST = m.sys.states := ⟨_, rfl⟩
 rw [← hVN] at HBX HW hmn HP
 rw [← hST] at HBX HW HC
 rw [← hVN, ← hST]
 have HVN := Lib.hid hVN
 have HST := Lib.hid hST
 clear hsh g hB0 hBX hW hb0 hVN hST
 by_cases hd : Valid m.sys ∧ Single m.sys
 ·have HD := Lib.hid hd
  have HC1 := Lib.hid (Decides.yes HC.out hd)
  clear hd
  by_cases hn : (VN : Int) = ST
  ·have hb : ((VN : Int) != ST) = false := by rw [hn]; simp
   have HN : Hid ((m.vs.length : Int) = m.sys.states) := by unfold Hid; rw [← HVN.out, ← HST.out]; exact hn
   have HM := Lib.hid (mon_iff HD.out.1 HD.out.2 HN.out)
   clear hn
   go_enter Tryz.func28, Tryz.ntmps28
   go_wp2_with fail
   rw [← HW.out]
   refine Calls.mono HC1.out ?_
   rintro e w1 ⟨rfl, hb1⟩
   have X1 := Lib.hid (HBX.out.below hb1)
   have x0 := X1.out.cell 0 rfl
   have x3 := X1.out.cell 3 rfl
   have x4 := X1.out.cell 4 rfl
   have HB1 := Lib.hid hb1
   have hCF := ContainsFuncI lo (.slice am VN cm) m.vs 52 #[] verdB w1 (HP.out.marks.below hb1) (fun _ _ => rfl) (fun w' _ x _ => vm1_any x w')
   obtain ⟨q1, hq1⟩ : ∃ q1, q1 = m.vs.any verdB := ⟨_, rfl⟩
   rw [← hq1] at hCF HM
   have HCF := Lib.hid hCF
   have HQ1 := Lib.hid hq1
   rw [← HZ0.out]
   clear hb1 hCF hq1
   go_wp2_with fail
   refine Calls.mono HCF.out ?_
   rintro e w2 ⟨rfl, hb2⟩
   have HB2 := Lib.hid (HB1.out.trans (hb2.mono HB1.out.size))
   have X2 := Lib.hid (HBX.out.below HB2.out)
   clear hb2 x0 x3 x4
   cases q1
   ·have x3 := X2.out.cell 3 rfl
    have hCE := ContainsFuncE lo (.slice ae m.sys.edges.length ce) m.sys.edges 55 #[.pointer (some ⟨b0, 0, none⟩)] (finB m.vs) w2 (HP.out.edges.below HB2.out) (fun _ _ => rfl) (fun w' hb' x hx => by
     obtain ⟨i, hi, rfl⟩ := List.mem_iff_getElem.1 hx
     have ho := HD.out.1.edge i hi
     exact vm2_any lo b0 m.vs (.slice am VN cm) m.sys.edges[i] w' ho.s0 (by rw [HN.out]; exact ho.s1) (X2.out.below hb').lt ((X2.out.below hb').cell 4 rfl) ((HP.out.marks.below HB2.out).below hb'))
    obtain ⟨q2, hq2⟩ : ∃ q2, q2 = m.sys.edges.any (finB m.vs) := ⟨_, rfl⟩
    rw [← hq2] at hCE HM
    have HCE := Lib.hid hCE
    clear hCE hq2
    go_wp2_with fail
    refine Calls.mono HCE.out ?_
    rintro e w3 ⟨rfl, hb3⟩
    have HB3 := Lib.hid (HB2.out.trans (hb3.mono HB2.out.size))
    clear hb3
    go_wp2_with fail
    go_ret
    exact ⟨!q2, rfl, by rw [HM.out]; cases q2 <;> simp, HB0.out.trans (HB3.out.mono HB0.out.size)⟩
   ·go_wp2_with fail
    go_ret
    exact ⟨false, rfl, by rw [HM.out]; simp, HB0.out.trans (HB2.out.mono HB0.out.size)⟩
  ·have hb : ((VN : Int) != ST) = true := bne_iff_ne.2 hn
   have HN : Hid (¬ MonOk m) := fun h => hn (by rw [HVN.out, HST.out]; exact h.len)
   clear hn
   go_enter Tryz.func28, Tryz.ntmps28
   go_wp2_with fail
   rw [← HW.out]
   refine Calls.mono HC1.out ?_
   rintro e w1 ⟨rfl, hb1⟩
   have X1 := Lib.hid (HBX.out.below hb1)
   have x0 := X1.out.cell 0 rfl
   have x4 := X1.out.cell 4 rfl
   have HB1 := Lib.hid hb1
   rw [← HZ0.out]
   clear hb1
   go_wp2_with fail
   go_ret
   exact ⟨false, rfl, ⟨(fun h => by cases h), fun h => absurd h HN.out⟩, HB0.out.trans (HB1.out.mono HB0.out.size)⟩
 ·have HC1 := Lib.hid (Decides.no HC.out hd)
  have HN : Hid (¬ MonOk m) := fun h => hd ⟨h.valid, h.single⟩
  clear hd
  go_enter Tryz.func28, Tryz.ntmps28
  go_wp2_with fail
  rw [← HW.out]
  refine Calls.mono HC1.out ?_
  rintro e w1 ⟨rfl, hb1⟩
  have HB1 := Lib.hid hb1
  clear hb1
  go_wp2_with fail
  go_ret
  exact ⟨false, rfl, ⟨(fun h => by cases h), fun h => absurd h HN.out⟩, HB0.out.trans (HB1.out.mono HB0.out.size)⟩

end Go.Proofs.YtmeibnhhlknbfaaGreatDoor

namespace Go.Proofs.YtmeibnhhlknbfaaGreatDoor
open Go Go.RowKit

theorem Sort_one (a : Option Addr) (n cap : Nat) (w : World) (hn : n ≤ 1) :
  Calls Tryz.prog 81 #[.slice a n cap] w fun e w' => e = .returned (.tuple #[]) ∧ w = w' := by
 have h0 : (0 : Int) ≤ (n : Int) := by omega
 have h1 : (n : Int) ≤ 18446744073709551615 := by omega
 go_enter Tryz.func81, Tryz.ntmps81
 go_wp2_with fail
 refine (Tryz.bits_Len _ _ h0 h1).mono ?_
 rintro e w' ⟨rfl, rfl⟩
 go_wp2_with fail
 refine (pdq_one _ _ _ _ hn).mono ?_
 rintro e w' ⟨rfl, rfl⟩
 go_wp2_with fail
 go_end0
 exact ⟨rfl, rfl⟩

theorem info_int64x : (Tryz.prog.info? 2).map (fun i => (i.zero, i.size, i.bytes)) = some (some (.int .i64 0), 1, 8) := by kernel_rfl

theorem hit_take {p : Lts} {q : Int} {l : ByteArray} {k : Nat} (h : k < p.edges.length) (g : hitB p q l p.edges[k] = true) :
  ((p.edges.take (k + 1)).filter (hitB p q l)).map Edge.dst = ((p.edges.take k).filter (hitB p q l)).map Edge.dst ++ [p.edges[k].dst] := by
 rw [List.take_succ_eq_append_getElem h, List.filter_append, List.map_append]
 simp [g]
theorem miss_take {p : Lts} {q : Int} {l : ByteArray} {k : Nat} (h : k < p.edges.length) (g : hitB p q l p.edges[k] = false) :
  ((p.edges.take (k + 1)).filter (hitB p q l)).map Edge.dst = ((p.edges.take k).filter (hitB p q l)).map Edge.dst := by
 rw [List.take_succ_eq_append_getElem h, List.filter_append, List.map_append]
 simp [g]

set_option maxRecDepth 100000 in
set_option maxHeartbeats 2000000 in
theorem follow_one (lo lo2 : Nat) (p : Lts) (lv ev sv : Value) (q : Int) (l : ByteArray) (w : World) (hvp : Valid p) (hsp : Single p) (hl : SliceK 1 encS lo w lv p.labels) (he : SliceK 3 encE lo w ev p.edges) (hs : SliceK 1 encI lo2 w sv [q]) :
  Calls Tryz.prog 58 #[.agg #[.int .i64 p.states, .int .i64 p.initial, lv, ev], sv, .string l] w (MadeNums (behind p q l) w) := by
 have HS := Lib.hid hs
 have hone := behind_one hvp hsp q l
 have HE := Lib.hid hvp.edge
 have hmost := hvp.most
 clear hs hvp hsp
 obtain ⟨al, cl, rfl, hln, hlc, hlr⟩ := hl
 obtain ⟨ae, ce, rfl, hen, hec, hrow⟩ := he
 have HLR := Lib.hid hlr
 have HER := Lib.hid hrow
 clear hlr hrow
 obtain ⟨i0, hi, hz0, hz1, hz2⟩ := info_parts info_int64x
 have HB0 : Hid (Below w.heap.size w (w.alloc (.cells #[.int .i64 p.states, .int .i64 p.initial, .slice al p.labels.length cl, .slice ae p.edges.length ce] 27))) := (Below.refl _ _).alloc (Nat.le_refl _) _
 have HQ2 : Hid ((w.alloc (.cells #[.int .i64 p.states, .int .i64 p.initial, .slice al p.labels.length cl, .slice ae p.edges.length ce] 27)).cell? ⟨w.heap.size, 2, none⟩ = some (.slice al p.labels.length cl)) := by unfold Hid; simp
 obtain ⟨wB, hwB⟩ : ∃ wB, wB = w.alloc (.cells #[.int .i64 p.states, .int .i64 p.initial, .slice al p.labels.length cl, .slice ae p.edges.length ce] 27) := ⟨_, rfl⟩
 have hwz : wB.heap.size = w.heap.size + 1 := by rw [hwB]; simp
 rw [← hwB] at HB0 HQ2
 have HWB := Lib.hid hwB
 clear hwB
 go_enter Tryz.func58, Tryz.ntmps58
 go_wp2_with fail
 rw [← HWB.out]
 clear HWB
 go_loopw [7, 13] (fun v i wr => ∃ k : Nat, k ≤ p.edges.length ∧ i = .int .i64 k ∧ Below wB.heap.size wB wr ∧ wr.ownsRow wB.heap.size 2 1 v (((p.edges.take k).filter (hitB p q l)).map Edge.dst).length ((((p.edges.take k).filter (hitB p q l)).map Edge.dst).map (Value.int .i64))) (fun _ i _ => p.edges.length - (intOf i).toNat)
 case atStart => exact ⟨0, Nat.zero_le _, rfl, Below.refl _ _, World.ownsRow_nil _ _ _ _⟩
 case round =>
  obtain ⟨k, hk, rfl, hbl, ho⟩ := hrel
  have HBL := Lib.hid hbl
  have HO := Lib.hid ho
  have hsz := hbl.size
  have q2 := keeps hbl (by omega) HQ2.out
  have hwr : w.heap.size < wr.heap.size := by omega
  have hfl : (((p.edges.take k).filter (hitB p q l)).map Edge.dst).length ≤ k := by rw [List.length_map]; exact Nat.le_trans (List.length_filter_le _ _) (List.length_take_le _ _)
  clear hbl ho
  by_cases hlt : k < p.edges.length
  ·have hbr := HB0.out.trans (HBL.out.mono HB0.out.size)
   obtain ⟨be, oe, rfl, -, hbe, e1, e2, e3⟩ := (HER.out.below hbr).edge hlt
   have hek := HE.out k hlt
   obtain ⟨hll, hla⟩ := labAt_idx hek
   obtain ⟨bl, ol, rfl, -, hbl2, c1⟩ := (HLR.out.below hbr).one hll
   simp only [encS, List.getElem?_cons_zero] at c1
   rw [← hla] at c1
   have hl0 : ((p.edges[k].lab.toNat : Nat) : Int) = p.edges[k].lab := by have := hek.l0; omega
   have hl1 := hek.l1
   have hl2 := hek.l0
   obtain ⟨e, hee⟩ : ∃ e, e = p.edges[k] := ⟨_, rfl⟩
   obtain ⟨m, hm⟩ : ∃ m, m = p.edges[k].lab.toNat := ⟨_, rfl⟩
   rw [← hm] at c1 hl0 hll
   rw [← hee] at e1 e2 e3 c1 hl0 hl1 hl2
   have HEE := Lib.hid hee
   rw [← hl0] at e2
   have HBA : Hid (Below wB.heap.size wB (wr.alloc (.cells #[.int .i64 e.src, .int .i64 m, .int .i64 e.dst] 59))) := HBL.out.alloc hsz _
   have HSA : Hid (SliceK 1 encI lo2 (wr.alloc (.cells #[.int .i64 e.src, .int .i64 m, .int .i64 e.dst] 59)) sv [q]) := HS.out.below (hbr.alloc hbr.size _)
   have HOA : Hid ((wr.alloc (.cells #[.int .i64 e.src, .int .i64 m, .int .i64 e.dst] 59)).ownsRow wB.heap.size 2 1 u7 (((p.edges.take k).filter (hitB p q l)).map Edge.dst).length ((((p.edges.take k).filter (hitB p q l)).map Edge.dst).map (Value.int .i64))) := HO.out.alloc _
   have hml : (m : Int) < (p.labels.length : Int) := by omega
   clear hl0 hl1 hl2 hek hbr hla
   cases g1 : ((labAt p e).toList == l.toList)
   ·have HG : Hid (hitB p q l p.edges[k] = false) := by unfold Hid hitB; rw [← hee, g1, Bool.and_false]
    clear hee hm
    go_wp2_with fail
    go_roundw
    case rel => exact ⟨k + 1, by omega, by go_num, HBA.out, by rw [miss_take hlt HG.out]; exact HOA.out⟩
    case measure => simp [intOf]; omega
   ·cases g2 : (q == e.src)
    ·have HG : Hid (hitB p q l p.edges[k] = false) := by
      unfold Hid hitB
      rw [← hee]
      have : (e.src == q) = false := by rw [beq_eq_false_iff_ne] at g2 ⊢; exact fun h => g2 h.symm
      rw [this, Bool.false_and]
     have HG2 : Hid (([q].any fun y => y == e.src) = false) := by unfold Hid; simp [g2]
     clear hee hm g2
     go_wp2_with fail
     refine (Contains_ints lo2 _ _ [q] _ HSA.out).mono ?_
     rintro e' w' ⟨rfl, rfl⟩
     rw [HG2.out]
     go_wp2_with fail
     go_roundw
     case rel => exact ⟨k + 1, by omega, by go_num, HBA.out, by rw [miss_take hlt HG.out]; exact HOA.out⟩
     case measure => simp [intOf]; omega
    ·have HG : Hid (hitB p q l p.edges[k] = true) := by
      unfold Hid hitB
      rw [← hee]
      have : (e.src == q) = true := by rw [beq_iff_eq] at g2 ⊢; exact g2.symm
      rw [this, g1]; rfl
     have HG2 : Hid (([q].any fun y => y == e.src) = true) := by unfold Hid; simp [g2]
     have HD : Hid (p.edges[k].dst = e.dst) := by unfold Hid; rw [← hee]
     clear hee hm g2
     have hfz := hfl
     generalize hfs : ((p.edges.take k).filter (hitB p q l)).map Edge.dst = fs at *
     have HFS := Lib.hid hfs
     clear hfs
     go_wp2_with fail
     refine (Contains_ints lo2 _ _ [q] _ HSA.out).mono ?_
     rintro e' w' ⟨rfl, rfl⟩
     rw [HG2.out]
     go_wp2_with (at_builtin; refine wpList_append_own _ rfl _ _ 28 rfl wB.heap.size 2 i0 (.int .i64 0) 1 8 Tryz.underlying28 hi hz0 hz1 hz2 rfl (by decide) _ _ _ rfl (HOA.out.alloc _) ⟨wr.heap.size + 1, 0, none⟩ 1 1 [.int .i64 e.dst] rfl rfl ?c1 ?c2 ?c3 ?c4 ?c5 ?_)
     case c1 => have := cell_one_new (wr.alloc (.cells #[.int .i64 e.src, .int .i64 m, .int .i64 e.dst] 59)) (.int .i64 e.dst) 2; simpa using this
     case c2 => intro u hu; simp at hu; subst hu; rfl
     case c3 => simp [maxLen]; omega
     case c4 => omega
     case c5 => simp; omega
     intro v' w3 ho1 hg1 _
     have HO2 : Hid (w3.ownsRow wB.heap.size 2 1 v' (fs ++ [e.dst]).length ((fs ++ [e.dst]).map (Value.int .i64))) := by
      unfold Hid
      rw [List.length_append, List.map_append, hwz]
      exact ho1
     have HB2 : Hid (Below wB.heap.size wB w3) := (HBA.out.alloc (by simp; omega) _).grown hg1 (by simp; omega) (fun b e => (HO.out.lt b e).1)
     clear ho1 hg1
     go_wp2_with fail
     go_roundw
     case rel => exact ⟨k + 1, by omega, by go_num, HB2.out, by rw [hit_take hlt HG.out, HFS.out, HD.out]; exact HO2.out⟩
     case measure => simp [intOf]; omega
  ·obtain rfl : k = p.edges.length := by omega
   have HO2 : Hid (wr.ownsRow wB.heap.size 2 1 u7 (behind p q l).length ((behind p q l).map (Value.int .i64))) := by
    have := HO.out
    rw [List.take_length] at this
    exact this
   obtain ⟨a7, c7, rfl, -, -⟩ := owns_slice HO2.out
   clear HO HER HLR q2
   go_wp2_with fail
   refine (Sort_one _ _ _ _ hone).mono ?_
   rintro e' w' ⟨rfl, rfl⟩
   go_wp2_with fail
   refine (Compact_one _ _ _ _ hone).mono ?_
   rintro e' w' ⟨rfl, rfl⟩
   go_wp2_with fail
   go_ret
   exact ⟨_, rfl, HB0.out.trans (HBL.out.mono HB0.out.size), own_lower HO2.out HB0.out.size⟩

end Go.Proofs.YtmeibnhhlknbfaaGreatDoor

namespace Go.Proofs.YtmeibnhhlknbfaaGreatDoor
open Go Go.RowKit

set_option maxRecDepth 100000 in
set_option maxHeartbeats 1000000 in
theorem step_any (lo : Nat) (p : Lts) (lv ev : Value) (q : Int) (l : ByteArray) (w : World) (hvp : Valid p) (hsp : Single p) (hl : SliceK 1 encS lo w lv p.labels) (he : SliceK 3 encE lo w ev p.edges) :
  Calls Tryz.prog 30 #[.agg #[.int .i64 p.states, .int .i64 p.initial, lv, ev], .int .i64 q, .string l] w fun e w' => e = .returned (.int .i64 (goTo p q l)) ∧ Below w.heap.size w w' := by
 have HB0 := Lib.hid (box_below w #[.int .i64 p.states, .int .i64 p.initial, lv, ev] 27)
 by_cases hq : q < 0
 ·have HF : Hid (goTo p q l = -1) := by unfold Hid goTo; rw [if_pos hq]
  clear hvp hsp hl he
  go_enter Tryz.func30, Tryz.ntmps30
  go_wp2_with fail
  go_ret
  exact ⟨ret_int HF.out.symm, HB0.out⟩
 ·have hq' : ¬ q < 0 := hq
  have HF := Lib.hid (goTo_behind (p := p) (q := q) (by omega) l)
  have HB1 : Hid (Below w.heap.size w ((w.alloc (.cells #[.int .i64 p.states, .int .i64 p.initial, lv, ev] 27)).alloc (.cells #[.int .i64 q] 2))) := HB0.out.alloc HB0.out.size _
  have HS : Hid (SliceK 1 encI 0 ((w.alloc (.cells #[.int .i64 p.states, .int .i64 p.initial, lv, ev] 27)).alloc (.cells #[.int .i64 q] 2)) (.slice (some ⟨w.heap.size + 1, 0, none⟩) 1 1) [q]) := by
   have := World.ownsRow_lit (base := 0) (e := 2) (size := 1) (w.alloc (.cells #[.int .i64 p.states, .int .i64 p.initial, lv, ev] 27)) #[.int .i64 q] 1 (Nat.zero_le _) (by decide) (by simp)
   have e9 : (w.alloc (.cells #[.int .i64 p.states, .int .i64 p.initial, lv, ev] 27)).heap.size = w.heap.size + 1 := by simp
   rw [e9] at this
   exact SliceK.of_owns (e := 2) encI_len rfl (by rw [flat_encI]; simpa using this)
  have HC := Lib.hid (follow_one lo 0 p lv ev (.slice (some ⟨w.heap.size + 1, 0, none⟩) 1 1) q l _ hvp hsp (hl.below HB1.out) (he.below HB1.out) HS.out)
  clear hvp hsp hl he hq
  go_enter Tryz.func30, Tryz.ntmps30
  go_wp2_with fail
  refine Calls.mono HC.out ?_
  rintro e w1 ⟨v, rfl, hb1, ho1⟩
  have HB2 := Lib.hid (HB1.out.trans (hb1.mono HB1.out.size))
  clear hb1
  obtain ⟨av, cv, rfl, hc1, hc2⟩ := owns_slice ho1
  cases hbh : behind p q l with
  | nil =>
   have HG : Hid (goTo p q l = -1) := by unfold Hid; rw [HF.out, hbh]; rfl
   clear ho1 hc1
   simp only [List.length_nil]
   go_wp2_with fail
   go_ret
   exact ⟨ret_int HG.out.symm, HB2.out⟩
  | cons x r =>
   have HG : Hid (goTo p q l = x) := by unfold Hid; rw [HF.out, hbh]; rfl
   rw [hbh] at ho1
   have hsl : SliceK 1 encI 0 w1 (.slice av (x :: r).length cv) (x :: r) := SliceK.of_owns (e := 2) encI_len rfl (by rw [flat_encI]; exact own_lower ho1 (Nat.zero_le _))
   obtain ⟨a2, c2, e2, h2, h3, hrow⟩ := hsl
   simp only [Value.slice.injEq, true_and] at e2
   obtain ⟨rfl, rfl⟩ := e2
   obtain ⟨b1, o1, rfl, -, hbs, k1⟩ := hrow.one (i := 0) (by simp)
   simp only [encI, List.getElem?_cons_zero, List.getElem_cons_zero, Nat.add_zero] at k1
   have hlen : (0 : Int) < ((x :: r).length : Int) := by simp
   obtain ⟨n, hn⟩ : ∃ n, n = (x :: r).length := ⟨_, rfl⟩
   rw [← hn] at hlen
   simp only [← hn]
   clear ho1 hrow hc1 h2 hn hbh
   go_wp2_with fail
   go_ret
   exact ⟨ret_int HG.out.symm, HB2.out⟩

end Go.Proofs.YtmeibnhhlknbfaaGreatDoor
