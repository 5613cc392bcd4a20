/-
  The program's visible at any label, weakly, weakWay.
  The program's readyLabels.
  The program's simulated, for all kinds.
-/
import Derived.Test.YtbjbjbnbapeajaaGreatDoorQ6
import Derived.Test.YtbjbjbnbapeajaaGreatDoorQ11
import Derived.Deep.RegionHeld3
import Derived.Test.YtbjbjbnbapeajaaGreatDoorQ8
import Derived.Deep.AppendLies
namespace Go.Proofs.YtbjbjbnbapeajaaGreatDoor
open Go Go.RowKit

theorem followL_in {b : Lts} (hv : Valid b) {cur : List Int} {l : ByteArray} : ∀ x ∈ followL b cur l, 0 ≤ x ∧ x < b.states := by
 intro x hx
 have hm := ((sort_compact_is (followR b cur l)).mem x).1 hx
 obtain ⟨e, he, -, -, rfl⟩ := mem_followR.1 hm
 obtain ⟨i, hi, rfl⟩ := List.mem_iff_getElem.1 he
 exact ⟨(hv.edge i hi).d0, (hv.edge i hi).d1⟩
theorem followL_nodup (b : Lts) (cur : List Int) (l : ByteArray) : (followL b cur l).Nodup := by
 rw [List.nodup_iff_pairwise_ne]
 exact (sort_compact_is (followR b cur l)).asc.imp fun h => by omega
noncomputable section
def nearL (b : Lts) (y : Int) : List Int := setL b.states (clos b fun x => x ∈ [y])
def visL (b : Lts) (cur : List Int) (l : ByteArray) : List Int := setL b.states (clos b fun x => x ∈ followL b cur l)
def wkL (b : Lts) (y : Int) (l : ByteArray) : List Int := if (l.toList == [116, 97, 117]) = true then nearL b y else visL b (nearL b y) l
end
theorem nearL_mem {b : Lts} (hv : Valid b) {y : Int} (hy : 0 ≤ y ∧ y < b.states) (w : Int) : w ∈ nearL b y ↔ clos b (fun x => x = y) w := by
 unfold nearL
 rw [(setL_is (clos.inside hv fun x hx => by rw [List.mem_singleton] at hx; subst hx; exact hy)).mem]
 have e : (fun x => x ∈ [y]) = fun x => x = y := by funext x; simp
 rw [e]
theorem clos_union {b : Lts} {Q : Int → Prop} {w : Int} (h : clos b Q w) : ∃ x, Q x ∧ clos b (fun z => z = x) w := by
 obtain ⟨a, ha, hs⟩ := h
 exact ⟨a, ha, a, rfl, hs⟩
theorem wkL_mem {b : Lts} (hv : Valid b) {y : Int} (hy : 0 ≤ y ∧ y < b.states) (l : ByteArray) (w : Int) : w ∈ wkL b y l ↔ tgtK 2 b y l w = true ∧ 0 ≤ w ∧ w < b.states := by
 have hin : wkP b y l w → 0 ≤ w ∧ w < b.states := wkP_in hv hy
 unfold tgtK
 rw [if_pos rfl, wkB_iff]
 have hk : w ∈ wkL b y l ↔ wkP b y l w := by
  unfold wkL wkP
  by_cases ht : (l.toList == [116, 97, 117]) = true
  ·have he : l.toList = tauB := by rw [beq_iff_eq] at ht; exact ht
   rw [if_pos ht, nearL_mem hv hy]
   constructor
   ·intro h; exact .inl ⟨he, h⟩
   ·rintro (⟨-, h⟩ | ⟨h, -⟩)
    ·exact h
    ·exact absurd he h
  ·have he : l.toList ≠ tauB := fun e => ht (by rw [e]; rfl)
   rw [if_neg ht]
   unfold visL
   rw [(setL_is (clos.inside hv fun x hx => followL_in hv x hx)).mem]
   constructor
   ·intro h
    obtain ⟨x, hx, hc⟩ := clos_union h
    have hm := ((sort_compact_is (followR b (nearL b y) l)).mem x).1 hx
    obtain ⟨e, hem, h1, h2, rfl⟩ := mem_followR.1 hm
    exact .inr ⟨he, e, hem, (nearL_mem hv hy _).1 h1, h2, hc⟩
   ·rintro (⟨h, -⟩ | ⟨-, e, hem, h1, h2, h3⟩)
    ·exact absurd h he
    ·obtain ⟨a0, ha0, hs⟩ := h3
     subst ha0
     refine ⟨e.dst, ?_, hs⟩
     exact ((sort_compact_is (followR b (nearL b y) l)).mem _).2 (mem_followR.2 ⟨e, hem, (nearL_mem hv hy _).2 h1, h2, rfl⟩)
 rw [hk]
 exact ⟨fun h => ⟨h, hin h⟩, fun h => h.1⟩

set_option maxRecDepth 100000 in
set_option maxHeartbeats 2000000 in
theorem visibleL_any (lo lo2 : Nat) (t : Lts) (lv ev sv : Value) (cur : List Int) (l : ByteArray) (w : World) (hv : Valid t) (hl : SliceK 1 encS lo w lv t.labels) (he : SliceK 3 encE lo w ev t.edges) (hs : SliceK 1 encI lo2 w sv cur) :
  Calls Tryz.prog 142 #[.agg #[.int .i64 t.states, .int .i64 t.initial, lv, ev], sv, .string l] w (MadeNums (visL t cur l) w) := by
 have HV := Lib.hid hv
 have HL := Lib.hid hl
 have HE := Lib.hid he
 have HS := Lib.hid hs
 have HIN : Hid (∀ x ∈ followL t cur l, 0 ≤ x ∧ x < t.states) := followL_in hv
 have HND : Hid (followL t cur l).Nodup := followL_nodup t cur l
 have HN : Hid (setL t.states (clos t fun y => y ∈ followL t cur l) = visL t cur l) := rfl
 obtain ⟨wB, hwB⟩ : ∃ wB, wB = w.alloc (.cells #[.int .i64 t.states, .int .i64 t.initial, lv, ev] 29) := ⟨_, rfl⟩
 have hb0 : Below w.heap.size w wB := by rw [hwB]; exact (Below.refl _ _).alloc (Nat.le_refl _) _
 have hx0 : Blk wB w.heap.size [.int .i64 t.states, .int .i64 t.initial, lv, ev] 29 := by rw [hwB]; exact Blk.new w _ _
 have HB0 := Lib.hid hb0
 have HWB := Lib.hid hwB
 obtain ⟨bx, hbx⟩ : ∃ bx, bx = w.heap.size := ⟨_, rfl⟩
 rw [← hbx] at hx0
 have HBX := Lib.hid hbx
 have hbw := hx0.lt
 have hD : Below wB.heap.size wB wB.drew := (Below.refl _ _).drew
 have HD := Lib.hid hD
 have W0 := keeps hD hbw (hx0.cell 0 rfl)
 have W1 := keeps hD hbw (hx0.cell 1 rfl)
 have W2 := keeps hD hbw (hx0.cell 2 rfl)
 have W3 := keeps hD hbw (hx0.cell 3 rfl)
 have V0 := hx0.cell 0 rfl
 have V1 := hx0.cell 1 rfl
 have V2 := hx0.cell 2 rfl
 have V3 := hx0.cell 3 rfl
 have hb1 : Below w.heap.size w wB.drew := hb0.trans (hD.mono hb0.size)
 have HF := Lib.hid (follow_any lo lo2 t lv ev sv cur l wB.drew hv (hl.below hb1) (he.below hb1) (hs.below hb1))
 have HB1 := Lib.hid hb1
 clear hv hl he hs hb0 hx0 hwB hbx hD hb1
 go_enter Tryz.func142, Tryz.ntmps142
 go_wp2
 rw [← HWB.out, ← HBX.out]
 go_region_held3 (fun w' => w'.cell? ⟨bx, 0, none⟩ = some (.int .i64 t.states) ∧ w'.cell? ⟨bx, 1, none⟩ = some (.int .i64 t.initial) ∧ w'.cell? ⟨bx, 2, none⟩ = some lv ∧ w'.cell? ⟨bx, 3, none⟩ = some ev)
  (first
   | (refine ⟨?_, ?_, ?_, ?_⟩ <;> assumption)
   | go_keep)
  (first
   | (go_at_call 105; refine Calls.mono HF.out ?_; rintro e w9 ⟨v9, rfl, hb9, ho9⟩; have k0 := keeps hb9 (by simp; omega) W0; have k1 := keeps hb9 (by simp; omega) W1; have k2 := keeps hb9 (by simp; omega) W2; have k3 := keeps hb9 (by simp; omega) W3)
   | (go_at_call 141; refine Calls.mono (internal_any lo wB.drew.heap.size t lv ev v9 (followL t cur l) w9 HV.out (HL.out.below (HB1.out.trans (hb9.mono HB1.out.size))) (HE.out.below (HB1.out.trans (hb9.mono HB1.out.size))) (SliceK.of_owns (enc := encI) encI_len rfl (by rw [flat_encI]; exact ho9)) HIN.out HND.out) ?_; rintro e w8 ⟨v8, rfl, hb8, ho8⟩; have k4 := keeps hb8 (by have := hb9.size; simp at this; omega) k0; have k5 := keeps hb8 (by have := hb9.size; simp at this; omega) k1; have k6 := keeps hb8 (by have := hb9.size; simp at this; omega) k2; have k7 := keeps hb8 (by have := hb9.size; simp at this; omega) k3))
 rw [HN.out] at ho8
 have hz := hb9.size
 have hz2 := HB1.out.size
 have HBF := Lib.hid (HB1.out.trans ((hb9.trans (hb8.mono hz)).mono hz2))
 have HOF := Lib.hid (own_lower ho8 (Nat.le_trans hz2 hz))
 clear hb8 hb9 ho8 ho9 k0 k1 k2 k3 k4 k5 k6 k7 W0 W1 W2 W3 V0 V1 V2 V3
 go_wp2
 go_ret
 exact ⟨_, rfl, HBF.out, HOF.out⟩


set_option maxRecDepth 100000 in
set_option maxHeartbeats 1000000 in
theorem weakly_any (lo : Nat) (b : Lts) (lb eb : Value) (y : Int) (l : ByteArray) (w : World) (hv : Valid b) (hy : 0 ≤ y ∧ y < b.states) (hl : SliceK 1 encS lo w lb b.labels) (he : SliceK 3 encE lo w eb b.edges) :
  Calls Tryz.prog 103 #[.agg #[.int .i64 b.states, .int .i64 b.initial, lb, eb], .int .i64 y, .string l] w (MadeNums (wkL b y l) w) := by
 obtain ⟨tb, htb⟩ : ∃ tb, tb = w.heap.size := ⟨_, rfl⟩
 obtain ⟨W, hW⟩ : ∃ W, W = (w.alloc (.cells #[.int .i64 b.states, .int .i64 b.initial, lb, eb] 29)).alloc (.cells #[.int .i64 y] 2) := ⟨_, rfl⟩
 have hb : Below w.heap.size w W := by rw [hW]; exact ((Below.refl _ _).alloc (Nat.le_refl _) _).alloc (by simp) _
 have hT : Blk W tb [.int .i64 b.states, .int .i64 b.initial, lb, eb] 29 := by rw [hW, htb]; exact (Blk.new w _ _).alloc _
 have hY : Blk W (tb + 1) [.int .i64 y] 2 := by
  have h := Blk.new (w.alloc (.cells #[.int .i64 b.states, .int .i64 b.initial, lb, eb] 29)) [.int .i64 y] 2
  rw [World.size_alloc, ← htb] at h
  rw [hW]
  exact h
 have hS : SliceK 1 encI 0 W (.slice (some ⟨tb + 1, 0, none⟩) 1 1) [y] := ⟨_, _, rfl, by simp, by simp, .inr ⟨tb + 1, 0, rfl, Nat.zero_le _, hY.lt, fun i hi j hj => by
  have hi0 : i = 0 := by simpa using hi
  have hj0 : j = 0 := by omega
  subst hi0; subst hj0
  exact hY.cell 0 rfl⟩⟩
 have HIN := Lib.hid (internal_any lo 0 b lb eb _ [y] W hv (hl.below hb) (he.below hb) hS (fun x hx => by rw [List.mem_singleton] at hx; subst hx; exact hy) (by simp))
 have HV := Lib.hid hv
 have HL := Lib.hid (hl.below hb)
 have HE := Lib.hid (he.below hb)
 have HB := Lib.hid hb
 have HT := Lib.hid hT
 have HW := Lib.hid hW
 have HTB := Lib.hid htb
 have hsW : w.heap.size ≤ W.heap.size := hb.size
 have t0 := hT.cell 0 rfl
 have t1 := hT.cell 1 rfl
 have t2 := hT.cell 2 rfl
 have t3 := hT.cell 3 rfl
 rw [hW, htb] at t0 t1 t2 t3
 have HNL : Hid (setL b.states (clos b fun x => x ∈ [y]) = nearL b y) := rfl
 rw [HNL.out] at HIN
 clear hv hy hl he hb hT hY hS hW htb HNL
 obtain ⟨ct, hct⟩ : ∃ ct, ct = (l.toList == [116, 97, 117]) := ⟨_, rfl⟩
 have htau : (l.toList == [116, 97, 117]) = ct := hct.symm
 have HCT := Lib.hid htau
 clear hct
 go_enter Tryz.func103, Tryz.ntmps103
 go_wp2_with fail
 rw [← HW.out]
 try rw [← HTB.out]
 refine Calls.mono HIN.out ?_
 rintro e w1 ⟨v1, rfl, hb1, ho1⟩
 have HB1 := Lib.hid (HB.out.trans (hb1.mono hsW))
 have hs1 : w.heap.size ≤ w1.heap.size := HB1.out.size
 have HO1 := Lib.hid ho1
 have HT1 := Lib.hid (HT.out.below hb1)
 have HV1 := Lib.hid (visibleL_any lo W.heap.size b lb eb v1 (nearL b y) l w1 HV.out (HL.out.below hb1) (HE.out.below hb1) (SliceK.of_owns (enc := encI) encI_len rfl (by rw [flat_encI]; exact ho1)))
 clear hb1 ho1 t0 t1 t2 t3 HIN
 have t0 := HT1.out.cell 0 rfl
 have t1 := HT1.out.cell 1 rfl
 have t2 := HT1.out.cell 2 rfl
 have t3 := HT1.out.cell 3 rfl
 cases ct
 ·have HWK : Hid (wkL b y l = visL b (nearL b y) l) := by unfold Hid wkL; rw [if_neg (by rw [HCT.out]; decide)]
  go_wp2_with fail
  refine Calls.mono HV1.out ?_
  rintro e w2 ⟨v2, rfl, hb2, ho2⟩
  have HB2 := Lib.hid (HB1.out.trans (hb2.mono hs1))
  have HO2 := Lib.hid (own_lower ho2 hs1)
  clear hb2 ho2 HV1
  go_wp2
  go_ret
  exact ⟨_, rfl, HB2.out, by rw [HWK.out]; exact HO2.out⟩
 ·have HWK : Hid (wkL b y l = nearL b y) := by unfold Hid wkL; rw [if_pos HCT.out]
  go_wp2
  go_ret
  exact ⟨_, rfl, HB1.out, by rw [HWK.out]; exact own_lower HO1.out hsW⟩

set_option maxRecDepth 100000 in
theorem weak1_any (rb vb fid : Nat) (caps : Array Value) (N : PairSet) (q0 q1 q2 q3 q4 q5 q6 q7 : Value) (v x : Int) (w : World) (hr : Blk w rb [q0, q1, q2, q3, q4, q5, q6, q7, .func (.func fid) #[] caps] 95) (hv : Blk w vb [.int .i64 v] 2)
  (eg : ∀ args w, (callFunc fid args).run Tryz.prog w = .ok (.enter fid args) w) (hH : HasFn fid caps N w) (hs : Small2 (v, x)) :
  Calls Tryz.prog 104 #[.int .i64 x, .pointer (some ⟨rb, 0, none⟩), .pointer (some ⟨vb, 0, none⟩)] w fun e w' => e = .returned (.bool (N v x)) ∧ Below w.heap.size w w' := by
 have HC := Lib.hid (hH w (Below.refl _ _) v x hs)
 have r8 := hr.cell 8 rfl
 have v0 := hv.cell 0 rfl
 obtain ⟨b, hb⟩ : ∃ b, b = N v x := ⟨_, rfl⟩
 rw [← hb] at HC ⊢
 clear hr hv hH hs hb
 go_enter Tryz.func104, Tryz.ntmps104
 go_wp2_with fail
 refine Calls.mono HC.out ?_
 rintro e w' ⟨rfl, hb1⟩
 have HB := Lib.hid hb1
 clear hb1 HC
 go_wp2_with fail
 go_ret
 exact ⟨rfl, HB.out⟩

set_option maxRecDepth 100000 in
set_option maxHeartbeats 1000000 in
theorem weakWay_any (lo fid : Nat) (caps : Array Value) (N : PairSet) (a b : Lts) (la ea lb eb : Value) (x y v : Int) (l : ByteArray) (w : World) (hvb : Valid b) (hy : 0 ≤ y ∧ y < b.states) (hlb : SliceK 1 encS lo w lb b.labels) (heb : SliceK 3 encE lo w eb b.edges)
  (eg : ∀ args w, (callFunc fid args).run Tryz.prog w = .ok (.enter fid args) w) (hH : HasFn fid caps N w) (h0 : 0 ≤ v) (h1 : v < 40) :
  Calls Tryz.prog 85 #[.agg #[.int .i64 a.states, .int .i64 a.initial, la, ea, .int .i64 b.states, .int .i64 b.initial, lb, eb, .func (.func fid) #[] caps], .int .i64 x, .int .i64 y, .string l, .int .i64 v] w fun e w' => e = .returned (.bool ((wkL b y l).any fun z => N v z)) ∧ Below w.heap.size w w' := by
 obtain ⟨rb, hrb⟩ : ∃ rb, rb = w.heap.size := ⟨_, rfl⟩
 obtain ⟨W, hW⟩ : ∃ W, W = (w.alloc (.cells #[.int .i64 a.states, .int .i64 a.initial, la, ea, .int .i64 b.states, .int .i64 b.initial, lb, eb, .func (.func fid) #[] caps] 95)).alloc (.cells #[.int .i64 v] 2) := ⟨_, rfl⟩
 have hb : Below w.heap.size w W := by rw [hW]; exact ((Below.refl _ _).alloc (Nat.le_refl _) _).alloc (by simp) _
 have hR : Blk W rb [.int .i64 a.states, .int .i64 a.initial, la, ea, .int .i64 b.states, .int .i64 b.initial, lb, eb, .func (.func fid) #[] caps] 95 := by rw [hW, hrb]; exact (Blk.new w _ _).alloc _
 have hV : Blk W (rb + 1) [.int .i64 v] 2 := by
  have h := Blk.new (w.alloc (.cells #[.int .i64 a.states, .int .i64 a.initial, la, ea, .int .i64 b.states, .int .i64 b.initial, lb, eb, .func (.func fid) #[] caps] 95)) [.int .i64 v] 2
  rw [World.size_alloc, ← hrb] at h
  rw [hW]
  exact h
 have HF := Lib.hid (weakly_any lo b lb eb y l W hvb hy (hlb.below hb) (heb.below hb))
 have HSM : Hid (∀ z ∈ wkL b y l, Small2 (v, z)) := fun z hz => by
  have h2 := (wkL_mem hvb hy l z).1 hz
  have h3 := hvb.st1
  exact ⟨⟨h0, h1⟩, h2.2.1, by show z < 40; omega⟩
 have HB := Lib.hid hb
 have HR := Lib.hid hR
 have HV := Lib.hid hV
 have HH := Lib.hid (hH.below hb)
 have HW := Lib.hid hW
 have HRB := Lib.hid hrb
 have hsW : w.heap.size ≤ W.heap.size := hb.size
 have r4 := hR.cell 4 rfl
 have r5 := hR.cell 5 rfl
 have r6 := hR.cell 6 rfl
 have r7 := hR.cell 7 rfl
 rw [hW, hrb] at r4 r5 r6 r7
 clear hvb hy hlb heb hH h0 h1 hb hR hV hW hrb
 go_enter Tryz.func85, Tryz.ntmps85
 go_wp2_with fail
 rw [← HW.out]
 try rw [← HRB.out]
 refine Calls.mono HF.out ?_
 rintro e w1 ⟨fv, rfl, hb1, ho1⟩
 have hs1 : SliceK 1 encI W.heap.size w1 fv (wkL b y l) := SliceK.of_owns (e := 2) encI_len rfl (by rw [flat_encI]; exact ho1)
 have HCF := Lib.hid (ContainsFuncI W.heap.size fv (wkL b y l) 104 #[.pointer (some ⟨rb, 0, none⟩), .pointer (some ⟨rb + 1, 0, none⟩)] (fun z => N v z) w1 hs1 (fun args w => by kernel_rfl)
  fun w' hb' z hz => weak1_any rb (rb + 1) fid caps N _ _ _ _ _ _ _ _ v z w' (HR.out.below (hb1.trans (hb'.mono hb1.size))) (HV.out.below (hb1.trans (hb'.mono hb1.size))) eg (HH.out.below (hb1.trans (hb'.mono hb1.size))) (HSM.out z hz))
 have HB1 := Lib.hid (HB.out.trans (hb1.mono hsW))
 obtain ⟨c, hc⟩ : ∃ c, c = (wkL b y l).any fun z => N v z := ⟨_, rfl⟩
 rw [← hc] at HCF
 have HC := Lib.hid hc
 have hs1w := HB1.out.size
 clear hb1 ho1 hs1 r4 r5 r6 r7 HF hc
 go_wp2_with fail
 refine Calls.mono HCF.out ?_
 rintro e w2 ⟨rfl, hb2⟩
 have HB2 := Lib.hid (HB1.out.trans (hb2.mono hs1w))
 clear hb2 HCF
 go_wp2
 go_ret
 exact ⟨ret_bool HC.out, HB2.out⟩

end Go.Proofs.YtbjbjbnbapeajaaGreatDoor

namespace Go.Proofs.YtbjbjbnbapeajaaGreatDoor
open Go Go.RowKit

theorem info_strQ : (Tryz.prog.info? 9).map (fun i => (i.zero, i.size, i.bytes)) = some (some (.string ⟨#[]⟩), 1, 16) := by kernel_rfl
def MadeTxQ (xs : List ByteArray) (w : World) (e : Ending) (w' : World) : Prop := ∃ v, e = .returned v ∧ Below w.heap.size w w' ∧ OwnStrs w.heap.size w' v xs

set_option maxRecDepth 100000 in
set_option maxHeartbeats 4000000 in
theorem readyQ_any (lo : Nat) (t : Lts) (lv ev : Value) (s : Int) (w : World) (hv : Valid t) (hl : SliceK 1 encS lo w lv t.labels) (he : SliceK 3 encE lo w ev t.edges) :
  Calls Tryz.prog 62 #[.agg #[.int .i64 t.states, .int .i64 t.initial, lv, ev], .int .i64 s] w (MadeTxQ (rdyQ t s) w) := by
 obtain ⟨tb, htb⟩ : ∃ tb, tb = w.heap.size := ⟨_, rfl⟩
 obtain ⟨wA, hwA⟩ : ∃ wA, wA = w.alloc (.cells #[.int .i64 t.states, .int .i64 t.initial, lv, ev] 29) := ⟨_, rfl⟩
 have hbA : Below w.heap.size w wA := by rw [hwA]; exact (Below.refl _ _).alloc (Nat.le_refl _) _
 have hT : Blk wA tb [.int .i64 t.states, .int .i64 t.initial, lv, ev] 29 := by rw [hwA, htb]; exact Blk.new w _ _
 have HO := Lib.hid (out_any lo t lv ev s wA (by have := hv.most; omega) (he.below hbA))
 have HV := Lib.hid hv
 have HT := Lib.hid hT
 obtain ⟨al, cl, rfl, hlc, -, hlrow⟩ := hl.below hbA
 have hL1 := hv.labels.pos
 obtain ⟨bl, ol, rfl, hblw, hcl⟩ : ∃ bl ol, al = some ⟨bl, ol, none⟩ ∧ bl < wA.heap.size ∧ ∀ i (h : i < t.labels.length), wA.cell? ⟨bl, ol + i, none⟩ = some (.string t.labels[i]) := by
  rcases hlrow with h | ⟨bl, ol, h1, -, h3, h4⟩
  ·omega
  ·exact ⟨bl, ol, h1, h3, fun i hi => by have := h4 i hi 0 (by omega); simpa [encS] using this⟩
 obtain ⟨LN, hLN⟩ : ∃ LN, LN = t.labels.length := ⟨_, rfl⟩
 rw [← hLN] at HT HO hwA hlc hL1 ⊢
 have HLN := Lib.hid hLN
 have HCL := Lib.hid hcl
 have HBA := Lib.hid hbA
 have HWA := Lib.hid hwA
 have HTB := Lib.hid htb
 have htl : tb < wA.heap.size := hT.lt
 obtain ⟨i3, hi3, hz30, hz31, hz32⟩ := info_parts info_strQ
 clear hv hl he hwA hbA hT htb hLN hcl hlrow
 go_enter Tryz.func62, Tryz.ntmps62
 go_wp2_with fail
 rw [← HWA.out]
 try rw [← HTB.out]
 refine Calls.mono HO.out ?_
 rintro e w1 ⟨v1, rfl, hb1, ho1⟩
 obtain ⟨oa, oc, rfl, -, -⟩ := owns_slice ho1
 have hom : (outOf t s).length ≤ 300 := Nat.le_trans (List.length_filter_le _ _) HV.out.most
 have hsE : SliceK 3 encE wA.heap.size w1 (.slice oa (outOf t s).length oc) (outOf t s) := SliceK.of_owns (enc := encE) (e := 73) encE_len rfl ho1
 obtain ⟨a9, c9, h9, -, -, hrowE⟩ := hsE
 simp only [Value.slice.injEq] at h9
 obtain ⟨rfl, -, rfl⟩ := h9
 obtain ⟨os, hos⟩ : ∃ os, os = outOf t s := ⟨_, rfl⟩
 have HOK : Hid (∀ e ∈ os, EdgeOk t e) := by unfold Hid; rw [hos]; exact outOf_ok HV.out s
 rw [← hos] at hrowE hom ⊢
 obtain ⟨ON, hON⟩ : ∃ ON, ON = os.length := ⟨_, rfl⟩
 rw [← hON] at hom ⊢
 have HROW := Lib.hid hrowE
 have HON := Lib.hid hON
 have HOS := Lib.hid hos
 have HB1 := Lib.hid hb1
 have hs1 := hb1.size
 clear hb1 ho1 hrowE hON hos HO
 go_wp2
 go_loopw [5, 12] (fun v5 v12 wr => ∃ k : Nat, k ≤ ON ∧ v12 = .int .i64 k ∧ Below w1.heap.size w1 wr ∧ wr.ownsRow w1.heap.size 9 1 v5 k (((os.take k).map (labAt t)).map Value.string)) (fun _ v12 _ => ON - (intOf v12).toNat)
 case atStart => exact ⟨0, Nat.zero_le _, rfl, Below.refl _ _, ⟨rfl, .inl ⟨rfl, rfl⟩⟩⟩
 case round =>
  obtain ⟨k, hk, rfl, hbl, ho⟩ := hrel
  have HBL := Lib.hid hbl
  have HOW := Lib.hid ho
  have hsz := hbl.size
  obtain ⟨va, vc, hv5, -, -⟩ := owns_slice ho
  subst hv5
  by_cases hlt : k < ON
  ·have hlt2 : k < os.length := by rw [← HON.out]; exact hlt
   obtain ⟨be, oe, rfl, -, hbe, e1, e2, e3⟩ := (HROW.out.below hbl).edge hlt2
   have hok := HOK.out _ (List.getElem_mem hlt2)
   have HNX : Hid (((os.take (k + 1)).map (labAt t)).map Value.string = ((os.take k).map (labAt t)).map Value.string ++ [.string (labAt t os[k])]) := by
    unfold Hid
    rw [List.take_succ_eq_append_getElem hlt2, List.map_append, List.map_append]
    rfl
   obtain ⟨l, hl⟩ : ∃ l, l = labAt t os[k] := ⟨_, rfl⟩
   rw [← hl] at HNX
   obtain ⟨ts, hts⟩ : ∃ ts, ts = ((os.take k).map (labAt t)).map Value.string := ⟨_, rfl⟩
   rw [← hts] at HNX ho
   obtain ⟨x, hx⟩ : ∃ x, x = os[k] := ⟨_, rfl⟩
   rw [← hx] at e1 e2 e3 hl hok
   obtain ⟨m, hm⟩ : ∃ m : Nat, (m : Int) = x.lab := ⟨x.lab.toNat, by have := hok.l0; omega⟩
   have hmt : x.lab.toNat = m := by omega
   have hmL2 : m < t.labels.length := by have := hok.l1; omega
   have hmL : m < LN := by have := HLN.out; omega
   have hlm : l = t.labels[m] := by
    rw [hl]
    unfold labAt
    rw [hmt, List.getD_eq_getElem?_getD, List.getElem?_eq_getElem hmL2]
    rfl
   have hcm : wA.cell? ⟨bl, ol + m, none⟩ = some (.string l) := by rw [hlm]; exact HCL.out m hmL2
   rw [← hm] at e2
   obtain ⟨xs, hxs⟩ : ∃ xs, xs = x.src := ⟨_, rfl⟩
   obtain ⟨xd, hxd⟩ : ∃ xd, xd = x.dst := ⟨_, rfl⟩
   rw [← hxs] at e1
   rw [← hxd] at e3
   have hbAr : Below wA.heap.size wA wr := HB1.out.trans (hbl.mono hs1)
   obtain ⟨wD, hwD⟩ : ∃ wD, wD = wr.alloc (.cells #[.int .i64 xs, .int .i64 m, .int .i64 xd] 73) := ⟨_, rfl⟩
   have hbD : Below wA.heap.size wA wD := by rw [hwD]; exact hbAr.alloc (by have := hbAr.size; omega) _
   have t2 := keeps hbD htl (HT.out.cell 2 rfl)
   have cm := keeps hbD hblw hcm
   have HD1 : Hid (Below w1.heap.size w1 (wr.alloc (.cells #[.int .i64 xs, .int .i64 m, .int .i64 xd] 73))) := hbl.alloc hsz _
   have HOD : Hid ((wr.alloc (.cells #[.int .i64 xs, .int .i64 m, .int .i64 xd] 73)).ownsRow w1.heap.size 9 1 (.slice va k vc) k ts) := ho.alloc _
   rw [hwD] at t2 cm
   have htlr : tb < wr.heap.size := by have := hbAr.size; omega
   have hblr : bl < wr.heap.size := by have := hbAr.size; omega
   clear hts HOW
   clear hbl ho hok hl hlm hx hm hmt hmL2 hcm hxs hxd hbAr hwD hbD
   go_wp2_with (at_builtin; refine wpList_append_own _ rfl _ _ 22 rfl w1.heap.size 9 i3 (.string ⟨#[]⟩) 1 16 Tryz.underlying22 hi3 hz30 hz31 hz32 rfl (by decide) _ k _ rfl (HOD.out.alloc _) ⟨wr.heap.size + 1, 0, none⟩ 1 1 [.string l] rfl rfl ?c1 ?c2 ?c3 ?c4 ?c5 ?_)
   case c1 => exact World.news_of_block (cs := #[.string l]) (t := 9) (fr := (0, 0)) (by have h := heap_alloc_new (wr.alloc (.cells #[.int .i64 xs, .int .i64 m, .int .i64 xd] 73)) (.cells #[.string l] 9); rw [World.size_alloc] at h; exact h)
   case c2 => intro u hu; simp at hu; subst hu; rfl
   case c3 => simp [maxLen]; omega
   case c4 => omega
   case c5 => simp; omega
   intro v7 w7 ho7 hg7 _
   have HB7 : Hid (Below w1.heap.size w1 w7) := (HD1.out.alloc HD1.out.size _).grown hg7 (by simp; omega) (fun b e => (HOD.out.lt b e).1)
   have HO7 : Hid (w7.ownsRow w1.heap.size 9 1 v7 (k + 1) (((os.take (k + 1)).map (labAt t)).map Value.string)) := by unfold Hid; rw [HNX.out]; exact ho7
   clear ho7 hg7 t2 cm
   go_wp2
   go_roundw
   case rel => exact ⟨k + 1, by omega, by go_num, HB7.out, HO7.out⟩
   case measure => simp [intOf]; omega
  ·obtain rfl : k = ON := by omega
   have hall : os.take k = os := List.take_of_length_le (by have := HON.out; omega)
   rw [hall] at HOW
   have hln : (os.map (labAt t)).length = k := by rw [List.length_map]; exact HON.out.symm
   have HS1 := Lib.hid (SortL_own w1.heap.size (.slice va k vc) (os.map (labAt t)) wr (by rw [hln]; exact HOW.out) (by omega))
   have HBWr := Lib.hid (HB1.out.trans (hbl.mono hs1))
   have HLN2 := Lib.hid hln
   clear hbl ho hall hln
   go_wp2_with fail
   refine Calls.mono HS1.out ?_
   rintro e w8 ⟨rfl, ho8, hg8⟩
   have HB8 := Lib.hid (HBWr.out.grown hg8 (by exact HBWr.out.size) (fun b e => by have := (HOW.out.lt b e).1; omega))
   have HC8 := Lib.hid (CompactL_own w1.heap.size (.slice va k vc) (os.map (labAt t)) w8 ho8)
   have HLT := Lib.hid (fun b e => (ho8.lt b e).1)
   clear ho8 hg8 HS1
   go_wp2_with fail
   refine Calls.mono HC8.out ?_
   rintro e w9 ⟨v9, rfl, ho9, hg9⟩
   have HB9 := Lib.hid (HB8.out.grown hg9 HB8.out.size (fun b e => by have := HLT.out b e; omega))
   have HO9 := Lib.hid ho9
   clear ho9 hg9 HC8
   go_wp2_with fail
   go_ret
   refine ⟨_, rfl, HBA.out.trans (HB9.out.mono HBA.out.size), ?_⟩
   have h := own_lower HO9.out (Nat.le_trans HBA.out.size hs1)
   rw [HOS.out] at h
   exact h


end Go.Proofs.YtbjbjbnbapeajaaGreatDoor

namespace Go.Proofs.YtbjbjbnbapeajaaGreatDoor
open Go Go.RowKit

/-- What the program asks of a pair. -/
noncomputable def simK (κ : Int) (a b : Lts) : PairAsk := fun N x y => okK κ a b x y && ansK κ a b N x y
theorem simK_mono (κ : Int) (a b : Lts) : MonoA (simK κ a b) := by
 intro N M h x y hn
 unfold simK at *
 rw [Bool.and_eq_true] at *
 exact ⟨hn.1, ansK_mono κ a b N M h x y hn.2⟩
theorem simK_great {κ : Int} {a b : Lts} {N : PairSet} (h : GreatA (simK κ a b) (stK κ a b) N) : GreatA (ansK κ a b) (stK κ a b) N := by
 refine ⟨h.low, fun x y hn => ?_, fun M hl hm => h.all M hl fun x y hxy => ?_⟩
 ·have := h.ans x y hn
  unfold simK at this
  rw [Bool.and_eq_true] at this
  exact this.2
 ·unfold simK
  rw [Bool.and_eq_true]
  have := hl x y hxy
  unfold stK at this
  rw [Bool.and_eq_true] at this
  exact ⟨this.2, hm x y hxy⟩
theorem ansK_strong {κ : Int} (hκ : κ ≠ 2) {a b : Lts} (hvb : Valid b) (N : PairSet) (x y : Int) : ((outOf a x).all fun e => strongB b N y (labAt a e) e.dst) = ansK κ a b N x y := by
 unfold ansK
 congr 1
 funext e
 unfold strongB
 refine ansE2_list fun w => ?_
 unfold tgtK
 have hm : w ∈ followL b [y] (labAt a e) ↔ w ∈ followR b [y] (labAt a e) := (sort_compact_is (followR b [y] (labAt a e))).mem w
 rw [if_neg hκ, hm, mem_followR]
 unfold tgtG
 rw [List.any_eq_true]
 constructor
 ·rintro ⟨f, hf, h1, h2, rfl⟩
  rw [List.mem_singleton] at h1
  obtain ⟨i, hi, rfl⟩ := List.mem_iff_getElem.1 hf
  exact ⟨⟨_, hf, by rw [h1, h2]; simp⟩, (hvb.edge i hi).d0, (hvb.edge i hi).d1⟩
 ·rintro ⟨⟨f, hf, hb⟩, -⟩
  rw [Bool.and_eq_true, Bool.and_eq_true] at hb
  exact ⟨f, hf, by rw [List.mem_singleton]; exact eq_of_beq hb.1.1, eq_of_beq hb.1.2, eq_of_beq hb.2⟩
theorem ansK_weak {a b : Lts} (hvb : Valid b) (N : PairSet) (x y : Int) (hy : 0 ≤ y ∧ y < b.states) : ((outOf a x).all fun e => (wkL b y (labAt a e)).any fun z => N e.dst z) = ansK 2 a b N x y := by
 unfold ansK
 congr 1
 funext e
 exact ansE2_list fun w => wkL_mem hvb hy (labAt a e) w

set_option maxRecDepth 100000 in
set_option maxHeartbeats 2000000 in
theorem simulated_any (lo fid : Nat) (κ : Int) (caps : Array Value) (N : PairSet) (a b : Lts) (la ea lb eb : Value) (x y : Int) (w : World) (hva : Valid a) (hvb : Valid b) (hκ : 0 ≤ κ ∧ κ ≤ 2) (hy : 0 ≤ y ∧ y < b.states) (hla : SliceK 1 encS lo w la a.labels) (hea : SliceK 3 encE lo w ea a.edges)
  (hlb : SliceK 1 encS lo w lb b.labels) (heb : SliceK 3 encE lo w eb b.edges) (eg : ∀ args w, (callFunc fid args).run Tryz.prog w = .ok (.enter fid args) w) (hH : HasFn fid caps N w) :
  Calls Tryz.prog 64 #[.agg #[.int .i64 a.states, .int .i64 a.initial, la, ea, .int .i64 b.states, .int .i64 b.initial, lb, eb, .func (.func fid) #[] caps], .int .i64 κ, .int .i64 x, .int .i64 y] w fun e w' => e = .returned (.bool (simK κ a b N x y)) ∧ Below w.heap.size w w' := by
 obtain ⟨rb, hrb⟩ : ∃ rb, rb = w.heap.size := ⟨_, rfl⟩
 obtain ⟨W, hW⟩ : ∃ W, W = w.alloc (.cells #[.int .i64 a.states, .int .i64 a.initial, la, ea, .int .i64 b.states, .int .i64 b.initial, lb, eb, .func (.func fid) #[] caps] 95) := ⟨_, rfl⟩
 have hb : Below w.heap.size w W := by rw [hW]; exact (Below.refl _ _).alloc (Nat.le_refl _) _
 have hR : Blk W rb [.int .i64 a.states, .int .i64 a.initial, la, ea, .int .i64 b.states, .int .i64 b.initial, lb, eb, .func (.func fid) #[] caps] 95 := by rw [hW, hrb]; exact Blk.new w _ _
 have HST : Hid (∀ (w' : World) (κ' : Int), Below W.heap.size W w' → κ' ≠ 2 → Calls Tryz.prog 84 #[.agg #[.int .i64 a.states, .int .i64 a.initial, la, ea, .int .i64 b.states, .int .i64 b.initial, lb, eb, .func (.func fid) #[] caps], .int .i64 x, .int .i64 y, .func (.func 86) #[] #[]] w' fun e w'' => e = .returned (.bool (ansK κ' a b N x y)) ∧ Below w'.heap.size w' w'') := fun w' κ' hw' hk' => by
  have hb' := hb.trans (hw'.mono hb.size)
  have := answered_any lo fid 86 caps a b la ea lb eb (fun e => strongB b N y (labAt a e) e.dst) x y w' hva (hla.below hb') (hea.below hb') (fun args w => by kernel_rfl) (fun w2 h2 e he => by
   have h3 := hb'.trans (h2.mono hb'.size)
   obtain ⟨i, hi, rfl⟩ := List.mem_iff_getElem.1 (List.mem_filter.1 he).1
   have hok := hva.edge i hi
   exact strongly_any lo fid caps N a b la ea lb eb x y _ (labAt a a.edges[i]) w2 hvb (hlb.below h3) (heb.below h3) eg (hH.below h3) hok.d0 (by have := hok.d1; have := hva.st1; omega))
  rw [ansK_strong hk' hvb] at this
  exact this
 have HWK : Hid (∀ w', Below W.heap.size W w' → Calls Tryz.prog 84 #[.agg #[.int .i64 a.states, .int .i64 a.initial, la, ea, .int .i64 b.states, .int .i64 b.initial, lb, eb, .func (.func fid) #[] caps], .int .i64 x, .int .i64 y, .func (.func 85) #[] #[]] w' fun e w'' => e = .returned (.bool (ansK 2 a b N x y)) ∧ Below w'.heap.size w' w'') := fun w' hw' => by
  have hb' := hb.trans (hw'.mono hb.size)
  have := answered_any lo fid 85 caps a b la ea lb eb (fun e => (wkL b y (labAt a e)).any fun z => N e.dst z) x y w' hva (hla.below hb') (hea.below hb') (fun args w => by kernel_rfl) (fun w2 h2 e he => by
   have h3 := hb'.trans (h2.mono hb'.size)
   obtain ⟨i, hi, rfl⟩ := List.mem_iff_getElem.1 (List.mem_filter.1 he).1
   have hok := hva.edge i hi
   exact weakWay_any lo fid caps N a b la ea lb eb x y _ (labAt a a.edges[i]) w2 hvb hy (hlb.below h3) (heb.below h3) eg (hH.below h3) hok.d0 (by have := hok.d1; have := hva.st1; omega))
  rw [ansK_weak hvb N x y hy] at this
  exact this
 have hD : Below W.heap.size W W.drew := (Below.refl _ _).drew
 have HR1 := Lib.hid (readyQ_any lo a la ea x W.drew hva ((hla.below hb).below hD) ((hea.below hb).below hD))
 have HR2 : Hid (∀ w', Below W.heap.size W w' → Calls Tryz.prog 62 #[.agg #[.int .i64 b.states, .int .i64 b.initial, lb, eb], .int .i64 y] w' (MadeTxQ (rdyQ b y) w')) := fun w' hw' => readyQ_any lo b lb eb y w' hvb ((hlb.below hb).below hw') ((heb.below hb).below hw')
 have hz1 : (rdyQ a x).length ≤ 1048576 := by rw [rdyTo_all hva]; have := rdyTo_len a x a.labels.length; have := hva.labels.most; omega
 have hz2 : (rdyQ b y).length ≤ 1048576 := by rw [rdyTo_all hvb]; have := rdyTo_len b y b.labels.length; have := hvb.labels.most; omega
 have HEQ : Hid (∀ (w' : World) (l1 l2 : Nat) (v1 v2 : Value), SliceK 1 encS l1 w' v1 (rdyQ a x) → SliceK 1 encS l2 w' v2 (rdyQ b y) → Calls Tryz.prog 61 #[v1, v2] w' fun e w'' => ∃ c : Bool, e = .returned (.bool c) ∧ (c = true ↔ rdyQ a x = rdyQ b y) ∧ Below w'.heap.size w' w'') :=
  fun w' l1 l2 v1 v2 h1 h2 => EqualS_any l1 l2 v1 v2 _ _ w' h1 h2 hz1 hz2
 have HSW : Hid (∀ w', Below W.heap.size W w' → w'.cell? ⟨rb, 0, none⟩ = some (.int .i64 a.states) ∧ w'.cell? ⟨rb, 1, none⟩ = some (.int .i64 a.initial) ∧ w'.cell? ⟨rb, 2, none⟩ = some la ∧ w'.cell? ⟨rb, 3, none⟩ = some ea ∧ w'.cell? ⟨rb, 4, none⟩ = some (.int .i64 b.states) ∧ w'.cell? ⟨rb, 5, none⟩ = some (.int .i64 b.initial) ∧ w'.cell? ⟨rb, 6, none⟩ = some lb ∧ w'.cell? ⟨rb, 7, none⟩ = some eb) := fun w' h =>
  ⟨(hR.below h).cell 0 rfl, (hR.below h).cell 1 rfl, (hR.below h).cell 2 rfl, (hR.below h).cell 3 rfl, (hR.below h).cell 4 rfl, (hR.below h).cell 5 rfl, (hR.below h).cell 6 rfl, (hR.below h).cell 7 rfl⟩
 have HB := Lib.hid hb
 have HD := Lib.hid hD
 have HW := Lib.hid hW
 have HRB := Lib.hid hrb
 have hsW : w.heap.size ≤ W.heap.size := hb.size
 have HR := Lib.hid hR
 clear hva hvb hla hea hlb heb hH hb hR hW hrb hD hz1 hz2
 by_cases hk1 : κ = 1
 ·subst hk1
  go_enter Tryz.func64, Tryz.ntmps64
  go_wp2
  rw [← HW.out]
  try rw [← HRB.out]
  go_region_held3 (fun w' => w'.cell? ⟨rb, 0, none⟩ = some (.int .i64 a.states) ∧ w'.cell? ⟨rb, 1, none⟩ = some (.int .i64 a.initial) ∧ w'.cell? ⟨rb, 2, none⟩ = some la ∧ w'.cell? ⟨rb, 3, none⟩ = some ea ∧ w'.cell? ⟨rb, 4, none⟩ = some (.int .i64 b.states) ∧ w'.cell? ⟨rb, 5, none⟩ = some (.int .i64 b.initial) ∧ w'.cell? ⟨rb, 6, none⟩ = some lb ∧ w'.cell? ⟨rb, 7, none⟩ = some eb)
   (first
    | with_reducible exact HSW.out _ HD.out
    | with_reducible exact HSW.out _ hq1
    | with_reducible exact HSW.out _ hq2
    | with_reducible exact HSW.out _ hq3
    | go_keep)
   (first
    | (go_at_call_of 62 (Value.agg #[Value.int .i64 a.states, Value.int .i64 a.initial, la, ea]); refine Calls.mono HR1.out ?_; rintro e w1 ⟨v1, rfl, hb1, ho1⟩; have hq1 : Below W.heap.size W w1 := HD.out.trans (hb1.mono (by simp)))
    | (go_at_call_of 62 (Value.agg #[Value.int .i64 b.states, Value.int .i64 b.initial, lb, eb]); refine Calls.mono (HR2.out _ hq1) ?_; rintro e w2 ⟨v2, rfl, hb2, ho2⟩; have hq2 : Below W.heap.size W w2 := hq1.trans (hb2.mono hq1.size))
    | (go_at_call 61; refine Calls.mono (HEQ.out _ _ _ _ _ (ho1.at.below hb2) ho2.at) ?_; rintro e w3 ⟨tc, rfl, htc, hb3⟩; have hq3 : Below W.heap.size W w3 := hq2.trans (hb3.mono hq2.size))
    | fail)
  all_goals (
   have HQ3 := Lib.hid hq3
   have HTC := Lib.hid htc
   have HA3 := Lib.hid (HST.out w3 1 hq3 (by decide))
   have HRL := Lib.hid (HR.out.below hq3)
   have hs3 : w.heap.size ≤ w3.heap.size := Nat.le_trans hsW hq3.size
   clear hb1 ho1 hq1 hb2 ho2 hq2 hb3 htc hq3 HR1 HR2 HEQ HSW
   cases tc
   ·have HF : Hid (simK 1 a b N x y = false) := by
     have hne : ¬ rdyQ a x = rdyQ b y := fun h => by have := HTC.out.2 h; cases this
     unfold Hid simK okK
     rw [decide_eq_false hne]
     rfl
    go_wp2
    go_ret
    exact ⟨ret_bool HF.out.symm, HB.out.trans (HQ3.out.mono hsW)⟩
   ·have HF : Hid (simK 1 a b N x y = ansK 1 a b N x y) := by
     unfold Hid simK okK
     rw [decide_eq_true (HTC.out.1 rfl)]
     simp
    have r0 := HRL.out.cell 0 rfl
    have r1 := HRL.out.cell 1 rfl
    have r2 := HRL.out.cell 2 rfl
    have r3 := HRL.out.cell 3 rfl
    have r4 := HRL.out.cell 4 rfl
    have r5 := HRL.out.cell 5 rfl
    have r6 := HRL.out.cell 6 rfl
    have r7 := HRL.out.cell 7 rfl
    have r8 := HRL.out.cell 8 rfl
    go_wp2_with fail
    refine Calls.mono HA3.out ?_
    rintro e w4 ⟨rfl, hb4⟩
    have HB4 := Lib.hid ((HB.out.trans (HQ3.out.mono hsW)).trans (hb4.mono hs3))
    clear hb4 HA3
    go_wp2
    go_ret
    exact ⟨ret_bool HF.out.symm, HB4.out⟩)
 ·have hkb : (κ == 1) = false := by simpa using hk1
  have HF : Hid (simK κ a b N x y = ansK κ a b N x y) := by
   have h2 : (κ != 1) = true := by simpa using hk1
   unfold Hid simK okK
   rw [h2, Bool.true_or, Bool.true_and]
  by_cases hk2 : κ = 2
  ·subst hk2
   clear hk1
   go_enter Tryz.func64, Tryz.ntmps64
   go_wp2
   rw [← HW.out]
   try rw [← HRB.out]
   refine wp_region_later (by kernel_rfl) (by kernel_rfl) ?_
   repeat (go_big_quiet_step ((fail)))
   refine wpQuiet_nil ?_
   intro _ hw9
   obtain ⟨nl, hw8⟩ := hw9
   subst hw8
   have HNL := Lib.hid (HB.out.trans (nl.h.mono hsW))
   have HC := Lib.hid (HWK.out nl.w nl.h)
   have hRN := HR.out.below nl.h
   have r0 := hRN.cell 0 rfl
   have r1 := hRN.cell 1 rfl
   have r2 := hRN.cell 2 rfl
   have r3 := hRN.cell 3 rfl
   have r4 := hRN.cell 4 rfl
   have r5 := hRN.cell 5 rfl
   have r6 := hRN.cell 6 rfl
   have r7 := hRN.cell 7 rfl
   have r8 := hRN.cell 8 rfl
   have hsN : w.heap.size ≤ nl.w.heap.size := HNL.out.size
   clear hRN
   go_wp2_with fail
   refine Calls.mono HC.out ?_
   rintro e w2 ⟨rfl, hb2⟩
   have HB2 := Lib.hid (HNL.out.trans (hb2.mono hsN))
   clear hb2 HC
   go_wp2
   go_ret
   exact ⟨ret_bool HF.out.symm, HB2.out⟩
  ·have hk2b : (κ == 2) = false := by simpa using hk2
   have HK2 := Lib.hid hk2
   clear hk1 hk2
   go_enter Tryz.func64, Tryz.ntmps64
   go_wp2
   rw [← HW.out]
   try rw [← HRB.out]
   refine wp_region_later (by kernel_rfl) (by kernel_rfl) ?_
   repeat (go_big_quiet_step ((fail)))
   refine wpQuiet_nil ?_
   intro _ hw9
   obtain ⟨nl, hw8⟩ := hw9
   subst hw8
   have HNL := Lib.hid (HB.out.trans (nl.h.mono hsW))
   have HC := Lib.hid (HST.out nl.w κ nl.h HK2.out)
   have hRN := HR.out.below nl.h
   have r0 := hRN.cell 0 rfl
   have r1 := hRN.cell 1 rfl
   have r2 := hRN.cell 2 rfl
   have r3 := hRN.cell 3 rfl
   have r4 := hRN.cell 4 rfl
   have r5 := hRN.cell 5 rfl
   have r6 := hRN.cell 6 rfl
   have r7 := hRN.cell 7 rfl
   have r8 := hRN.cell 8 rfl
   have hsN : w.heap.size ≤ nl.w.heap.size := HNL.out.size
   clear hRN
   go_wp2_with fail
   refine Calls.mono HC.out ?_
   rintro e w2 ⟨rfl, hb2⟩
   have HB2 := Lib.hid (HNL.out.trans (hb2.mono hsN))
   clear hb2 HC
   go_wp2
   go_ret
   exact ⟨ret_bool HF.out.symm, HB2.out⟩

end Go.Proofs.YtbjbjbnbapeajaaGreatDoor
