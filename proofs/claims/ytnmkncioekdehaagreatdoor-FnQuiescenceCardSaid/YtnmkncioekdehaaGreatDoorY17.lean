/-
  The suspended system: how many edges it has, and where delta leads from a state. Plain.
  The program's QuiescentStates and SuccessorsOf; the reference's source from bytes.
  The reference's drawer of a system and names of inputs that fit.
  What the reference's l28Suspend returns; edges appended. Plain.
  The reference's l28Output and l28Quiet.
-/
import Derived.Test.YtnmkncioekdehaaGreatDoorY15
import Derived.Test.YtnmkncioekdehaaGreatDoorY6
import Derived.Test.YtnmkncioekdehaaGreatDoorY16
import Derived.Test.YtnmkncioekdehaaGreatDoorY1
import Derived.Test.YtnmkncioekdehaaGreatDoorY14
import Derived.Test.YtnmkncioekdehaaGreatDoorY7
import Derived.Test.YtnmkncioekdehaaGreatDoorY5
import Derived.Maps.AppendAt
import Derived.Test.YtnmkncioekdehaaGreatDoorY3
namespace Go.Proofs.YtnmkncioekdehaaGreatDoor
open Go Go.RowKit


theorem sus_count (t : Lts) (ins : List ByteArray) : (susT t ins).edges.length = t.edges.length + (quiets t ins).length := by
 show (sortEs ((susArcs t ins).map (edgeIn (susL t)))).length = _
 unfold sortEs susArcs
 rw [List.length_mergeSort, List.length_map, List.length_append, List.length_map, List.length_map]
theorem quiets_mem {t : Lts} {ins : List ByteArray} {k : Int} : k ∈ quiets t ins ↔ (0 ≤ k ∧ k < (t.states.toNat : Int)) ∧ quietB t ins k = true := by
 unfold quiets
 rw [List.mem_filter]
 have : k ∈ upI t.states.toNat ↔ 0 ≤ k ∧ k < (t.states.toNat : Int) := by
  unfold upI
  rw [List.mem_map]
  constructor
  ·rintro ⟨i, hi, rfl⟩
   have := List.mem_range.1 hi
   omega
  ·rintro ⟨h0, h1⟩
   exact ⟨k.toNat, List.mem_range.2 (by omega), by omega⟩
 rw [this]
theorem sus_labAt {t : Lts} {ins : List ByteArray} {a : Arc} (ha : a.lab ∈ susL t) : labAt (susT t ins) (edgeIn (susL t) a) = a.lab := by
 unfold labAt edgeIn
 obtain ⟨hk, e, -⟩ := idxL_get ha
 show (susL t).getD ((idxL (susL t) a.lab : Nat) : Int).toNat ByteArray.empty = a.lab
 rw [Int.toNat_natCast, List.getD_eq_getElem?_getD, List.getElem?_eq_getElem hk]
 exact e
/-- Delta leads from a state to itself, exactly if the state is quiescent. -/
theorem delta_from {t : Lts} {ins : List ByteArray} (h : IfOk t ins) {k : Int} (h0 : 0 ≤ k) (h1 : k < t.states) : followL (susT t ins) [k] deltaT = if quietB t ins k then [k] else [] := by
 have hs := sort_compact_is (followR (susT t ins) [k] deltaT)
 have hmem : ∀ x, x ∈ followR (susT t ins) [k] deltaT ↔ x = k ∧ quietB t ins k = true := by
  intro x
  rw [mem_followR]
  constructor
  ·rintro ⟨e, he, hsrc, hlab, rfl⟩
   have he2 : e ∈ (susArcs t ins).map (edgeIn (susL t)) := (sortEs_mem e).1 he
   obtain ⟨a, ha, rfl⟩ := List.mem_map.1 he2
   rw [sus_labAt (arcs_in h.valid ins a ha)] at hlab
   have hal : a.lab = deltaT := toList_inj hlab
   have hsk : a.src = k := List.mem_singleton.1 hsrc
   unfold susArcs at ha
   rcases List.mem_append.1 ha with ha | ha
   ·obtain ⟨f, hf, rfl⟩ := List.mem_map.1 ha
    exact absurd (show deltaT ∈ t.labels from hal ▸ lab_mem h.valid hf) h.free
   ·obtain ⟨q, hq, rfl⟩ := List.mem_map.1 ha
    have hqk : q = k := hsk
    subst hqk
    exact ⟨rfl, (quiets_mem.1 hq).2⟩
  ·rintro ⟨rfl, hq⟩
   have ha : (⟨x, deltaT, x⟩ : Arc) ∈ susArcs t ins := by
    unfold susArcs
    refine List.mem_append.2 (.inr (List.mem_map.2 ⟨x, quiets_mem.2 ⟨⟨h0, by omega⟩, hq⟩, rfl⟩))
   refine ⟨edgeIn (susL t) ⟨x, deltaT, x⟩, (sortEs_mem _).2 (List.mem_map.2 ⟨_, ha, rfl⟩), List.mem_singleton.2 rfl, ?_, rfl⟩
   rw [sus_labAt (arcs_in h.valid ins _ ha)]
 refine IsSet.unique (P := fun x => x ∈ followR (susT t ins) [k] deltaT) hs ⟨fun x => ?_, ?_⟩
 ·rw [hmem]
  by_cases hq : quietB t ins k = true
  ·rw [if_pos hq, List.mem_singleton]
   exact ⟨fun e => ⟨e, hq⟩, fun e => e.1⟩
  ·rw [if_neg hq]
   exact ⟨fun e => (List.not_mem_nil e).elim, fun e => absurd e.2 hq⟩
 ·split
  ·exact List.pairwise_singleton _ _
  ·exact List.Pairwise.nil
theorem delta_has {t : Lts} (ins : List ByteArray) : deltaT ∈ (susT t ins).labels := (susL_mem deltaT).2 (.inr (.inr rfl))

end Go.Proofs.YtnmkncioekdehaaGreatDoor

namespace Go.Proofs.YtnmkncioekdehaaGreatDoor
open Go Go.RowKit


set_option maxHeartbeats 1000000 in
theorem QuiescentStates_any (lo : Nat) (t : Lts) (lv ev v : Value) (ins : List ByteArray) (w : World) (h : IfOk t ins) (hl : SliceK 1 encS lo w lv t.labels) (he : SliceK 3 encE lo w ev t.edges) (hi : SliceK 1 encS lo w v ins) (hsh : Short20 t.labels) (hsi : Short20 ins) (g : Glob w) :
  Calls Tryz.prog 6 #[.agg #[.int .i64 t.states, .int .i64 t.initial, lv, ev], v] w fun e w' => ∃ qv, e = .returned (.tuple #[qv, .int .i64 0]) ∧ Below w.heap.size w w' ∧ w'.ownsRow w.heap.size 2 1 qv (quiets t ins).length ((quiets t ins).map (Value.int .i64)) := by
 obtain ⟨W, hW⟩ : ∃ W, W = w.alloc (.cells #[.int .i64 t.states, .int .i64 t.initial, lv, ev] 27) := ⟨_, rfl⟩
 obtain ⟨tb, htb⟩ : ∃ tb, tb = w.heap.size := ⟨_, rfl⟩
 have hb : Below w.heap.size w W := by rw [hW]; exact (Below.refl _ _).alloc (Nat.le_refl _) _
 have hT : Blk W tb [.int .i64 t.states, .int .i64 t.initial, lv, ev] 27 := by rw [hW, htb]; exact Blk.new w _ _
 have HV : Hid (Calls Tryz.prog 17 #[.agg #[.int .i64 t.states, .int .i64 t.initial, lv, ev], v] W fun e w' => e = .returned (.bool true) ∧ Below W.heap.size W w') := Decides.yes (ValidInterface_any lo t lv ev v ins W hsh hsi (hl.below hb) (he.below hb) (hi.below hb) (g.below hb)) h
 have HT := Lib.hid hT
 have HB := Lib.hid hb
 have HL := Lib.hid (hl.below hb)
 have HE := Lib.hid (he.below hb)
 have HI := Lib.hid (hi.below hb)
 have HSH := Lib.hid hsh
 have HG := Lib.hid (g.below hb)
 have HH := Lib.hid h
 have HW := Lib.hid hW
 have HTB := Lib.hid htb
 have hsW : w.heap.size ≤ W.heap.size := hb.size
 clear hl he hi hsh hsi g h hW htb hb hT
 go_enter Tryz.func6, Tryz.ntmps6
 go_wp2_with fail
 rw [← HW.out]
 try rw [← HTB.out]
 refine Calls.mono HV.out ?_
 rintro e w1 ⟨rfl, hb1⟩
 have t0 := (HT.out.below hb1).cell 0 rfl
 have t1 := (HT.out.below hb1).cell 1 rfl
 have t2 := (HT.out.below hb1).cell 2 rfl
 have t3 := (HT.out.below hb1).cell 3 rfl
 have HQ := Lib.hid (quiescent_any lo t lv ev v ins w1 HH.out (HL.out.below hb1) (HE.out.below hb1) (HI.out.below hb1) HSH.out (HG.out.below hb1))
 have HB1 := Lib.hid (HB.out.trans (hb1.mono hsW))
 have hs1 : w.heap.size ≤ w1.heap.size := HB1.out.size
 clear hb1 HV
 try rw [← HTB.out]
 go_wp2_with fail
 refine Calls.mono HQ.out ?_
 rintro e w2 ⟨qv, rfl, hb2, ho2⟩
 have HB2 := Lib.hid (HB1.out.trans (hb2.mono hs1))
 have HO2 := Lib.hid (own_lower ho2 hs1)
 clear hb2 ho2 HQ t0 t1 t2 t3
 go_wp2
 go_ret2
 exact ⟨qv, rfl, HB2.out, HO2.out⟩

set_option maxHeartbeats 1000000 in
theorem ltsCode_any (lo : Nat) (t : Lts) (lv ev : Value) (k : Int) (w : World) (h : Valid t) (hk : 0 ≤ k ∧ k < t.states) (hl : SliceK 1 encS lo w lv t.labels) (he : SliceK 3 encE lo w ev t.edges) (hsh : Short20 t.labels) (g : Glob w) :
  Calls Tryz.prog 23 #[.agg #[.int .i64 t.states, .int .i64 t.initial, lv, ev], .int .i64 k] w fun e w' => e = .returned (.int .i64 0) ∧ Below w.heap.size w w' := by
 obtain ⟨W, hW⟩ : ∃ W, W = w.alloc (.cells #[.int .i64 t.states, .int .i64 t.initial, lv, ev] 27) := ⟨_, rfl⟩
 obtain ⟨tb, htb⟩ : ∃ tb, tb = w.heap.size := ⟨_, rfl⟩
 have hb : Below w.heap.size w W := by rw [hW]; exact (Below.refl _ _).alloc (Nat.le_refl _) _
 have hT : Blk W tb [.int .i64 t.states, .int .i64 t.initial, lv, ev] 27 := by rw [hW, htb]; exact Blk.new w _ _
 have HV : Hid (Calls Tryz.prog 34 #[.agg #[.int .i64 t.states, .int .i64 t.initial, lv, ev]] W fun e w' => e = .returned (.bool true) ∧ Below W.heap.size W w') := Valid_yes h hsh (hl.below hb) (he.below hb) (g.below hb)
 have HT := Lib.hid hT
 have HB := Lib.hid hb
 have HW := Lib.hid hW
 have HTB := Lib.hid htb
 have hsW : w.heap.size ≤ W.heap.size := hb.size
 have HIS := Lib.hid (fun w' => isState_any lv ev t.states t.initial k w' h.st0 h.st1)
 have HIN : Hid (inB k 0 (t.states - 1) = true) := inB_iff.2 ⟨hk.1, by omega⟩
 rw [HIN.out] at HIS
 clear hl he hsh g h hW htb hb hT
 go_enter Tryz.func23, Tryz.ntmps23
 go_wp2_with fail
 rw [← HW.out]
 try rw [← HTB.out]
 refine Calls.mono HV.out ?_
 rintro e w1 ⟨rfl, hb1⟩
 have t0 := (HT.out.below hb1).cell 0 rfl
 have t1 := (HT.out.below hb1).cell 1 rfl
 have t2 := (HT.out.below hb1).cell 2 rfl
 have t3 := (HT.out.below hb1).cell 3 rfl
 have HB1 := Lib.hid (HB.out.trans (hb1.mono hsW))
 have hs1 : w.heap.size ≤ w1.heap.size := HB1.out.size
 clear hb1 HV
 try rw [← HTB.out]
 go_wp2_with fail
 refine Calls.mono (HIS.out w1) ?_
 rintro e w2 ⟨rfl, hb2⟩
 have HB2 := Lib.hid (HB1.out.trans (hb2.mono hs1))
 clear hb2 HIS t0 t1 t2 t3
 go_wp2
 go_ret
 exact ⟨rfl, HB2.out⟩

set_option maxHeartbeats 1000000 in
theorem SuccessorsOf_any (lo : Nat) (t : Lts) (lv ev : Value) (k : Int) (l : ByteArray) (w : World) (h : Valid t) (hk : 0 ≤ k ∧ k < t.states) (hlm : l ∈ t.labels) (hl : SliceK 1 encS lo w lv t.labels) (he : SliceK 3 encE lo w ev t.edges) (hsh : Short20 t.labels) (g : Glob w) :
  Calls Tryz.prog 10 #[.agg #[.int .i64 t.states, .int .i64 t.initial, lv, ev], .int .i64 k, .string l] w fun e w' => ∃ sv, e = .returned (.tuple #[sv, .int .i64 0]) ∧ Below w.heap.size w w' ∧ w'.ownsRow w.heap.size 2 1 sv (followL t [k] l).length ((followL t [k] l).map (Value.int .i64)) := by
 obtain ⟨W, hW⟩ : ∃ W, W = w.alloc (.cells #[.int .i64 t.states, .int .i64 t.initial, lv, ev] 27) := ⟨_, rfl⟩
 obtain ⟨tb, htb⟩ : ∃ tb, tb = w.heap.size := ⟨_, rfl⟩
 have hb : Below w.heap.size w W := by rw [hW]; exact (Below.refl _ _).alloc (Nat.le_refl _) _
 have hT : Blk W tb [.int .i64 t.states, .int .i64 t.initial, lv, ev] 27 := by rw [hW, htb]; exact Blk.new w _ _
 have HV := Lib.hid (ltsCode_any lo t lv ev k W h hk (hl.below hb) (he.below hb) hsh (g.below hb))
 have HT := Lib.hid hT
 have HB := Lib.hid hb
 have HL := Lib.hid (hl.below hb)
 have HE := Lib.hid (he.below hb)
 have HH := Lib.hid h
 have HW := Lib.hid hW
 have HTB := Lib.hid htb
 have hsW : w.heap.size ≤ W.heap.size := hb.size
 have HIN : Hid ((t.labels.any fun y => y.toList == l.toList) = true) := List.any_eq_true.2 ⟨l, hlm, by simp⟩
 clear hl he hsh g h hW htb hb hT hlm
 go_enter Tryz.func10, Tryz.ntmps10
 go_wp2_with fail
 rw [← HW.out]
 try rw [← HTB.out]
 refine Calls.mono HV.out ?_
 rintro e w1 ⟨rfl, hb1⟩
 have HT1 := Lib.hid (HT.out.below hb1)
 have t0 := HT1.out.cell 0 rfl
 have t1 := HT1.out.cell 1 rfl
 have t2 := HT1.out.cell 2 rfl
 have t3 := HT1.out.cell 3 rfl
 have HL1 := Lib.hid (HL.out.below hb1)
 have HE1 := Lib.hid (HE.out.below hb1)
 have HCT := Lib.hid (Contains_strs lo lv l t.labels w1 HL1.out)
 rw [HIN.out] at HCT
 have HB1 := Lib.hid (HB.out.trans (hb1.mono hsW))
 have hs1 : w.heap.size ≤ w1.heap.size := HB1.out.size
 clear hb1 HV
 try rw [← HTB.out]
 go_wp2_with fail
 refine Calls.mono HCT.out ?_
 rintro e w2 ⟨rfl, rfl⟩
 obtain ⟨W2, hW2⟩ : ∃ W2, W2 = w1.alloc (.cells #[.int .i64 k] 2) := ⟨_, rfl⟩
 have hb2 : Below w1.heap.size w1 W2 := by rw [hW2]; exact (Below.refl _ _).alloc (Nat.le_refl _) _
 have HF : Hid (Calls Tryz.prog 25 #[.agg #[.int .i64 t.states, .int .i64 t.initial, lv, ev], .slice (some ⟨w1.heap.size, 0, none⟩) 1 1, .string l] W2 (MadeNums (followL t [k] l) W2)) := by
  refine follow_any lo w1.heap.size t lv ev _ [k] l W2 HH.out (HL1.out.below hb2) (HE1.out.below hb2) ?_
  have h := World.ownsRow_lit (base := w1.heap.size) (size := 1) w1 #[.int .i64 k] (e := 2) 1 (Nat.le_refl _) (by simp [maxLen]) rfl
  rw [hW2]
  exact SliceK.of_owns (enc := encI) (e := 2) encI_len rfl (by rw [flat_encI]; exact h)
 have HB2 := Lib.hid (HB1.out.trans (hb2.mono hs1))
 have hs2 : w.heap.size ≤ W2.heap.size := HB2.out.size
 have HW2 := Lib.hid hW2
 clear hW2 hb2 HCT
 go_wp2_with fail
 rw [← HW2.out]
 refine Calls.mono HF.out ?_
 rintro e w3 ⟨sv, rfl, hb3, ho3⟩
 have HB3 := Lib.hid (HB2.out.trans (hb3.mono hs2))
 have HO3 := Lib.hid (own_lower ho3 hs2)
 clear hb3 ho3 HF t0 t1 t2 t3
 go_wp2
 go_ret2
 exact ⟨sv, rfl, HB3.out, HO3.out⟩

theorem from_any (cv : Value) (bs : List UInt8) (w : World) (hc : BytesIn w.heap.size w cv bs) :
  Calls Tryz.prog 13 #[cv] w fun e w' => e = .returned (.pointer (some ⟨w.heap.size, 0, none⟩)) ∧ Below w.heap.size w w' ∧ Src w.heap.size 0 w' := by
 obtain ⟨W, hW⟩ : ∃ W, W = w.alloc (.cells #[cv, .int .i64 0, .int .u64 0] 60) := ⟨_, rfl⟩
 have hb : Below w.heap.size w W := by rw [hW]; exact (Below.refl _ _).alloc (Nat.le_refl _) _
 have HS : Hid (Src w.heap.size 0 W) := ⟨cv, bs, 0, 0, hc.grown (grown_below hb none) (fun k e => by cases e), by rw [hW]; exact Blk.new w _ _, Nat.le_refl _, by decide, by decide⟩
 have HB := Lib.hid hb
 have HW := Lib.hid hW
 obtain ⟨a, c, rfl, -, -⟩ := hc
 clear hW hb
 go_enter Tryz.func13, Tryz.ntmps13
 go_wp2
 go_ret
 rw [← HW.out]
 exact ⟨rfl, HB.out, HS.out⟩

end Go.Proofs.YtnmkncioekdehaaGreatDoor

namespace Go.Proofs.YtnmkncioekdehaaGreatDoor
open Go Go.RowKit


/-- What B10Tested hands back. -/
def RetTd (w : World) (e : Ending) (w' : World) : Prop :=
 Below w.heap.size w w' ∧ ∃ (a b : Lts) (la ea lb eb : Option Addr) (lc ec ld ed : Nat) (iv : Value) (ins : List ByteArray), e = .returned (.tuple #[.agg #[.int .i64 a.states, .int .i64 a.initial, .slice la a.labels.length lc, .slice ea a.edges.length ec], .agg #[.int .i64 b.states, .int .i64 b.initial, .slice lb b.labels.length ld, .slice eb b.edges.length ed], iv]) ∧
  IfOk a ins ∧ OwnLts w.heap.size w' (.slice la a.labels.length lc) (.slice ea a.edges.length ec) a ∧ OwnStrs w.heap.size w' iv ins ∧ Short20 a.labels ∧ Short20 ins
theorem bytes_up {w W : World} {v : Value} {bs : List UInt8} (h : BytesIn w.heap.size w v bs) (hb : Below w.heap.size w W) : BytesIn W.heap.size W v bs := by
 obtain ⟨a, c, e, hl, h0⟩ := h.grown (grown_below hb none) (fun k e => by cases e)
 refine ⟨a, c, e, hl, ?_⟩
 rcases h0 with h0 | ⟨b, o, e1, h1, h2, h3⟩
 ·exact .inl h0
 ·exact .inr ⟨b, o, e1, h2, h2, h3⟩
theorem drew_belowT {B sb m : Nat} {w w1 w' : World} (h : Below B w w1) (hd : Drew sb m w1 w') (hB : B ≤ w1.heap.size) (hsb : B ≤ sb) : Below B w w' := h.grown hd.1 hB (fun b e => by cases e; exact hsb)
theorem tested_results {w : World} {b c : Nat} {v0 v1 v2 v3 u0 u1 u2 u3 iv : Value} {tmps : Array Value} (hc : tmps.getD 2 undef = .pointer (some ⟨b, 0, none⟩)) (hc3 : tmps.getD 3 undef = .pointer (some ⟨c, 0, none⟩)) (hc4 : tmps.getD 4 undef = iv) (hb : Blk w b [v0, v1, v2, v3] 27) (hb3 : Blk w c [u0, u1, u2, u3] 27) :
  (results Tryz.f5 tmps).run Tryz.prog w = .ok (.tuple #[.agg #[v0, v1, v2, v3], .agg #[u0, u1, u2, u3], iv]) w := by
 have h0 := hb.cell 0 rfl
 have h1 := hb.cell 1 rfl
 have h2 := hb.cell 2 rfl
 have h3 := hb.cell 3 rfl
 have k0 := hb3.cell 0 rfl
 have k1 := hb3.cell 1 rfl
 have k2 := hb3.cell 2 rfl
 have k3 := hb3.cell 3 rfl
 simp only [Array.getD_eq_getD_getElem?] at hc hc3 hc4
 simp [results, Tryz.results5, go_sem, hc, hc3, hc4, h0, h1, h2, h3, k0, k1, k2, k3, Result.andThen]

theorem tested_fin {w w6 : World} {ra rc : Nat} {a b : Lts} {lp ep lq eq ip : Option Addr} {lc ec ld ed ic : Nat} {ins : List ByteArray} (hB : Below w.heap.size w w6) (hI : IfOk a ins) (hO : OwnLts w.heap.size w6 (.slice lp a.labels.length lc) (.slice ep a.edges.length ec) a) (hV : OwnStrs w.heap.size w6 (.slice ip ins.length ic) ins)
  (hR : Blk w6 ra [.int .i64 0, .int .i64 0, .slice none 0 0, .slice none 0 0] 27) (hC : Blk w6 rc [.int .i64 0, .int .i64 0, .slice none 0 0, .slice none 0 0] 27) (hra : w.heap.size ≤ ra) (hrc : w.heap.size ≤ rc) (hne : ra ≠ rc) (hs : Short20 a.labels) (hi : Short20 ins) {v0 v1 v2 v3 u0 u1 u2 u3 : Value} :
  RetTd w (.returned (.tuple #[.agg #[.int .i64 a.states, .int .i64 a.initial, .slice lp a.labels.length lc, .slice ep a.edges.length ec], .agg #[.int .i64 b.states, .int .i64 b.initial, .slice lq b.labels.length ld, .slice eq b.edges.length ed], .slice ip ins.length ic])) ((((((((w6.setCell ⟨ra, 0, none⟩ v0).setCell ⟨ra, 1, none⟩ v1).setCell ⟨ra, 2, none⟩ v2).setCell ⟨ra, 3, none⟩ v3).setCell ⟨rc, 0, none⟩ u0).setCell ⟨rc, 1, none⟩ u1).setCell ⟨rc, 2, none⟩ u2).setCell ⟨rc, 3, none⟩ u3).drew := by
 have hc1 : Blk ((((w6.setCell ⟨ra, 0, none⟩ v0).setCell ⟨ra, 1, none⟩ v1).setCell ⟨ra, 2, none⟩ v2).setCell ⟨ra, 3, none⟩ v3) rc [.int .i64 0, .int .i64 0, .slice none 0 0, .slice none 0 0] 27 := blk_put4D hC (fun e => hne e.symm)
 refine ⟨(below_put4D (below_put4D hB hra) hrc).drew, a, b, lp, ep, lq, eq, lc, ec, ld, ed, _, ins, rfl, hI, ?_, ?_, hs, hi⟩
 ·exact OwnLts.below ⟨own_put4D hc1 (own_put4D hR hO.1 (by decide)) (by decide), own_put4D hc1 (own_put4D hR hO.2 (by decide)) (by decide)⟩ ((Below.refl _ _).drew)
 ·have h1 : OwnStrs w.heap.size ((((((((w6.setCell ⟨ra, 0, none⟩ v0).setCell ⟨ra, 1, none⟩ v1).setCell ⟨ra, 2, none⟩ v2).setCell ⟨ra, 3, none⟩ v3).setCell ⟨rc, 0, none⟩ u0).setCell ⟨rc, 1, none⟩ u1).setCell ⟨rc, 2, none⟩ u2).setCell ⟨rc, 3, none⟩ u3) (.slice ip ins.length ic) ins := own_put4D hc1 (own_put4D hR hV (by decide)) (by decide)
  exact h1.below ((Below.refl _ _).drew)

theorem tested_fin9 {w W9 : World} {ra rc B : Nat} (hB : Below w.heap.size w W9) (hO : OwnLts w.heap.size W9 (.slice (some ⟨B, 0, none⟩) 2 2) (.slice (some ⟨B + 1, 0, none⟩) 1 1) dfT)
  (hR : Blk W9 ra [.int .i64 0, .int .i64 0, .slice none 0 0, .slice none 0 0] 27) (hC : Blk W9 rc [.int .i64 0, .int .i64 0, .slice none 0 0, .slice none 0 0] 27) (hra : w.heap.size ≤ ra) (hrc : w.heap.size ≤ rc) (hne : ra ≠ rc) {v0 v1 v2 v3 u0 u1 u2 u3 : Value} :
  RetTd w (.returned (.tuple #[.agg #[.int .i64 1, .int .i64 0, .slice (some ⟨B, 0, none⟩) 2 2, .slice (some ⟨B + 1, 0, none⟩) 1 1], .agg #[.int .i64 1, .int .i64 0, .slice (some ⟨B, 0, none⟩) 2 2, .slice (some ⟨B + 1, 0, none⟩) 1 1], .slice (some ⟨W9.heap.size, 0, none⟩) 0 0])) (((((((((W9.setCell ⟨ra, 0, none⟩ v0).setCell ⟨ra, 1, none⟩ v1).setCell ⟨ra, 2, none⟩ v2).setCell ⟨ra, 3, none⟩ v3).setCell ⟨rc, 0, none⟩ u0).setCell ⟨rc, 1, none⟩ u1).setCell ⟨rc, 2, none⟩ u2).setCell ⟨rc, 3, none⟩ u3).alloc (.cells #[] 9)).drew := by
 have hc1 : Blk ((((W9.setCell ⟨ra, 0, none⟩ v0).setCell ⟨ra, 1, none⟩ v1).setCell ⟨ra, 2, none⟩ v2).setCell ⟨ra, 3, none⟩ v3) rc [.int .i64 0, .int .i64 0, .slice none 0 0, .slice none 0 0] 27 := blk_put4D hC (fun e => hne e.symm)
 have hb := below_put4D (v0 := u0) (v1 := u1) (v2 := u2) (v3 := u3) (below_put4D (v0 := v0) (v1 := v1) (v2 := v2) (v3 := v3) hB hra) hrc
 have hsz := hb.size
 obtain ⟨S, hS⟩ : ∃ S, S = (((((((W9.setCell ⟨ra, 0, none⟩ v0).setCell ⟨ra, 1, none⟩ v1).setCell ⟨ra, 2, none⟩ v2).setCell ⟨ra, 3, none⟩ v3).setCell ⟨rc, 0, none⟩ u0).setCell ⟨rc, 1, none⟩ u1).setCell ⟨rc, 2, none⟩ u2).setCell ⟨rc, 3, none⟩ u3 := ⟨_, rfl⟩
 have hz : W9.heap.size = S.heap.size := by rw [hS]; simp
 have ho : OwnLts w.heap.size S (.slice (some ⟨B, 0, none⟩) 2 2) (.slice (some ⟨B + 1, 0, none⟩) 1 1) dfT := by rw [hS]; exact ⟨own_put4D hc1 (own_put4D hR hO.1 (by decide)) (by decide), own_put4D hc1 (own_put4D hR hO.2 (by decide)) (by decide)⟩
 rw [← hS] at hb hsz ⊢
 rw [hz]
 have hal : Below S.heap.size S (S.alloc (.cells #[] 9)).drew := ((Below.refl _ _).alloc (Nat.le_refl _) _).drew
 have hst : OwnStrs S.heap.size (S.alloc (.cells #[] 9)) (.slice (some ⟨S.heap.size, 0, none⟩) 0 0) [] := strs_lit (w := S) (xs := []) (cs := #[]) rfl (by decide)
 have hst2 : OwnStrs S.heap.size (S.alloc (.cells #[] 9)).drew (.slice (some ⟨S.heap.size, 0, none⟩) 0 0) [] := hst.below ((Below.refl _ _).drew)
 refine ⟨hb.trans (hal.mono hsz), dfT, dfT, _, _, _, _, _, _, _, _, _, [], rfl, dfT_ok, OwnLts.below ho hal, hst2.lower hsz, fun i hi => ?_, fun i hi => absurd hi (Nat.not_lt_zero _)⟩
 have : ∀ l ∈ dfT.labels, l.size ≤ 1048576 := by decide
 exact this _ (List.getElem_mem hi)

set_option maxRecDepth 100000 in
set_option maxHeartbeats 4000000 in
theorem tested_any (cv : Value) (bs : List UInt8) (w : World) (hc : BytesIn w.heap.size w cv bs) : Calls Tryz.prog 5 #[cv] w (RetTd w) := by
 obtain ⟨ra, hra⟩ : ∃ ra, ra = w.heap.size := ⟨_, rfl⟩
 obtain ⟨rc, hrc⟩ : ∃ rc, rc = w.heap.size + 1 := ⟨_, rfl⟩
 obtain ⟨W, hW⟩ : ∃ W, W = (w.alloc (.cells #[.int .i64 0, .int .i64 0, .slice none 0 0, .slice none 0 0] 27)).alloc (.cells #[.int .i64 0, .int .i64 0, .slice none 0 0, .slice none 0 0] 27) := ⟨_, rfl⟩
 have hb : Below w.heap.size w W := by rw [hW]; exact ((Below.refl _ _).alloc (Nat.le_refl _) _).alloc (by simp) _
 have hR : Blk W ra [.int .i64 0, .int .i64 0, .slice none 0 0, .slice none 0 0] 27 := by rw [hW, hra]; exact (Blk.new w _ _).alloc _
 have hC : Blk W rc [.int .i64 0, .int .i64 0, .slice none 0 0, .slice none 0 0] 27 := by
  have := Blk.new (w.alloc (.cells #[.int .i64 0, .int .i64 0, .slice none 0 0, .slice none 0 0] 27)) [.int .i64 0, .int .i64 0, .slice none 0 0, .slice none 0 0] 27
  rw [World.size_alloc, ← hrc] at this
  rw [hW]
  exact this
 obtain ⟨sb, hsbe⟩ : ∃ sb, sb = W.heap.size := ⟨_, rfl⟩
 have HFR := Lib.hid (from_any cv bs W (bytes_up hc hb))
 rw [← hsbe] at HFR
 have HR := Lib.hid hR
 have HC := Lib.hid hC
 have HB := Lib.hid hb
 have HW := Lib.hid hW
 have HRA := Lib.hid hra
 have HRC := Lib.hid hrc
 have HSB := Lib.hid hsbe
 have hral : w.heap.size ≤ ra := by omega
 have hrcl : w.heap.size ≤ rc := by omega
 have hnrc : ra ≠ rc := by omega
 have hwsb : w.heap.size ≤ sb := by rw [hsbe]; exact hb.size
 have hrsb : ra < sb := by rw [hsbe]; exact hR.lt
 have hcsb : rc < sb := by rw [hsbe]; exact hC.lt
 clear hc hW hb hR hC hra hrc hsbe
 go_enter Tryz.func5, Tryz.ntmps5
 go_wp2_with fail
 rw [← HW.out]
 try rw [← HRC.out]
 try rw [← HRA.out]
 refine Calls.mono HFR.out ?_
 rintro e w1 ⟨rfl, hb1, hs1⟩
 have hb1' : Below W.heap.size W w1 := by rw [← HSB.out]; exact hb1
 have HB1 : Hid (Below w.heap.size w w1) := HB.out.trans (hb1'.mono HB.out.size)
 have HR1 := Lib.hid (HR.out.below hb1')
 have HC1 := Lib.hid (HC.out.below hb1')
 have hsl : sb < w1.heap.size := hs1.lt
 have HD1 := Lib.hid (Drew.refl hs1)
 clear hb1 hs1 hb1' HFR HR HC HB
 go_wp2_with fail
 go_loopw [6] (fun v6 wr => ∃ k : Nat, k ≤ 6 ∧ v6 = .int .i64 k ∧ Drew sb (6000 * k) w1 wr) (fun v6 _ => 6 - (intOf v6).toNat)
 case atStart => exact ⟨0, Nat.zero_le _, rfl, HD1.out⟩
 case round =>
  clear HD1
  obtain ⟨k, hk, rfl, hd⟩ := hrel
  obtain ⟨wC, rfl⟩ : ∃ wC : World, wC = wr := ⟨_, rfl⟩
  have HD := Lib.hid hd
  clear hd
  by_cases hlt : k < 6
  ·have HPR := Lib.hid (drawPair_any sb (6000 * k) wC HD.out.2 (by omega))
   go_wp2_with fail
   refine Calls.mono HPR.out ?_
   rintro e w2 ⟨a, b, la, ea, lb, eb, rfl, hd2, hoa, hob, ha6, hb6⟩
   obtain ⟨lp, lc, rfl, -, -⟩ := owns_slice hoa.1
   obtain ⟨ep, ec, rfl, -, -⟩ := owns_slice hoa.2
   obtain ⟨lq, ld, rfl, -, -⟩ := owns_slice hob.1
   obtain ⟨eq, ed, rfl, -, -⟩ := owns_slice hob.2
   obtain ⟨W3, hW3⟩ : ∃ W3, W3 = (w2.alloc (.cells #[.int .i64 a.states, .int .i64 a.initial, .slice lp a.labels.length lc, .slice ep a.edges.length ec] 27)).alloc (.cells #[.int .i64 b.states, .int .i64 b.initial, .slice lq b.labels.length ld, .slice eq b.edges.length ed] 27) := ⟨_, rfl⟩
   obtain ⟨ab, hab⟩ : ∃ ab, ab = w2.heap.size := ⟨_, rfl⟩
   obtain ⟨bb, hbb⟩ : ∃ bb, bb = w2.heap.size + 1 := ⟨_, rfl⟩
   have hb3 : Below w2.heap.size w2 W3 := by rw [hW3]; exact ((Below.refl _ _).alloc (Nat.le_refl _) _).alloc (by simp) _
   have hA : Blk W3 ab [.int .i64 a.states, .int .i64 a.initial, .slice lp a.labels.length lc, .slice ep a.edges.length ec] 27 := by rw [hW3, hab]; exact (Blk.new w2 _ _).alloc _
   have hBB : Blk W3 bb [.int .i64 b.states, .int .i64 b.initial, .slice lq b.labels.length ld, .slice eq b.edges.length ed] 27 := by
    have := Blk.new (w2.alloc (.cells #[.int .i64 a.states, .int .i64 a.initial, .slice lp a.labels.length lc, .slice ep a.edges.length ec] 27)) [.int .i64 b.states, .int .i64 b.initial, .slice lq b.labels.length ld, .slice eq b.edges.length ed] 27
    rw [World.size_alloc, ← hbb] at this
    rw [hW3]
    exact this
   have hsC : sb < wC.heap.size := Nat.lt_of_lt_of_le hsl HD.out.size
   have hwC : w.heap.size ≤ wC.heap.size := by omega
   have hs2 : wC.heap.size ≤ w2.heap.size := hd2.size
   have HD3 := Lib.hid ((HD.out.trans hd2).below hb3)
   have HOA := Lib.hid (hoa.below hb3)
   have HOB := Lib.hid (hob.below hb3)
   have HA := Lib.hid hA
   have HBB := Lib.hid hBB
   have HA6 := Lib.hid ha6
   have HB6 := Lib.hid hb6
   have HIN := Lib.hid (drawInputs_any sb (6000 * k + 5000) W3 HD3.out.2 (by omega))
   have hsab : ab ≠ sb := by omega
   have hsbb : bb ≠ sb := by omega
   have hs3 : w2.heap.size ≤ W3.heap.size := hb3.size
   have HW3 := Lib.hid hW3
   have HAB := Lib.hid hab
   have HBBE := Lib.hid hbb
   clear hd2 hoa hob hb3 hA hBB ha6 hb6 hW3 hab hbb HPR HD
   go_wp2_with fail
   rw [← HW3.out]
   try rw [← HBBE.out]
   try rw [← HAB.out]
   refine Calls.mono HIN.out ?_
   rintro e w4 ⟨iv, ins, rfl, hd4, hoi, hin5, hinm⟩
   obtain ⟨ip, ic, rfl, -, -⟩ := owns_slice hoi
   have hsC2 : sb < W3.heap.size := HD3.out.2.lt
   have HD4 := Lib.hid (HD3.out.trans hd4)
   have HOA4 : Hid (OwnLts wC.heap.size w4 (.slice lp a.labels.length lc) (.slice ep a.edges.length ec) a) := ⟨hd4.own HOA.out.1 hsC, hd4.own HOA.out.2 hsC⟩
   have HOB4 : Hid (OwnLts wC.heap.size w4 (.slice lq b.labels.length ld) (.slice eq b.edges.length ed) b) := ⟨hd4.own HOB.out.1 hsC, hd4.own HOB.out.2 hsC⟩
   have HA4 := Lib.hid (hd4.blk HA.out hsab)
   have HB4 := Lib.hid (hd4.blk HBB.out hsbb)
   have HOI := Lib.hid hoi
   have HSI : Hid (Short20 ins) := fun i hi => by have := dInAll_short _ (hinm _ (List.getElem_mem hi)); omega
   have hsha : Short a.labels := fun i hi => by have := HA6.out _ (List.getElem_mem hi); omega
   have hshb : Short b.labels := fun i hi => by have := HB6.out _ (List.getElem_mem hi); omega
   have hIA : LtsPtr wC.heap.size w4 ab a := ⟨_, _, HA4.out.lt, HA4.out.cell 0 rfl, HA4.out.cell 1 rfl, HA4.out.cell 2 rfl, HA4.out.cell 3 rfl, SliceK.of_owns (enc := encS) (e := 9) encS_len rfl (by rw [flat_encS]; exact HOA4.out.1), SliceK.of_owns (e := 47) encE_len rfl HOA4.out.2⟩
   have HIS := Lib.hid (l28Is_any ab wC.heap.size a (.slice ip ins.length ic) ins w4 hsha hIA (HOI.out.lower (Nat.le_trans hs2 hs3)).at)
   clear hd4 hoi hIA HIN HOA HOB HA HBB HD3 hinm
   by_cases hA : IfOk a ins
   ·have HIA := Lib.hid hA
    have HIY := Lib.hid (Decides.yes HIS.out hA)
    clear hA HIS
    go_wp2_with fail
    refine Calls.mono HIY.out ?_
    rintro e w5 ⟨rfl, hb5⟩
    have HD5 := Lib.hid (HD4.out.below hb5)
    have HOA5 := Lib.hid (HOA4.out.below hb5)
    have HOB5 := Lib.hid (HOB4.out.below hb5)
    have HA5 := Lib.hid (HA4.out.below hb5)
    have HB5 := Lib.hid (HB4.out.below hb5)
    have HOI5 := Lib.hid (HOI.out.below hb5)
    have hIB : LtsPtr wC.heap.size w5 bb b := ⟨_, _, HB5.out.lt, HB5.out.cell 0 rfl, HB5.out.cell 1 rfl, HB5.out.cell 2 rfl, HB5.out.cell 3 rfl, SliceK.of_owns (enc := encS) (e := 9) encS_len rfl (by rw [flat_encS]; exact HOB5.out.1), SliceK.of_owns (e := 47) encE_len rfl HOB5.out.2⟩
    have HIS := Lib.hid (l28Is_any bb wC.heap.size b (.slice ip ins.length ic) ins w5 hshb hIB (HOI5.out.lower (Nat.le_trans hs2 hs3)).at)
    clear hb5 HIY hIB HD4 HOA4 HOB4 HA4 HB4 HOI
    by_cases hB : IfOk b ins
    ·have HIY := Lib.hid (Decides.yes HIS.out hB)
     clear hB HIS
     go_wp2_with fail
     refine Calls.mono HIY.out ?_
     rintro e w6 ⟨rfl, hb6⟩
     have HD6 := Lib.hid (HD5.out.below hb6)
     have HOA6 := Lib.hid (HOA5.out.below hb6)
     have HA6' := Lib.hid (HA5.out.below hb6)
     have HB6' := Lib.hid (HB5.out.below hb6)
     have HOI6 := Lib.hid (HOI5.out.below hb6)
     clear hb6 HIY HD5 HOA5 HOB5 HA5 HB5 HOI5
     go_upto_region 8 with fail
     have HRX := Lib.hid (HD6.out.blk HR1.out (by omega))
     have HCX := Lib.hid (HD6.out.blk HC1.out (by omega))
     have hn1 : ab ≠ ra := by have := HAB.out; omega
     have hn2 : ab ≠ rc := by have := HAB.out; omega
     have hn3 : bb ≠ ra := by have := HBBE.out; omega
     have hn4 : bb ≠ rc := by have := HBBE.out; omega
     have o0 := HA6'.out.cell 0 rfl
     have o1 := HA6'.out.cell 1 rfl
     have o2 := HA6'.out.cell 2 rfl
     have o3 := HA6'.out.cell 3 rfl
     have p0 := HB6'.out.cell 0 rfl
     have p1 := HB6'.out.cell 1 rfl
     have p2 := HB6'.out.cell 2 rfl
     have p3 := HB6'.out.cell 3 rfl
     have r0 := HRX.out.cell 0 rfl
     have r1 := HRX.out.cell 1 rfl
     have r2 := HRX.out.cell 2 rfl
     have r3 := HRX.out.cell 3 rfl
     have fr0 := HRX.out.frozen 0
     have fr1 := HRX.out.frozen 1
     have fr2 := HRX.out.frozen 2
     have fr3 := HRX.out.frozen 3
     have c0 := HCX.out.cell 0 rfl
     have c1 := HCX.out.cell 1 rfl
     have c2 := HCX.out.cell 2 rfl
     have c3 := HCX.out.cell 3 rfl
     have fc0 := HCX.out.frozen 0
     have fc1 := HCX.out.frozen 1
     have fc2 := HCX.out.frozen 2
     have fc3 := HCX.out.frozen 3
     have oo0 : w6.drew.cell? ⟨ab, 0, none⟩ = _ := o0
     have oo1 : w6.drew.cell? ⟨ab, 1, none⟩ = _ := o1
     have oo2 : w6.drew.cell? ⟨ab, 2, none⟩ = _ := o2
     have oo3 : w6.drew.cell? ⟨ab, 3, none⟩ = _ := o3
     have pp0 : w6.drew.cell? ⟨bb, 0, none⟩ = _ := p0
     have pp1 : w6.drew.cell? ⟨bb, 1, none⟩ = _ := p1
     have pp2 : w6.drew.cell? ⟨bb, 2, none⟩ = _ := p2
     have pp3 : w6.drew.cell? ⟨bb, 3, none⟩ = _ := p3
     have hBW : Hid (Below w.heap.size w w6) := drew_belowT HB1.out HD6.out HB1.out.size hwsb
     go_region
     all_goals (
      go_wp2
      refine bodyPost_ret (tested_results rfl rfl rfl (blk_drewD (blk_put4D (put4D HRX.out) hnrc)) (blk_drewD (put4D (blk_put4D HCX.out (fun e => hnrc e.symm))))) rfl ?_
      exact tested_fin hBW.out HIA.out (HOA6.out.lower hwC) (HOI6.out.lower (by omega)) HRX.out HCX.out hral hrcl hnrc (fun i hi => by have := HA6.out _ (List.getElem_mem hi); omega) HSI.out)
    ·have HIN := Lib.hid (Decides.no HIS.out hB)
     clear hB HIS
     go_wp2_with fail
     refine Calls.mono HIN.out ?_
     rintro e w6 ⟨rfl, hb6⟩
     have HD6 := Lib.hid (HD5.out.below hb6)
     clear hb6 HIN HD5 HOA5 HOB5 HA5 HB5 HOI5
     go_wp2
     go_roundw
     case rel => exact ⟨k + 1, by omega, by go_num, HD6.out.mono (by omega)⟩
     case measure => simp [intOf]; omega
   ·have HIN := Lib.hid (Decides.no HIS.out hA)
    clear hA HIS
    go_wp2_with fail
    refine Calls.mono HIN.out ?_
    rintro e w6 ⟨rfl, hb6⟩
    have HD6 := Lib.hid (HD4.out.below hb6)
    clear hb6 HIN HD4 HOA4 HOB4 HA4 HB4 HOI
    go_wp2
    go_roundw
    case rel => exact ⟨k + 1, by omega, by go_num, HD6.out.mono (by omega)⟩
    case measure => simp [intOf]; omega
  ·have hk6 : k = 6 := by omega
   subst hk6
   obtain ⟨B, hB⟩ : ∃ B, B = wC.heap.size := ⟨_, rfl⟩
   obtain ⟨W9, hW9⟩ : ∃ W9, W9 = ((wC.alloc (.cells #[.string nmT, .string nmA] 9)).alloc (.cells #[.int .i64 0, .int .i64 1, .int .i64 0] 47)).alloc (.cells #[.int .i64 1, .int .i64 0, .slice (some ⟨wC.heap.size, 0, none⟩) 2 2, .slice (some ⟨wC.heap.size + 1, 0, none⟩) 1 1] 27) := ⟨_, rfl⟩
   have hwC : w.heap.size ≤ wC.heap.size := by have := HD.out.size; omega
   have hb9 : Below wC.heap.size wC W9 := by rw [hW9]; exact (((Below.refl _ _).alloc (Nat.le_refl _) _).alloc (by simp) _).alloc (by simp; omega) _
   have hT9 : Blk W9 (B + 1 + 1) [.int .i64 1, .int .i64 0, .slice (some ⟨B, 0, none⟩) 2 2, .slice (some ⟨B + 1, 0, none⟩) 1 1] 27 := by
    have := Blk.new ((wC.alloc (.cells #[.string nmT, .string nmA] 9)).alloc (.cells #[.int .i64 0, .int .i64 1, .int .i64 0] 47)) [.int .i64 1, .int .i64 0, .slice (some ⟨B, 0, none⟩) 2 2, .slice (some ⟨B + 1, 0, none⟩) 1 1] 27
    rw [World.size_alloc, World.size_alloc, ← hB] at this
    rw [hW9, ← hB]
    exact this
   have hO9 : OwnLts B W9 (.slice (some ⟨B, 0, none⟩) 2 2) (.slice (some ⟨B + 1, 0, none⟩) 1 1) dfT := by
    have h1 := strs_lit (w := wC) (xs := [nmT, nmA]) (cs := #[.string nmT, .string nmA]) rfl (by decide)
    have h2 := World.ownsRow_lit (base := wC.heap.size) (size := 3) (wC.alloc (.cells #[.string nmT, .string nmA] 9)) #[.int .i64 0, .int .i64 1, .int .i64 0] (e := 47) 1 (by simp) (by simp [maxLen]) rfl
    rw [World.size_alloc, ← hB] at h2
    rw [hW9, ← hB]
    rw [← hB] at h1
    exact ⟨(h1.alloc _).alloc _, h2.alloc _⟩
   have HD9 := Lib.hid (HD.out.below hb9)
   have HT9 := Lib.hid hT9
   have HO9 := Lib.hid hO9
   have HW9 : Hid (W9 = ((wC.alloc (.cells #[.string ⟨#[116, 97, 117]⟩, .string ⟨#[97]⟩] 9)).alloc (.cells #[.int .i64 0, .int .i64 1, .int .i64 0] 47)).alloc (.cells #[.int .i64 1, .int .i64 0, .slice (some ⟨wC.heap.size, 0, none⟩) 2 2, .slice (some ⟨wC.heap.size + 1, 0, none⟩) 1 1] 27)) := hW9
   have HB := Lib.hid hB
   have hs9 : wC.heap.size ≤ W9.heap.size := hb9.size
   clear hW9 hb9 hT9 hO9 hB
   go_upto_region 10 with fail
   rw [← HW9.out]
   try rw [← HB.out]
   have HRX := Lib.hid (HD9.out.blk HR1.out (by omega))
   have HCX := Lib.hid (HD9.out.blk HC1.out (by omega))
   have hBe := HB.out
   have hsC : sb < wC.heap.size := Nat.lt_of_lt_of_le hsl HD.out.size
   have hn1 : B + 1 + 1 ≠ ra := by omega
   have hn2 : B + 1 + 1 ≠ rc := by omega
   have htl : B + 1 + 1 < W9.heap.size := HT9.out.lt
   have hrl : ra < W9.heap.size := HRX.out.lt
   have hcl : rc < W9.heap.size := HCX.out.lt
   have hq1 : ra ≠ W9.heap.size := Nat.ne_of_lt hrl
   have hq2 : rc ≠ W9.heap.size := Nat.ne_of_lt hcl
   have hq3 : B + 1 + 1 ≠ W9.heap.size := Nat.ne_of_lt htl
   have hBB : w.heap.size ≤ B := by omega
   clear hBe
   have o0 := HT9.out.cell 0 rfl
   have o1 := HT9.out.cell 1 rfl
   have o2 := HT9.out.cell 2 rfl
   have o3 := HT9.out.cell 3 rfl
   have r0 := HRX.out.cell 0 rfl
   have r1 := HRX.out.cell 1 rfl
   have r2 := HRX.out.cell 2 rfl
   have r3 := HRX.out.cell 3 rfl
   have fr0 := HRX.out.frozen 0
   have fr1 := HRX.out.frozen 1
   have fr2 := HRX.out.frozen 2
   have fr3 := HRX.out.frozen 3
   have c0 := HCX.out.cell 0 rfl
   have c1 := HCX.out.cell 1 rfl
   have c2 := HCX.out.cell 2 rfl
   have c3 := HCX.out.cell 3 rfl
   have fc0 := HCX.out.frozen 0
   have fc1 := HCX.out.frozen 1
   have fc2 := HCX.out.frozen 2
   have fc3 := HCX.out.frozen 3
   have oo0 : W9.drew.cell? ⟨B + 1 + 1, 0, none⟩ = _ := o0
   have oo1 : W9.drew.cell? ⟨B + 1 + 1, 1, none⟩ = _ := o1
   have oo2 : W9.drew.cell? ⟨B + 1 + 1, 2, none⟩ = _ := o2
   have oo3 : W9.drew.cell? ⟨B + 1 + 1, 3, none⟩ = _ := o3
   have hBW : Hid (Below w.heap.size w W9) := drew_belowT HB1.out HD9.out HB1.out.size hwsb
   go_region
   all_goals (
    go_wp21
    refine bodyPost_ret (tested_results rfl rfl rfl (blk_drewD ((blk_put4D (put4D HRX.out) hnrc).alloc _)) (blk_drewD ((put4D (blk_put4D HCX.out (fun e => hnrc e.symm))).alloc _))) rfl ?_
    exact tested_fin9 hBW.out (HO9.out.lower hBB) HRX.out HCX.out hral hrcl hnrc)

end Go.Proofs.YtnmkncioekdehaaGreatDoor

namespace Go.Proofs.YtnmkncioekdehaaGreatDoor
open Go Go.RowKit


theorem run_append_zeroP {P : Program} {w : World} (base : Nat) (t ty e : TypeId) (i : TypeInfo) (size : Nat) (ht : P.underlying t = some (.slice e)) (hi : P.info? e = some i) (v : Value) (n : Nat) (xs : List Value) (hown : w.ownsRow base e size v n xs) (ad : Option Addr) (c : Nat) :
  (Builtin.append_ #[t, t] ty #[v, .slice ad 0 c]).run P w = .ok v w := by
 rcases hown.2 with ⟨rfl, rfl⟩ | ⟨g, cap, cur, rfl, _, _, hnc, _⟩
 ·cases ad <;> simp [Builtin.append_, run_underlying ht, sizeOf, typeInfo, hi, Builtin.lenOf, Builtin.firstCells, loadCells, loadCellsFrom]
 ·cases ad <;> simp [Builtin.append_, run_underlying ht, sizeOf, typeInfo, hi, Builtin.lenOf, Builtin.firstCells, hnc, loadCells, loadCellsFrom, storeCells]
theorem append_zero {P : Program} {w : World} {ops : Array Oper} {rest : List Oper} {o : Oper} {a : Act} {Q : Exit → Act → World → Prop} (hgd : o.guard = none) (s x : Operand) (t : TypeId)
  (ho : o.op = .call { callee := .builtin .append, args := #[s, x], argTypes := #[t, t] })
  (base : Nat) (e : TypeId) (i : TypeInfo) (size : Nat) (ht : P.underlying t = some (.slice e)) (hi : P.info? e = some i)
  (v : Value) (n : Nat) (xs : List Value) (hs : a.eval s = v) (hown : w.ownsRow base e size v n xs) (ad : Option Addr) (c : Nat) (hx : a.eval x = .slice ad 0 c)
  (h : wpList P ops Q rest (a.put o.dst v) w) : wpList P ops Q (o :: rest) a w := by
 refine wpList_plain hgd fun K hK => ?_
 have hrun := run_append_zeroP (P := P) (w := w) base t o.type e i size ht hi v n xs hown ad c
 unfold Oper.wp
 simp [execOp, ho, resolve, invoke, builtin, hs, hx, hrun, Result.andThen, Oper.upon, hK _ _ h]
theorem append_edges {P : Program} {ops : Array Oper} {rest : List Oper} {o : Oper} {a : Act} {w : World} {Q : Exit → Act → World → Prop} (hgd : o.guard = none) (s x : Operand) (t : TypeId)
  (ho : o.op = .call { callee := .builtin .append, args := #[s, x], argTypes := #[t, t] })
  (base : Nat) (e : TypeId) (i : TypeInfo) (z : Value) (bytes : Nat) (ht : P.underlying t = some (.slice e)) (hi : P.info? e = some i) (hz : i.zero = some z)
  (hsize : i.size = 3) (hby : i.bytes = bytes) (hzs : z.cells.size = 3) (v : Value) (n : Nat) (xs : List Value) (hs : a.eval s = v) (hown : w.ownsRow base e 3 v n xs)
  (lo : Nat) (es : List Edge) (hsrc : SliceK 3 encE lo w (a.eval x) es) (h63 : n + es.length ≤ maxLen) (hbytes : (n + es.length) * bytes ≤ 140737488355328) (hbase : base ≤ w.heap.size)
  (h : ∀ v' w', w'.ownsRow base e 3 v' (n + es.length) (xs ++ es.flatMap encE) → w.grownBy w' v.ownBlock → wpList P ops Q rest (a.put o.dst v') w') :
  wpList P ops Q (o :: rest) a w := by
 obtain ⟨ad, c, hx, -, -, hrow⟩ := hsrc
 rcases hrow with h0 | ⟨b, off, rfl, -, hb, hc⟩
 ·have he : es = [] := List.eq_nil_of_length_eq_zero h0
  subst he
  refine append_zero hgd s x t ho base e i 3 ht hi v n xs hs hown ad c hx (h v w ?_ (grown_refl _ _))
  simpa using hown
 ·refine wpList_append_own_at w hgd s x t ho base e i z 3 bytes ht hi hz hsize hby hzs (by omega) v n xs hs hown ⟨b, off, none⟩ es.length c (es.flatMap encE) hx (flat_len es) ?_ ?_ h63 hbytes hbase (fun v' w' h1 h2 _ _ => h v' w' h1 h2)
  ·intro j u hu
   rw [Addr.add_lit]
   obtain ⟨hj, -⟩ := List.getElem?_eq_some_iff.1 hu
   rw [flat_len] at hj
   have hi3 : j / 3 < es.length := by omega
   obtain ⟨g0, g1, g2⟩ := flat_get es (j / 3) hi3
   have hr : j % 3 < 3 := Nat.mod_lt _ (by omega)
   have hcc := hc (j / 3) hi3 (j % 3) hr
   rw [show off + j / 3 * 3 + j % 3 = off + j from by omega] at hcc
   rw [hcc, ← hu]
   have ha : j = j / 3 * 3 + j % 3 := by omega
   clear hcc
   generalize j / 3 = q at *
   generalize j % 3 = r at *
   rcases (show r = 0 ∨ r = 1 ∨ r = 2 from by omega) with h | h | h <;> subst h
   ·rw [ha, Nat.add_zero, g0]; simp [encE]
   ·rw [ha, g1]; simp [encE]
   ·rw [ha, g2]; simp [encE]
  ·intro u hu
   obtain ⟨y, -, hy⟩ := List.mem_flatMap.1 hu
   simp [encE] at hy
   rcases hy with rfl | rfl | rfl <;> rfl
/-- The edges laid for the states below k. -/
def susTo (t : Lts) (ins : List ByteArray) (k : Nat) : List Edge := t.edges ++ ((upI k).filter (quietB t ins)).map fun k => ⟨k, (t.labels.length : Int), k⟩
theorem susTo_zero (t : Lts) (ins : List ByteArray) : susTo t ins 0 = t.edges := by
 unfold susTo upI; simp
theorem susTo_succ (t : Lts) (ins : List ByteArray) (k : Nat) : susTo t ins (k + 1) = if quietB t ins k then susTo t ins k ++ [⟨k, (t.labels.length : Int), k⟩] else susTo t ins k := by
 unfold susTo
 rw [upI_succ, List.filter_append]
 cases h : quietB t ins k <;> simp [h]
theorem susTo_all (t : Lts) (ins : List ByteArray) : susTo t ins t.states.toNat = susEs t ins := rfl
theorem susTo_len (t : Lts) (ins : List ByteArray) (k : Nat) : (susTo t ins k).length ≤ t.edges.length + k := by
 unfold susTo
 rw [List.length_append, List.length_map]
 have := List.length_filter_le (quietB t ins) (upI k)
 rw [upI_len] at this
 omega
theorem susEs_lab {t : Lts} (hv : Valid t) (ins : List ByteArray) : ∀ e ∈ susEs t ins, 0 ≤ e.lab ∧ e.lab < (t.labels ++ [deltaT]).length := by
 intro e he
 unfold susEs at he
 rw [List.length_append, List.length_singleton]
 rcases List.mem_append.1 he with h | h
 ·obtain ⟨i, hi, rfl⟩ := List.mem_iff_getElem.1 h
  have := hv.edge i hi
  exact ⟨this.l0, by have := this.l1; omega⟩
 ·obtain ⟨k, -, rfl⟩ := List.mem_map.1 h
  simp only
  omega
def RetSp (t : Lts) (ins : List ByteArray) (w : World) (e : Ending) (w' : World) : Prop :=
 Below w.heap.size w w' ∧ ∃ (b : Bool) (lv ev : Value), e = .returned (.tuple #[.agg #[.int .i64 t.states, .int .i64 t.initial, lv, ev], .bool b]) ∧ (b = true ↔ Valid (susT t ins)) ∧ OwnLts w.heap.size w' lv ev (susT t ins)
theorem susp_results {w : World} {b : Nat} {v0 v1 v2 v3 : Value} {tmps : Array Value} (hc : tmps.getD 4 undef = .pointer (some ⟨b, 0, none⟩)) (hb : Blk w b [v0, v1, v2, v3] 27) :
  (results Tryz.f21 tmps).run Tryz.prog w = .ok (.tuple #[.agg #[v0, v1, v2, v3], tmps.getD 5 undef]) w := by
 have h0 := hb.cell 0 rfl
 have h1 := hb.cell 1 rfl
 have h2 := hb.cell 2 rfl
 have h3 := hb.cell 3 rfl
 simp only [Array.getD_eq_getD_getElem?] at hc
 simp [results, Tryz.results21, go_sem, hc, h0, h1, h2, h3, Result.andThen]

end Go.Proofs.YtnmkncioekdehaaGreatDoor

namespace Go.Proofs.YtnmkncioekdehaaGreatDoor
open Go Go.RowKit


/-- A label is an output, and not tau. -/
def outS (ins : List ByteArray) (l : ByteArray) : Bool := !(l.toList == [116, 97, 117]) && outB ins l
theorem out_find {ins : List ByteArray} {l : ByteArray} : decide (textAt ins (l.extract 0 (openAt l.data.toList)) < 0) = outB ins l := by
 have h : (ins.any fun t => t.toList == (l.extract 0 (openAt l.data.toList)).toList) = ins.any fun s => s.toList == labName l := by
  congr 1
  funext t
  rw [show (l.extract 0 (openAt l.data.toList)).toList = labName l from by unfold labName; rw [Lib.toList_data, extract_data']; simp]
 rw [Bool.eq_iff_iff, decide_eq_true_eq, textAt_neg, h]
 unfold outB
 rw [Bool.not_eq_true']

set_option maxRecDepth 100000 in
theorem l28Output_any (lo : Nat) (v : Value) (ins : List ByteArray) (l : ByteArray) (w : World) (hs : l.size ≤ 1073741824) (hv : SliceK 1 encS lo w v ins) :
  Calls Tryz.prog 77 #[.string l, v] w fun e w' => e = .returned (.bool (outS ins l)) ∧ Below w.heap.size w w' := by
 cases h0 : (l.toList == [116, 97, 117])
 ·have H0 := Lib.hid h0
  have HN := Lib.hid (l01LabelName_any l w hs)
  have HF := Lib.hid (l11Find_any lo v ins (l.extract 0 (openAt l.data.toList)) w hv)
  have HO := Lib.hid (out_find (ins := ins) (l := l))
  obtain ⟨nm, hnm⟩ : ∃ nm, nm = l.extract 0 (openAt l.data.toList) := ⟨_, rfl⟩
  rw [← hnm] at HN HF HO
  obtain ⟨tn, htn⟩ : ∃ tn, tn = textAt ins nm := ⟨_, rfl⟩
  rw [← htn] at HF HO
  clear hv hs hnm htn
  go_enter Tryz.func77, Tryz.ntmps77
  go_wp2_with fail
  refine Calls.mono HN.out ?_
  rintro e w1 ⟨rfl, rfl⟩
  go_wp2_with fail
  refine Calls.mono HF.out ?_
  rintro e w2 ⟨rfl, hb2⟩
  have HB2 := Lib.hid hb2
  clear hb2
  go_wp2
  go_ret
  exact ⟨ret_bool (by unfold outS; rw [H0.out, ← HO.out]; simp), HB2.out⟩
 ·have H0 := Lib.hid h0
  clear hv hs
  go_enter Tryz.func77, Tryz.ntmps77
  go_wp2
  go_ret
  exact ⟨ret_bool (by unfold outS; rw [H0.out]; simp), Below.refl _ _⟩

/-- An edge from a state that bears tau or an output. -/
def badE (t : Lts) (ins : List ByteArray) (s : Int) (e : Edge) : Bool := (e.src == s) && (e.lab == 0 || outB ins (labAt t e))
theorem quiet_bad {t : Lts} {ins : List ByteArray} {s : Int} : quietB t ins s = true ↔ ∀ j (h : j < t.edges.length), badE t ins s t.edges[j] = false := by
 unfold quietB
 rw [List.all_eq_true]
 constructor
 ·intro h j hj
  have := h _ (List.getElem_mem hj)
  unfold badE
  rwa [Bool.not_eq_true'] at this
 ·intro h e he
  obtain ⟨j, hj, rfl⟩ := List.mem_iff_getElem.1 he
  have := h j hj
  unfold badE at this
  rw [this]; rfl
theorem quiet_no {t : Lts} {ins : List ByteArray} {s : Int} {j : Nat} (h : j < t.edges.length) (hb : badE t ins s t.edges[j] = true) : quietB t ins s = false := by
 rw [Bool.eq_false_iff]
 intro hq
 rw [quiet_bad.1 hq j h] at hb
 cases hb

set_option maxRecDepth 100000 in
set_option maxHeartbeats 4000000 in
theorem l28Quiet_any (p lo : Nat) (t : Lts) (v : Value) (ins : List ByteArray) (s : Int) (w : World) (hv : Valid t) (hsh : Short t.labels) (hp : LtsPtr lo w p t) (hi : SliceK 1 encS lo w v ins) :
  Calls Tryz.prog 48 #[.pointer (some ⟨p, 0, none⟩), v, .int .i64 s] w fun e w' => e = .returned (.bool (quietB t ins s)) ∧ Below w.heap.size w w' := by
 have HV := Lib.hid hv
 have hmost := hv.most
 have HI := Lib.hid hi
 have HSH := Lib.hid hsh
 obtain ⟨lv, ev, hpl, -, -, q2, q3, hl, he⟩ := hp
 obtain ⟨ae, ce, rfl, hen, hec, hrow⟩ := he
 obtain ⟨al, cl, rfl, hlc, -, hlrow⟩ := hl
 obtain ⟨E, hE⟩ : ∃ E, E = t.edges.length := ⟨_, rfl⟩
 obtain ⟨LN, hLN⟩ : ∃ LN, LN = t.labels.length := ⟨_, rfl⟩
 have hL1 := hv.labels.pos
 obtain ⟨bl, ol, rfl, hblw, hcl⟩ : ∃ bl ol, al = some ⟨bl, ol, none⟩ ∧ bl < w.heap.size ∧ ∀ i (h : i < t.labels.length), w.cell? ⟨bl, ol + i, none⟩ = some (.string t.labels[i]) := by
  rcases hlrow with h | ⟨bl, ol, h1, -, h3, h4⟩
  ·omega
  ·exact ⟨bl, ol, h1, h3, fun i hi => by have := h4 i hi 0 (by omega); simpa [encS] using this⟩
 rw [← hE] at q3 hen hmost
 rw [← hLN] at q2 hlc hL1
 have HR := Lib.hid hrow
 have HQ3 := Lib.hid q3
 have HQ2 := Lib.hid q2
 have HCL := Lib.hid hcl
 have HE := Lib.hid hE
 have HLN := Lib.hid hLN
 clear hv hrow hE q2 q3 hcl hLN hlrow hi hsh
 go_enter Tryz.func48, Tryz.ntmps48
 go_wp2
 go_loopw [7] (fun i wr => ∃ k : Nat, k ≤ E ∧ i = .int .i64 k ∧ Below w.heap.size w wr ∧ ∀ j (h : j < t.edges.length), j < k → badE t ins s t.edges[j] = false) (fun i _ => E - (intOf i).toNat)
 case atStart => exact ⟨0, Nat.zero_le _, rfl, Below.refl _ _, fun _ _ h => by omega⟩
 case round =>
  obtain ⟨k, hk, rfl, hbl, hx1⟩ := hrel
  have HBL := Lib.hid hbl
  have HX1 := Lib.hid hx1
  have hsz := hbl.size
  have q3 := keeps hbl hpl HQ3.out
  clear hx1
  by_cases hlt : k < E
  ·have hlt2 : k < t.edges.length := by rw [← HE.out]; exact hlt
   obtain ⟨be, oe, rfl, -, hbe, e1, e2, e3⟩ := (HR.out.below hbl).edge hlt2
   have hok := HV.out.edge k hlt2
   obtain ⟨l, hl⟩ : ∃ l, l = labAt t t.edges[k] := ⟨_, rfl⟩
   obtain ⟨x, hx⟩ : ∃ x, x = t.edges[k] := ⟨_, rfl⟩
   have hok2 := hok
   rw [← hx] at e1 e2 e3 hl hok2
   obtain ⟨m, hm⟩ : ∃ m : Nat, (m : Int) = x.lab := ⟨x.lab.toNat, by have := hok2.l0; omega⟩
   have hmt : x.lab.toNat = m := by omega
   have hmL2 : m < t.labels.length := by have := hok2.l1; omega
   have hmL : m < LN := by have := HLN.out; omega
   have hlm : l = t.labels[m] := by
    rw [hl]
    unfold labAt
    rw [hmt, List.getD_eq_getElem?_getD, List.getElem?_eq_getElem hmL2]
    rfl
   have hcm : w.cell? ⟨bl, ol + m, none⟩ = some (.string l) := by rw [hlm]; exact HCL.out m hmL2
   have HCM := Lib.hid hcm
   have HLS : Hid (l.size ≤ 1073741824) := by unfold Hid; rw [hlm]; exact HSH.out m hmL2
   have HOT : Hid (m ≠ 0 → (l.toList == [116, 97, 117]) = false) := fun h => by
    rw [hlm, beq_eq_false_iff_ne]
    exact HV.out.labels.other m hmL2 (by omega)
   rw [← hm] at e2
   obtain ⟨xs, hxs⟩ : ∃ xs, xs = x.src := ⟨_, rfl⟩
   obtain ⟨xd, hxd⟩ : ∃ xd, xd = x.dst := ⟨_, rfl⟩
   rw [← hxs] at e1
   rw [← hxd] at e3
   have HBD : Hid (badE t ins s t.edges[k] = ((xs == s) && (((m : Int) == 0) || outB ins l))) := by
    unfold Hid badE
    rw [← hx, ← hl, hm, hxs]
   -- the edge's box
   obtain ⟨wD, hwD⟩ : ∃ wD, wD = wr.alloc (.cells #[.int .i64 xs, .int .i64 m, .int .i64 xd] 47) := ⟨_, rfl⟩
   have hX : Blk wD wr.heap.size [.int .i64 xs, .int .i64 m, .int .i64 xd] 47 := by rw [hwD]; exact Blk.new wr _ _
   have hbD : Below w.heap.size w wD := by rw [hwD]; exact hbl.alloc hsz _
   have HB2 := Lib.hid hbD
   have hszD := hbD.size
   have x0 := later_cell hX.lt (hX.cell 0 rfl)
   have x1 := later_cell hX.lt (hX.cell 1 rfl)
   have lq2 := later_cell (show p < wD.heap.size by omega) (keeps hbD hpl HQ2.out)
   have lcm := later_cell (show bl < wD.heap.size by omega) (keeps hbD hblw HCM.out)
   have HWD := Lib.hid hwD
   have HOU : Hid (∀ g : Later wD, Calls Tryz.prog 77 #[.string l, v] g.w fun e w' => e = .returned (.bool (outS ins l)) ∧ Below g.w.heap.size g.w w') := fun g =>
    l28Output_any lo v ins l g.w HLS.out ((HI.out.below HB2.out).below g.h)
   have hmi : (0 : Int) ≤ (m : Int) := by omega
   have HSTEP : Hid (badE t ins s t.edges[k] = false → ∀ j (h : j < t.edges.length), j < k + 1 → badE t ins s t.edges[j] = false) := fun hb j h hj => by
    by_cases e : j = k
    ·subst e; exact hb
    ·exact HX1.out j h (by omega)
   have HNO : Hid (badE t ins s t.edges[k] = true → quietB t ins s = false) := fun hb => quiet_no hlt2 hb
   obtain ⟨B, hB⟩ : ∃ B, B = badE t ins s t.edges[k] := ⟨_, rfl⟩
   rw [← hB] at HBD HNO HSTEP
   clear hbl hok hok2 hl hlm hx hm hmt hmL2 hcm hxs hxd hX hbD hB
   cases g1 : (xs == s)
   ·have HF : Hid (B = false) := by unfold Hid; rw [HBD.out, g1]; rfl
    go_wp2
    rw [← HWD.out]
    refine wp_region_later (by kernel_rfl) (by kernel_rfl) ?_
    repeat (go_big_quiet_step ((fail)))
    refine wpQuiet_nil ?_
    intro _ hw9
    obtain ⟨nl, hw8⟩ := hw9
    subst hw8
    have HBN := Lib.hid (HB2.out.trans (nl.h.mono hszD))
    clear x0 x1 lq2 lcm
    go_wp2
    go_roundw
    case rel => exact ⟨k + 1, by omega, by go_num, HBN.out, HSTEP.out HF.out⟩
    case measure => simp [intOf]; omega
   ·cases h0 : ((m : Int) == 0)
    ·have hne : m ≠ 0 := fun e => by rw [e] at h0; simp at h0
     obtain ⟨O, hO⟩ : ∃ O, O = outS ins l := ⟨_, rfl⟩
     rw [← hO] at HOU
     have HF : Hid (B = O) := by unfold Hid; rw [HBD.out, g1, h0, hO]; unfold outS; rw [HOT.out hne]; rfl
     clear hO hne
     cases O
     ·go_wp2
      rw [← HWD.out]
      refine wp_region_later (by kernel_rfl) (by kernel_rfl) ?_
      repeat (go_big_quiet_step ((go_at_call 77; exact later_call (HOU.out _))))
      refine wpQuiet_nil ?_
      intro _ hw9
      obtain ⟨nl, hw8⟩ := hw9
      subst hw8
      have HBN := Lib.hid (HB2.out.trans (nl.h.mono hszD))
      clear x0 x1 lq2 lcm
      go_wp2
      go_roundw
      case rel => exact ⟨k + 1, by omega, by go_num, HBN.out, HSTEP.out HF.out⟩
      case measure => simp [intOf]; omega
     ·go_wp2
      rw [← HWD.out]
      refine wp_region_later (by kernel_rfl) (by kernel_rfl) ?_
      repeat (go_big_quiet_step ((go_at_call 77; exact later_call (HOU.out _))))
      refine wpQuiet_nil ?_
      intro _ hw9
      obtain ⟨nl, hw8⟩ := hw9
      subst hw8
      have HBN := Lib.hid (HB2.out.trans (nl.h.mono hszD))
      clear x0 x1 lq2 lcm
      go_wp2
      go_ret
      exact ⟨ret_bool (HNO.out HF.out).symm, HBN.out⟩
    ·have HF : Hid (B = true) := by unfold Hid; rw [HBD.out, g1, h0]; rfl
     go_wp2
     rw [← HWD.out]
     refine wp_region_later (by kernel_rfl) (by kernel_rfl) ?_
     repeat (go_big_quiet_step ((fail)))
     refine wpQuiet_nil ?_
     intro _ hw9
     obtain ⟨nl, hw8⟩ := hw9
     subst hw8
     have HBN := Lib.hid (HB2.out.trans (nl.h.mono hszD))
     clear x0 x1 lq2 lcm
     go_wp2
     go_ret
     exact ⟨ret_bool (HNO.out HF.out).symm, HBN.out⟩
  ·have HQ : Hid (quietB t ins s = true) := by
    unfold Hid
    rw [quiet_bad]
    exact fun j h => HX1.out j h (by have := HE.out; omega)
   clear hbl
   go_wp2
   go_ret
   exact ⟨ret_bool HQ.out.symm, HBL.out⟩

end Go.Proofs.YtnmkncioekdehaaGreatDoor
