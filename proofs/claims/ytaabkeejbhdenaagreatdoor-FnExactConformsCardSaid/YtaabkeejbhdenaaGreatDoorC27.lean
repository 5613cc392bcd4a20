/-
  The implementation's visible at any label, and after.
  A set of keys in a map whose values are true.
  Maps whose keys are pairs of numbers.
  The library's Concat at two lists of texts.
  What the implementation's follow and step compute at one state of a deterministic system.
  What the implementation's step computes in a deterministic system.
-/
import Derived.Test.YtaabkeejbhdenaaGreatDoorC8
import Derived.Test.YtaabkeejbhdenaaGreatDoorC14
import Derived.Test.YtaabkeejbhdenaaGreatDoorC3
import Derived.Test.YtaabkeejbhdenaaGreatDoorC1
import Derived.Maps.OwnOps
import Derived.Test.YtaabkeejbhdenaaGreatDoorRows
import Derived.DeepKeys4
import Derived.MapViews
import Derived.Test.YtaabkeejbhdenaaGreatDoorC6
import Derived.Test.YtaabkeejbhdenaaGreatDoorC10
import Derived.Maps.AppendAt
import Derived.Test.YtaabkeejbhdenaaGreatDoorC7
import Derived.Test.YtaabkeejbhdenaaGreatDoorC5
import Derived.Test.YtaabkeejbhdenaaGreatDoorC21
namespace Go.Proofs.YtaabkeejbhdenaaGreatDoor
open Go Go.RowKit

theorem setL_none {t : Lts} (hv : Valid t) : setL t.states (clos t fun y => y ∈ ([] : List Int)) = [] := by
 have hs := setL_is (n := t.states) (P := clos t fun y => y ∈ ([] : List Int)) (clos.inside hv fun x hx => by cases hx)
 refine List.eq_nil_iff_forall_not_mem.2 fun x hx => ?_
 obtain ⟨a, ha, -⟩ := (hs.mem x).1 hx
 cases ha
theorem followL_no {t : Lts} (hv : Valid t) (cur : List Int) {l : ByteArray} (h : inT t.labels l = false) : followL t cur l = [] := by
 have h1 : followR t cur l = [] := by
  unfold followR
  rw [List.map_eq_nil_iff, List.filter_eq_nil_iff]
  intro e he hh
  unfold hitS at hh
  rw [Bool.and_eq_true] at hh
  obtain ⟨i, hi, rfl⟩ := List.mem_iff_getElem.1 he
  obtain ⟨hk, hl⟩ := labAt_idx (hv.edge i hi)
  have h2 : inT t.labels l = true := inT_mem.2 (by rw [← toList_inj (eq_of_beq hh.2), hl]; exact List.getElem_mem _)
  rw [h] at h2
  cases h2
 unfold followL
 rw [h1]
 refine List.eq_nil_of_length_eq_zero (Nat.le_zero.1 ?_)
 refine Nat.le_trans (Lib.compact_length_le _) ?_
 simp

set_option maxRecDepth 100000 in
set_option maxHeartbeats 2000000 in
theorem visNo_any (lo lo2 : Nat) (t : Lts) (lv ev sv : Value) (cur : List Int) (l : ByteArray) (w : World) (hv : Valid t) (hl : SliceK 1 encS lo w lv t.labels) (he : SliceK 3 encE lo w ev t.edges) (hs : SliceK 1 encI lo2 w sv cur) (hno : inT t.labels l = false) :
  Calls Tryz.prog 62 #[.agg #[.int .i64 t.states, .int .i64 t.initial, lv, ev], sv, .string l] w (MadeNums [] w) := by
 have HV := Lib.hid hv
 have HL := Lib.hid hl
 have HE := Lib.hid he
 obtain ⟨wB, hwB⟩ : ∃ wB, wB = w.alloc (.cells #[.int .i64 t.states, .int .i64 t.initial, lv, ev] 29) := ⟨_, rfl⟩
 have hb0 : Below w.heap.size w wB := by rw [hwB]; exact (Below.refl _ _).alloc (Nat.le_refl _) _
 have hx0 : Blk wB w.heap.size [.int .i64 t.states, .int .i64 t.initial, lv, ev] 29 := by rw [hwB]; exact Blk.new w _ _
 have HB0 := Lib.hid hb0
 have HWB := Lib.hid hwB
 obtain ⟨bx, hbx⟩ : ∃ bx, bx = w.heap.size := ⟨_, rfl⟩
 rw [← hbx] at hx0
 have HBX := Lib.hid hbx
 have hD : Below wB.heap.size wB wB.drew := (Below.refl _ _).drew
 have HD := Lib.hid hD
 have HX := Lib.hid hx0
 have HSW : Hid (∀ w', Below wB.heap.size wB w' → w'.cell? ⟨bx, 0, none⟩ = some (.int .i64 t.states) ∧ w'.cell? ⟨bx, 1, none⟩ = some (.int .i64 t.initial) ∧ w'.cell? ⟨bx, 2, none⟩ = some lv ∧ w'.cell? ⟨bx, 3, none⟩ = some ev) := fun w' hb =>
  ⟨(HX.out.below hb).cell 0 rfl, (HX.out.below hb).cell 1 rfl, (HX.out.below hb).cell 2 rfl, (HX.out.below hb).cell 3 rfl⟩
 have hb1 : Below w.heap.size w wB.drew := hb0.trans (hD.mono hb0.size)
 have hfo := follow_any lo lo2 t lv ev sv cur l wB.drew hv (hl.below hb1) (he.below hb1) (hs.below hb1)
 rw [followL_no hv cur hno] at hfo
 have HF := Lib.hid hfo
 have HIN : Hid (∀ w' v, Below wB.heap.size wB w' → SliceK 1 encI wB.drew.heap.size w' v ([] : List Int) → Calls Tryz.prog 58 #[.agg #[.int .i64 t.states, .int .i64 t.initial, lv, ev], v] w' (MadeNums [] w')) := fun w' v hb hs' => by
  have h := internal_any lo _ t lv ev v [] w' HV.out (HL.out.below (HB0.out.trans (hb.mono HB0.out.size))) (HE.out.below (HB0.out.trans (hb.mono HB0.out.size))) hs' (fun x hx => by cases hx) (by simp)
  rw [setL_none HV.out] at h
  exact h
 clear hv hl he hs hno hb0 hx0 hwB hbx hD hb1 hfo
 go_enter Tryz.func62, Tryz.ntmps62
 go_wp2
 rw [← HWB.out, ← HBX.out]
 go_region_held3 (fun w' => w'.cell? ⟨bx, 0, none⟩ = some (.int .i64 t.states) ∧ w'.cell? ⟨bx, 1, none⟩ = some (.int .i64 t.initial) ∧ w'.cell? ⟨bx, 2, none⟩ = some lv ∧ w'.cell? ⟨bx, 3, none⟩ = some ev)
  (first
   | exact HSW.out _ (Below.refl _ _)
   | exact HSW.out _ HD.out
   | exact HSW.out _ hq1
   | exact HSW.out _ hq2
   | go_keep)
  (first
   | (go_at_call 100; refine Calls.mono HF.out ?_; rintro e w1 ⟨v1, rfl, hb1, ho1⟩; have hq1 : Below wB.heap.size wB w1 := HD.out.trans (hb1.mono (by simp)))
   | (go_at_call 58; refine Calls.mono (HIN.out _ _ hq1 (SliceK.of_owns (enc := encI) encI_len rfl (by rw [flat_encI]; exact ho1))) ?_; rintro e w2 ⟨v2, rfl, hb2, ho2⟩; have hq2 : Below wB.heap.size wB w2 := hq1.trans (hb2.mono hq1.size))
   | fail)
 all_goals (
  have hq1s := hq1.size
  have HBF := Lib.hid (HB0.out.trans (hq2.mono HB0.out.size))
  have HOF := Lib.hid (own_lower ho2 (Nat.le_trans HB0.out.size hq1s))
  clear hb1 ho1 hq1 hb2 ho2 hq2 hq1s
  go_wp2
  go_ret
  exact ⟨_, rfl, HBF.out, HOF.out⟩)
theorem visL_any (lo lo2 : Nat) (t : Lts) (lv ev sv : Value) (cur : List Int) (l : ByteArray) (w : World) (hv : Valid t) (hl : SliceK 1 encS lo w lv t.labels) (he : SliceK 3 encE lo w ev t.edges) (hs : SliceK 1 encI lo2 w sv cur) :
  Calls Tryz.prog 62 #[.agg #[.int .i64 t.states, .int .i64 t.initial, lv, ev], sv, .string l] w (MadeNums (nxtL t cur l) w) := by
 unfold nxtL
 cases h : inT t.labels l
 ·rw [if_neg (by simp)]
  exact visNo_any lo lo2 t lv ev sv cur l w hv hl he hs h
 ·rw [if_pos rfl]
  obtain ⟨hk, hg, -⟩ := idxL_get (inT_mem.1 h)
  exact visible_any lo lo2 t lv ev sv cur l w hv hl he hs hk hg

theorem aftL_take (t : Lts) (tr : List ByteArray) {k : Nat} (h : k < tr.length) : aftL t (tr.take (k + 1)) = nxtL t (aftL t (tr.take k)) tr[k] := by rw [List.take_succ_eq_append_getElem h, aftL_snoc]

set_option maxRecDepth 100000 in
set_option maxHeartbeats 4000000 in
theorem after_any (lo lo2 : Nat) (t : Lts) (lv ev tv : Value) (tr : List ByteArray) (w : World) (hv : Valid t) (hl : SliceK 1 encS lo w lv t.labels) (he : SliceK 3 encE lo w ev t.edges) (ht : SliceK 1 encS lo2 w tv tr) (hz : tr.length ≤ 100000) :
  Calls Tryz.prog 39 #[.agg #[.int .i64 t.states, .int .i64 t.initial, lv, ev], tv] w (MadeNums (aftL t tr) w) := by
 obtain ⟨tb, htb⟩ : ∃ tb, tb = w.heap.size := ⟨_, rfl⟩
 obtain ⟨wA, hwA⟩ : ∃ wA, wA = w.alloc (.cells #[.int .i64 t.states, .int .i64 t.initial, lv, ev] 29) := ⟨_, rfl⟩
 have hbA : Below w.heap.size w wA := by rw [hwA]; exact (Below.refl _ _).alloc (Nat.le_refl _) _
 have hT : Blk wA tb [.int .i64 t.states, .int .i64 t.initial, lv, ev] 29 := by rw [hwA, htb]; exact Blk.new w _ _
 have hsA : wA.heap.size = tb + 1 := by rw [hwA, htb]; simp
 obtain ⟨w1, hw1⟩ : ∃ w1, w1 = wA.alloc (.cells #[.int .i64 t.initial] 2) := ⟨_, rfl⟩
 have hb1 : Below wA.heap.size wA w1 := by rw [hw1]; exact (Below.refl _ _).alloc (Nat.le_refl _) _
 have hS : SliceK 1 encI 0 w1 (.slice (some ⟨tb + 1, 0, none⟩) 1 1) [t.initial] := by
  have := World.ownsRow_lit (base := 0) (e := 2) (size := 1) wA #[.int .i64 t.initial] 1 (Nat.zero_le _) (by decide) (by simp)
  rw [hsA] at this
  rw [hw1]
  exact SliceK.of_owns (e := 2) encI_len rfl (by rw [flat_encI]; simpa using this)
 have hIN := internal_any lo 0 t lv ev _ [t.initial] w1 hv ((hl.below hbA).below hb1) ((he.below hbA).below hb1) hS (fun x hx => by rw [List.mem_singleton] at hx; subst hx; exact ⟨hv.in0, hv.in1⟩) (by simp)
 rw [firstS_eq] at hIN
 have HIN := Lib.hid hIN
 have HV := Lib.hid hv
 have HL := Lib.hid (hl.below hbA)
 have HE := Lib.hid (he.below hbA)
 have HTV := Lib.hid (ht.below hbA)
 have HT := Lib.hid hT
 have HBA := Lib.hid hbA
 have HB1 := Lib.hid hb1
 have HWA := Lib.hid hwA
 have HW1 := Lib.hid hw1
 have HTB := Lib.hid htb
 obtain ⟨ta, tc, rfl, -, -, -⟩ := ht
 obtain ⟨N, hN⟩ : ∃ N, N = tr.length := ⟨_, rfl⟩
 rw [← hN] at hz HTV ⊢
 have HN := Lib.hid hN
 clear hv hl he hwA hbA hT hw1 hb1 hS hIN htb hsA hN
 go_enter Tryz.func39, Tryz.ntmps39
 go_wp2_with fail
 rw [← HWA.out, ← HW1.out, ← HTB.out]
 refine Calls.mono HIN.out ?_
 rintro e w2 ⟨v2, rfl, hb2, ho2⟩
 have HB2 := Lib.hid (HB1.out.trans (hb2.mono HB1.out.size))
 have HO2 := Lib.hid (own_lower ho2 HB1.out.size)
 clear hb2 ho2 HIN
 go_wp2
 go_loopw [5, 15] (fun v5 v15 wr => ∃ k : Nat, k ≤ N ∧ v15 = .int .i64 k ∧ Below wA.heap.size wA wr ∧ wr.ownsRow wA.heap.size 2 1 v5 (aftL t (tr.take k)).length ((aftL t (tr.take k)).map (Value.int .i64))) (fun _ v15 _ => N - (intOf v15).toNat)
 case atStart => exact ⟨0, Nat.zero_le _, rfl, HB2.out, HO2.out⟩
 case round =>
  clear HO2
  obtain ⟨k, hk, rfl, hbl, ho⟩ := hrel
  have HBL := Lib.hid hbl
  have HO := Lib.hid ho
  have hsz := hbl.size
  obtain ⟨va, vc, hv5, -, -⟩ := owns_slice ho
  subst hv5
  by_cases hlt : k < N
  ·have hlt2 : k < tr.length := by rw [← HN.out]; exact hlt
   obtain ⟨a9, c9, h9, -, -, hr9⟩ := HTV.out.below hbl
   simp only [Value.slice.injEq] at h9
   obtain ⟨rfl, -, rfl⟩ := h9
   obtain ⟨b, o, rfl, -, hb, cx⟩ := hr9.one hlt2
   simp only [encS, List.getElem?_cons_zero] at cx
   have HNX := Lib.hid (aftL_take t tr hlt2)
   obtain ⟨l, hl⟩ : ∃ l, l = tr[k] := ⟨_, rfl⟩
   rw [← hl] at cx HNX
   have x0 := (HT.out.below hbl).cell 0 rfl
   have x1 := (HT.out.below hbl).cell 1 rfl
   have x2 := (HT.out.below hbl).cell 2 rfl
   have x3 := (HT.out.below hbl).cell 3 rfl
   obtain ⟨cur, hcur⟩ : ∃ cur, cur = aftL t (tr.take k) := ⟨_, rfl⟩
   rw [← hcur] at ho HO HNX ⊢
   have HVS := Lib.hid (visL_any lo wA.heap.size t lv ev (.slice va cur.length vc) cur l wr HV.out (HL.out.below hbl) (HE.out.below hbl) (SliceK.of_owns (e := 2) encI_len rfl (by rw [flat_encI]; exact ho)))
   obtain ⟨CN, hCN⟩ : ∃ CN, CN = cur.length := ⟨_, rfl⟩
   rw [← hCN] at HVS ⊢
   clear hbl ho hr9 hl hcur hCN
   go_wp2_with fail
   refine Calls.mono HVS.out ?_
   rintro e w3 ⟨v3, rfl, hb3, ho3⟩
   have HB3 := Lib.hid (HBL.out.trans (hb3.mono hsz))
   have HO3 : Hid (w3.ownsRow wA.heap.size 2 1 v3 (aftL t (tr.take (k + 1))).length ((aftL t (tr.take (k + 1))).map (Value.int .i64))) := by
    unfold Hid; rw [HNX.out]; exact own_lower ho3 hsz
   clear hb3 ho3 HVS x0 x1 x2 x3 cx
   go_wp2
   go_roundw
   case rel => exact ⟨k + 1, by omega, by go_num, HB3.out, HO3.out⟩
   case measure => simp [intOf]; omega
  ·obtain rfl : k = N := by omega
   have HF : Hid (aftL t (tr.take k) = aftL t tr) := by unfold Hid; rw [List.take_of_length_le (by have := HN.out; omega)]
   clear hbl ho
   go_wp2
   go_ret
   refine ⟨_, rfl, HBA.out.trans (HBL.out.mono HBA.out.size), ?_⟩
   rw [← HF.out]
   exact own_lower HO.out HBA.out.size

end Go.Proofs.YtaabkeejbhdenaaGreatDoor

namespace Go.Proofs.YtaabkeejbhdenaaGreatDoor
open Go Go.RowKit Go.ChangeMaps Go.MapKept
open Go.Maps (Keyed)

def trueAt (ks : List Value) : List MapEntry := ks.mapIdx fun i k => (⟨k, .bool true, i⟩ : MapEntry)
/-- The block of a map whose keys lead to true. -/
def SetMap (w : World) (b : Nat) (ks : List Value) : Prop := w.heap[b]? = some (.map (trueAt ks).toArray ks.length)

theorem SetMap.made (w : World) : SetMap (w.alloc (.map #[] 0)) w.heap.size [] := (MapKept.heap_alloc w _).1
theorem SetMap.lt {w : World} {b : Nat} {ks : List Value} (h : SetMap w b ks) : b < w.heap.size := (Array.getElem?_eq_some_iff.1 h).1
theorem SetMap.kept {w w' : World} {b : Nat} {ks : List Value} {row : Option Nat} (h : SetMap w b ks) (hg : w.grownBy w' row) (hne : some b ≠ row) : SetMap w' b ks :=
 (hg.block b (Array.getElem?_eq_some_iff.1 h).1 hne).trans h
theorem SetMap.below {w w' : World} {b : Nat} {ks : List Value} (h : SetMap w b ks) (hb : Below w.heap.size w w') : SetMap w' b ks :=
 (hb.block b (Array.getElem?_eq_some_iff.1 h).1).trans h

theorem trueAt_key {ks : List Value} {e : MapEntry} (h : e ∈ (trueAt ks).toArray.toList) : e.key ∈ ks := by
 simp only [trueAt, List.mem_mapIdx] at h
 obtain ⟨i, hi, rfl⟩ := h
 exact List.getElem_mem hi
theorem trueAt_val {ks : List Value} {e : MapEntry} (h : e ∈ (trueAt ks).toArray.toList) : e.val = .bool true := by
 simp only [trueAt, List.mem_mapIdx] at h
 obtain ⟨i, hi, rfl⟩ := h
 rfl

section
variable {P : Program} {k t e : TypeId} {w : World} {b : Nat} {ks : List Value}

theorem SetMap.found (h : SetMap w b ks) (K : Keyed P k) (ht : P.underlying t = some (.map k e)) (hks : ∀ v ∈ ks, ∃ l, keyOf P k v = some l) {key : Value} (hin : key ∈ ks) :
  (Instr.lookup t (.map (some b)) key false).run P w = .ok (.bool true) w := by
 obtain ⟨kl, hkey⟩ := hks _ hin
 rcases K.find w hkey (trueAt ks).toArray.toList (fun x hx => hks _ (trueAt_key hx)) with ⟨_, h2⟩ | ⟨j, e0, h1, h2, h3⟩
 ·exfalso
  obtain ⟨i, hi, rfl⟩ := List.mem_iff_getElem.1 hin
  refine h2 ⟨ks[i], .bool true, i⟩ ?_ rfl
  simp only [trueAt, List.mem_mapIdx]
  exact ⟨i, hi, rfl⟩
 ·have hb : w.heap[b]? = some (.map (trueAt ks).toArray ks.length) := h
  have hv := trueAt_val (List.mem_of_getElem? h2)
  have h2' : (trueAt ks)[j]? = some e0 := by simpa using h2
  obtain ⟨hj, h2''⟩ := List.getElem?_eq_some_iff.1 h2'
  simp only at h1
  simp [Instr.lookup, run_underlying ht, MapKept.run_getObj_map hb, K.check w _ hkey, h1, hv, Result.andThen]

theorem SetMap.missing (h : SetMap w b ks) (K : Keyed P k) (ht : P.underlying t = some (.map k e)) (hks : ∀ v ∈ ks, ∃ l, keyOf P k v = some l) (hz : (zeroValue e).run P w = .ok (.bool false) w) {key : Value} {kl : Lit} (hkey : keyOf P k key = some kl) (hn : key ∉ ks) :
  (Instr.lookup t (.map (some b)) key false).run P w = .ok (.bool false) w := by
 rcases K.find w hkey (trueAt ks).toArray.toList (fun x hx => hks _ (trueAt_key hx)) with ⟨h1, _⟩ | ⟨j, e0, _, h2, h3⟩
 ·have hb : w.heap[b]? = some (.map (trueAt ks).toArray ks.length) := h
  simp only at h1
  simp [Instr.lookup, run_underlying ht, MapKept.run_getObj_map hb, K.check w _ hkey, h1, hz, Result.andThen]
 ·exact absurd (h3 ▸ trueAt_key (List.mem_of_getElem? h2)) hn

theorem SetMap.store (h : SetMap w b ks) (K : Keyed P k) (ht : P.underlying t = some (.map k e)) (hks : ∀ v ∈ ks, ∃ l, keyOf P k v = some l) {key : Value} {kl : Lit} (hkey : keyOf P k key = some kl) (hn : key ∉ ks) (hroom : ks.length < maxLen) :
  ∃ w', (Instr.mapUpdate t (.map (some b)) key (.bool true)).run P w = .ok () w' ∧ SetMap w' b (ks ++ [key]) ∧ w.grownBy w' (some b) := by
 have hb : w.heap[b]? = some (.map (trueAt ks).toArray ks.length) := h
 have e1 : (trueAt (ks ++ [key])).toArray = (trueAt ks).toArray.push ⟨key, .bool true, ks.length⟩ := by
  unfold trueAt
  rw [List.mapIdx_append]
  simp
 rcases K.find w hkey (trueAt ks).toArray.toList (fun x hx => hks _ (trueAt_key hx)) with ⟨h1, _⟩ | ⟨j, e0, _, h2, h3⟩
 ·refine ⟨setBlock w b (.map ((trueAt ks).toArray.push ⟨key, .bool true, ks.length⟩) (ks.length + 1)), ?_, ?_, ?_⟩
  ·simp only at h1
   have hr : ks.length < 9223372036854775807 := hroom
   simp [Instr.mapUpdate, run_underlying ht, MapKept.run_getObj_map hb, K.check w false hkey, h1, MapKept.run_setObj_map _ hb, Result.andThen, setBlock]
  ·unfold SetMap
   rw [e1, List.length_append, List.length_singleton]
   exact heap_setBlock_same hb _
  ·exact ⟨rfl, rfl, rfl, by simp [setBlock], fun i _ hi => heap_setBlock_other hb _ (fun e => hi (by rw [e]))⟩
 ·exact absurd (h3 ▸ trueAt_key (List.mem_of_getElem? h2)) hn

end
end Go.Proofs.YtaabkeejbhdenaaGreatDoor

namespace Go.Proofs.YtaabkeejbhdenaaGreatDoor
open Go Go.RowKit
open Go.Maps (Keyed)

def key2 (p : Int × Int) : Value := .agg #[.int .i64 p.1, .int .i64 p.2]
theorem key2_inj {a b : Int × Int} (h : key2 a = key2 b) : a = b := by
 obtain ⟨x, y⟩ := a
 obtain ⟨u, v⟩ := b
 simpa [key2] using h
theorem underMap2 : Tryz.prog.underlying 113 = some (.map 117 4) := Tryz.underlying113
theorem laidOut2 : laidOutB Tryz.prog = true := by kernel_rfl
theorem row2Ok : (117 : TypeId) < Tryz.prog.types.size := of_decide_eq_true (by kernel_rfl)
theorem wide2 : (match Tryz.prog.underlying 117 with | some (.array _ _) | some (.struct _) => true | _ => false) = true := by rw [Tryz.underlying117]
set_option maxRecDepth 100000 in
theorem law2 : WideMaps.KeyLaw Tryz.prog 117 := deep_law_laid laidOut2 (m := 2) (by omega) row2Ok (by kernel_rfl) wide2
theorem keyed2 : Keyed Tryz.prog 117 := Keyed.of_law law2
theorem cells2Ok : Tryz.prog.cellsOf 117 = 2 := by kernel_rfl
theorem cellsI2 : Tryz.prog.cellsOf 2 = 1 := by kernel_rfl
theorem keyType2 : Tryz.prog.keyType 117 = true := by kernel_rfl
theorem zeroBool2 (w : World) : (zeroValue 4).run Tryz.prog w = .ok (.bool false) w := by kernel_rfl
theorem wf_small2 {n : Int} (h0 : -1 ≤ n) (h1 : n < 1000000) : (Lit.int .i64 n).wf = true := by
 have h2 : IntKind.i64.min = -9223372036854775808 := by decide
 have h3 : IntKind.i64.max = 9223372036854775807 := by decide
 show (decide (IntKind.i64.min ≤ n) && decide (n ≤ IntKind.i64.max)) = true
 rw [h2, h3, decide_eq_true (by omega), decide_eq_true (by omega)]
 rfl
set_option maxRecDepth 100000 in
theorem keyOf2 {q : Int × Int} (h : (-1 ≤ q.1 ∧ q.1 < 1000000) ∧ -1 ≤ q.2 ∧ q.2 < 1000000) : ∃ l, keyOf Tryz.prog 117 (key2 q) = some l := by
 obtain ⟨⟨a0, a1⟩, b0, b1⟩ := h
 have wa := wf_small2 a0 a1
 have wb := wf_small2 b0 b1
 obtain ⟨m, hm⟩ : ∃ m, Tryz.prog.types.size = m + 1 := ⟨_, Nat.succ_pred_eq_of_pos (Nat.lt_of_le_of_lt (Nat.zero_le _) row2Ok) |>.symm⟩
 refine ⟨.string (keyBytes [.int .i64 q.1, .int .i64 q.2]), ?_⟩
 unfold keyOf key2
 simp only [Tryz.underlying117]
 rw [if_pos (by simp [keyType2, Value.formed, Tryz.underlying117, cells2Ok]), hm]
 unfold Program.keyLits
 simp only [Tryz.underlying117, Value.cells]
 rw [if_pos (by rw [cells2Ok]; rfl), show List.range 2 = [0, 1] from rfl, List.mapM_cons, List.mapM_cons, List.mapM_nil]
 simp [cellsI2, Program.keyLits, Tryz.underlying2, wa, wb]

end Go.Proofs.YtaabkeejbhdenaaGreatDoor

namespace Go.Proofs.YtaabkeejbhdenaaGreatDoor
open Go Go.RowKit

theorem info_strG : (Tryz.prog.info? 9).map (fun i => (i.zero, i.size, i.bytes)) = some (some (.string ⟨#[]⟩), 1, 16) := by kernel_rfl

theorem GrowS_none (n : Nat) (w : World) (h0 : 0 < n) (h1 : n ≤ 2000) :
  Calls Tryz.prog 132 #[.slice none 0 0, .int .i64 n] w fun e w' => ∃ v, e = .returned v ∧ Below w.heap.size w w' ∧ w'.ownsRow w.heap.size 9 1 v 0 [] := by
 obtain ⟨i0, hi, hz0, hz1, hz2⟩ := info_parts info_strG
 refine (Tryz.slices_Grow_string i0 (.string ⟨#[]⟩) hi hz0 (by omega) none 0 0 n [] w (Nat.le_refl _) (by omega) (by rw [hz2]; omega) (by omega) (by simp) (fun _ => rfl) (fun a h => by cases h)).mono ?_
 rintro e w' ⟨rfl, rfl⟩
 refine ⟨_, rfl, ?_, rfl, .inr ⟨w.heap.size, _, _, rfl, Nat.le_refl _, heap_alloc_new w.drew _, Nat.zero_le _, grownCap_le_maxLen w (0 + n) 0 _ (by simp [maxLen]; omega), ?_, by simp⟩⟩
 ·exact (Below.refl _ w).drew.alloc (Nat.le_refl _) _
 ·have hge := grownCap_ge w (0 + n) 0 9
  simp only [Array.size_append, List.size_toArray, List.length_nil, size_zeroCells, show (Value.string ⟨#[]⟩).cells.size = 1 from rfl]
  omega

theorem src_cells {lo : Nat} {w : World} {a : Option Addr} {xs : List ByteArray} (h : RowK 1 encS lo w a xs) (hp : 0 < xs.length) : ∃ b o, a = some ⟨b, o, none⟩ ∧ b < w.heap.size ∧ ∀ j u, (txts xs)[j]? = some u → w.cell? ((⟨b, o, none⟩ : Addr).add j) = some u := by
 rcases h with h | ⟨b, o, rfl, -, hb, hc⟩
 ·omega
 ·refine ⟨b, o, rfl, hb, fun j u hj => ?_⟩
  unfold txts at hj
  rw [List.getElem?_map] at hj
  obtain ⟨x, hx, rfl⟩ := Option.map_eq_some_iff.1 hj
  obtain ⟨hlt, rfl⟩ := List.getElem?_eq_some_iff.1 hx
  have := hc j hlt 0 (by omega)
  rw [Addr.add_lit]
  simpa [encS] using this
theorem src_below {b o : Nat} {w w' : World} {us : List Value} (hb : b < w.heap.size) (h : ∀ j u, us[j]? = some u → w.cell? ((⟨b, o, none⟩ : Addr).add j) = some u) (hw : Below w.heap.size w w') : ∀ j u, us[j]? = some u → w'.cell? ((⟨b, o, none⟩ : Addr).add j) = some u := fun j u hj => by
 have := h j u hj
 rw [Addr.add_lit] at this ⊢
 exact keeps hw hb this

def upTo2 (xs ys : List ByteArray) (k : Nat) : List ByteArray := if k = 0 then [] else if k = 1 then xs else xs ++ ys

set_option maxRecDepth 100000 in
set_option maxHeartbeats 4000000 in
theorem ConcatS_two (lo : Nat) (lx ly : Value) (xs ys : List ByteArray) (w : World) (hx : SliceK 1 encS lo w lx xs) (hy : SliceK 1 encS lo w ly ys) (hxp : 0 < xs.length) (hyp : 0 < ys.length) (hn : xs.length + ys.length ≤ 1000)
  (b : Nat) (hb : Blk w b [lx, ly] 22) :
  Calls Tryz.prog 82 #[.slice (some ⟨b, 0, none⟩) 2 2] w fun e w' => ∃ v', e = .returned v' ∧ Below w.heap.size w w' ∧ OwnStrs w.heap.size w' v' (xs ++ ys) := by
 obtain ⟨ax, cx, rfl, hxc, hxm, hxr⟩ := hx
 obtain ⟨ay, cy, rfl, hyc, hym, hyr⟩ := hy
 obtain ⟨bx, ox, rfl, hbx, hcx⟩ := src_cells hxr hxp
 obtain ⟨by_, oy, rfl, hby, hcy⟩ := src_cells hyr hyp
 obtain ⟨n1, hn1⟩ : ∃ n1, n1 = xs.length := ⟨_, rfl⟩
 obtain ⟨n2, hn2⟩ : ∃ n2, n2 = ys.length := ⟨_, rfl⟩
 rw [← hn1] at hxp hn hxc hb
 rw [← hn2] at hyp hn hyc hb
 have HG := Lib.hid (fun w' => GrowS_none (n1 + n2) w' (by omega) (by omega))
 have HCX := Lib.hid hcx
 have HCY := Lib.hid hcy
 have HB := Lib.hid hb
 have HN1 := Lib.hid hn1
 have HN2 := Lib.hid hn2
 have c0 := hb.cell 0 rfl
 have c1 := hb.cell 1 rfl
 have hbl := hb.lt
 obtain ⟨i0, hi, hz0, hz1, hz2⟩ := info_parts info_strG
 clear hcx hcy hb hn1 hn2 hxr hyr
 go_enter Tryz.func82, Tryz.ntmps82
 go_wp2_with fail
 go_loopw [3, 11] (fun v3 v11 wr => wr = w ∧ ((v11 = .int .i64 0 ∧ v3 = .int .i64 0) ∨ (v11 = .int .i64 1 ∧ v3 = .int .i64 n1) ∨ (v11 = .int .i64 2 ∧ v3 = .int .i64 ((n1 + n2 : Nat) : Int)))) (fun _ v11 _ => 2 - (intOf v11).toNat)
 case atStart => exact ⟨rfl, .inl ⟨rfl, rfl⟩⟩
 case round =>
  obtain ⟨hww, ⟨rfl, rfl⟩ | ⟨rfl, rfl⟩ | ⟨rfl, rfl⟩⟩ := hrel
  all_goals (have hww2 := hww.symm; subst hww2; clear hww)
  ·go_wp2_with fail
   go_roundw
   case rel => exact ⟨by first | rfl | trivial, .inr (.inl ⟨by go_num, by go_num⟩)⟩
   case measure => simp [intOf]
  ·go_wp2_with fail
   go_roundw
   case rel => exact ⟨by first | rfl | trivial, .inr (.inr ⟨by go_num, by go_num⟩)⟩
   case measure => simp [intOf]
  ·clear c0 c1
   go_wp2_with fail
   refine Calls.mono (HG.out _) ?_
   rintro e w1 ⟨v, rfl, hb1, ho1⟩
   have HB1 := Lib.hid hb1
   have HO1 := Lib.hid ho1
   have hs1 := hb1.size
   clear hb1 ho1
   go_wp2_with fail
   go_loopw [6, 27] (fun v6 v27 wr => ∃ k : Nat, v27 = .int .i64 k ∧ k ≤ 2 ∧ Below w.heap.size w wr ∧ wr.ownsRow w.heap.size 9 1 v6 (upTo2 xs ys k).length (txts (upTo2 xs ys k))) (fun _ v27 _ => 2 - (intOf v27).toNat)
   case atStart => exact ⟨0, rfl, by omega, HB1.out, HO1.out⟩
   case round =>
    obtain ⟨k, rfl, hk, hbr, hor⟩ := hrel
    have HBR := Lib.hid hbr
    have HOR := Lib.hid hor
    have hsr := hbr.size
    rcases (show k = 0 ∨ k = 1 ∨ k = 2 by omega) with rfl | rfl | rfl
    ·have c0 := (HB.out.below hbr).cell 0 rfl
     have hsrc := Lib.hid (src_below hbx HCX.out hbr)
     clear hbr hor
     go_wp2_with (at_builtin; refine wpList_append_own_at _ rfl _ _ 22 rfl w.heap.size 9 i0 (.string ⟨#[]⟩) 1 16 Tryz.underlying22 hi hz0 hz1 hz2 rfl (by decide) _ _ _ rfl HOR.out ⟨bx, ox, none⟩ n1 cx (txts xs) rfl ?c1 hsrc.out ?c2 ?c3 ?c4 ?c5 ?_)
     case c1 => rw [txts_len, HN1.out]; omega
     case c2 => intro u hu; simp only [txts, List.mem_map] at hu; obtain ⟨x, -, rfl⟩ := hu; rfl
     case c3 => simp [upTo2, maxLen]; omega
     case c4 => simp [upTo2]; omega
     case c5 => omega
     intro v' w' ho' hg' _ _
     have HB' : Hid (Below w.heap.size w w') := HBR.out.grown hg' hsr (fun b e => (HOR.out.lt b e).1)
     have HO' : Hid (w'.ownsRow w.heap.size 9 1 v' (upTo2 xs ys 1).length (txts (upTo2 xs ys 1))) := by
      have h := ho'
      simp only [upTo2, if_true, List.length_nil, Nat.zero_add, txts, List.map_nil, List.nil_append] at h ⊢
      rw [HN1.out] at h
      exact h
     clear ho' hg'
     go_wp2
     go_roundw
     case rel => exact ⟨1, by go_num, by omega, HB'.out, HO'.out⟩
     case measure => simp [intOf]
    ·have c1 := (HB.out.below hbr).cell 1 rfl
     have hsrc := Lib.hid (src_below hby HCY.out hbr)
     clear hbr hor
     go_wp2_with (at_builtin; refine wpList_append_own_at _ rfl _ _ 22 rfl w.heap.size 9 i0 (.string ⟨#[]⟩) 1 16 Tryz.underlying22 hi hz0 hz1 hz2 rfl (by decide) _ _ _ rfl HOR.out ⟨by_, oy, none⟩ n2 cy (txts ys) rfl ?c1 hsrc.out ?c2 ?c3 ?c4 ?c5 ?_)
     case c1 => rw [txts_len, HN2.out]; omega
     case c2 => intro u hu; simp only [txts, List.mem_map] at hu; obtain ⟨x, -, rfl⟩ := hu; rfl
     case c3 => simp [upTo2, maxLen]; have := HN1.out; omega
     case c4 => simp [upTo2]; have := HN1.out; omega
     case c5 => omega
     intro v' w' ho' hg' _ _
     have HB' : Hid (Below w.heap.size w w') := HBR.out.grown hg' hsr (fun b e => (HOR.out.lt b e).1)
     have HO' : Hid (w'.ownsRow w.heap.size 9 1 v' (upTo2 xs ys 2).length (txts (upTo2 xs ys 2))) := by
      have h := ho'
      simp only [upTo2, if_true, if_neg (show ¬ (1 : Nat) = 0 by omega), if_neg (show ¬ (2 : Nat) = 0 by omega), if_neg (show ¬ (2 : Nat) = 1 by omega)] at h ⊢
      rw [HN2.out] at h
      unfold Hid
      rw [List.length_append]
      simpa [txts] using h
     clear ho' hg'
     go_wp2
     go_roundw
     case rel => exact ⟨2, by go_num, by omega, HB'.out, HO'.out⟩
     case measure => simp [intOf]
    ·clear hbr hor
     go_wp2
     go_ret
     exact ⟨_, rfl, HBR.out, HOR.out⟩

end Go.Proofs.YtaabkeejbhdenaaGreatDoor

namespace Go.Proofs.YtaabkeejbhdenaaGreatDoor
open Go Go.RowKit

theorem Sort_one (a : Option Addr) (n cap : Nat) (w : World) (hn : n ≤ 1) :
  Calls Tryz.prog 102 #[.slice a n cap] w fun e w' => e = .returned (.tuple #[]) ∧ w = w' := by
 have h0 : (0 : Int) ≤ (n : Int) := by omega
 have h1 : (n : Int) ≤ 18446744073709551615 := by omega
 go_enter Tryz.func102, Tryz.ntmps102
 go_wp2_with fail
 refine (Tryz.bits_Len _ _ h0 h1).mono ?_
 rintro e w' ⟨rfl, rfl⟩
 go_wp2_with fail
 refine (pdq_one _ _ _ _ hn).mono ?_
 rintro e w' ⟨rfl, rfl⟩
 go_wp2_with fail
 go_end0
 exact ⟨rfl, rfl⟩

theorem info_int64x : (Tryz.prog.info? 2).map (fun i => (i.zero, i.size, i.bytes)) = some (some (.int .i64 0), 1, 8) := by kernel_rfl

theorem hit_take {p : Lts} {q : Int} {l : ByteArray} {k : Nat} (h : k < p.edges.length) (g : hitB p q l p.edges[k] = true) :
  ((p.edges.take (k + 1)).filter (hitB p q l)).map Edge.dst = ((p.edges.take k).filter (hitB p q l)).map Edge.dst ++ [p.edges[k].dst] := by
 rw [List.take_succ_eq_append_getElem h, List.filter_append, List.map_append]
 simp [g]
theorem miss_take {p : Lts} {q : Int} {l : ByteArray} {k : Nat} (h : k < p.edges.length) (g : hitB p q l p.edges[k] = false) :
  ((p.edges.take (k + 1)).filter (hitB p q l)).map Edge.dst = ((p.edges.take k).filter (hitB p q l)).map Edge.dst := by
 rw [List.take_succ_eq_append_getElem h, List.filter_append, List.map_append]
 simp [g]

set_option maxRecDepth 100000 in
set_option maxHeartbeats 2000000 in
theorem follow_one (lo lo2 : Nat) (p : Lts) (lv ev sv : Value) (q : Int) (l : ByteArray) (w : World) (hvp : Valid p) (hsp : Single p) (hl : SliceK 1 encS lo w lv p.labels) (he : SliceK 3 encE lo w ev p.edges) (hs : SliceK 1 encI lo2 w sv [q]) :
  Calls Tryz.prog 100 #[.agg #[.int .i64 p.states, .int .i64 p.initial, lv, ev], sv, .string l] w (MadeNums (behind p q l) w) := by
 have HS := Lib.hid hs
 have hone := behind_one hvp hsp q l
 have HE := Lib.hid hvp.edge
 have hmost := hvp.most
 clear hs hvp hsp
 obtain ⟨al, cl, rfl, hln, hlc, hlr⟩ := hl
 obtain ⟨ae, ce, rfl, hen, hec, hrow⟩ := he
 have HLR := Lib.hid hlr
 have HER := Lib.hid hrow
 clear hlr hrow
 obtain ⟨i0, hi, hz0, hz1, hz2⟩ := info_parts info_int64x
 have HB0 : Hid (Below w.heap.size w (w.alloc (.cells #[.int .i64 p.states, .int .i64 p.initial, .slice al p.labels.length cl, .slice ae p.edges.length ce] 29))) := (Below.refl _ _).alloc (Nat.le_refl _) _
 have HQ2 : Hid ((w.alloc (.cells #[.int .i64 p.states, .int .i64 p.initial, .slice al p.labels.length cl, .slice ae p.edges.length ce] 29)).cell? ⟨w.heap.size, 2, none⟩ = some (.slice al p.labels.length cl)) := by unfold Hid; simp
 obtain ⟨wB, hwB⟩ : ∃ wB, wB = w.alloc (.cells #[.int .i64 p.states, .int .i64 p.initial, .slice al p.labels.length cl, .slice ae p.edges.length ce] 29) := ⟨_, rfl⟩
 have hwz : wB.heap.size = w.heap.size + 1 := by rw [hwB]; simp
 rw [← hwB] at HB0 HQ2
 have HWB := Lib.hid hwB
 clear hwB
 go_enter Tryz.func100, Tryz.ntmps100
 go_wp2_with fail
 rw [← HWB.out]
 clear HWB
 go_loopw [7, 13] (fun v i wr => ∃ k : Nat, k ≤ p.edges.length ∧ i = .int .i64 k ∧ Below wB.heap.size wB wr ∧ wr.ownsRow wB.heap.size 2 1 v (((p.edges.take k).filter (hitB p q l)).map Edge.dst).length ((((p.edges.take k).filter (hitB p q l)).map Edge.dst).map (Value.int .i64))) (fun _ i _ => p.edges.length - (intOf i).toNat)
 case atStart => exact ⟨0, Nat.zero_le _, rfl, Below.refl _ _, World.ownsRow_nil _ _ _ _⟩
 case round =>
  obtain ⟨k, hk, rfl, hbl, ho⟩ := hrel
  have HBL := Lib.hid hbl
  have HO := Lib.hid ho
  have hsz := hbl.size
  have q2 := keeps hbl (by omega) HQ2.out
  have hwr : w.heap.size < wr.heap.size := by omega
  have hfl : (((p.edges.take k).filter (hitB p q l)).map Edge.dst).length ≤ k := by rw [List.length_map]; exact Nat.le_trans (List.length_filter_le _ _) (List.length_take_le _ _)
  clear hbl ho
  by_cases hlt : k < p.edges.length
  ·have hbr := HB0.out.trans (HBL.out.mono HB0.out.size)
   obtain ⟨be, oe, rfl, -, hbe, e1, e2, e3⟩ := (HER.out.below hbr).edge hlt
   have hek := HE.out k hlt
   obtain ⟨hll, hla⟩ := labAt_idx hek
   obtain ⟨bl, ol, rfl, -, hbl2, c1⟩ := (HLR.out.below hbr).one hll
   simp only [encS, List.getElem?_cons_zero] at c1
   rw [← hla] at c1
   have hl0 : ((p.edges[k].lab.toNat : Nat) : Int) = p.edges[k].lab := by have := hek.l0; omega
   have hl1 := hek.l1
   have hl2 := hek.l0
   obtain ⟨e, hee⟩ : ∃ e, e = p.edges[k] := ⟨_, rfl⟩
   obtain ⟨m, hm⟩ : ∃ m, m = p.edges[k].lab.toNat := ⟨_, rfl⟩
   rw [← hm] at c1 hl0 hll
   rw [← hee] at e1 e2 e3 c1 hl0 hl1 hl2
   have HEE := Lib.hid hee
   rw [← hl0] at e2
   have HBA : Hid (Below wB.heap.size wB (wr.alloc (.cells #[.int .i64 e.src, .int .i64 m, .int .i64 e.dst] 73))) := HBL.out.alloc hsz _
   have HSA : Hid (SliceK 1 encI lo2 (wr.alloc (.cells #[.int .i64 e.src, .int .i64 m, .int .i64 e.dst] 73)) sv [q]) := HS.out.below (hbr.alloc hbr.size _)
   have HOA : Hid ((wr.alloc (.cells #[.int .i64 e.src, .int .i64 m, .int .i64 e.dst] 73)).ownsRow wB.heap.size 2 1 u7 (((p.edges.take k).filter (hitB p q l)).map Edge.dst).length ((((p.edges.take k).filter (hitB p q l)).map Edge.dst).map (Value.int .i64))) := HO.out.alloc _
   have hml : (m : Int) < (p.labels.length : Int) := by omega
   clear hl0 hl1 hl2 hek hbr hla
   cases g1 : ((labAt p e).toList == l.toList)
   ·have HG : Hid (hitB p q l p.edges[k] = false) := by unfold Hid hitB; rw [← hee, g1, Bool.and_false]
    clear hee hm
    go_wp2_with fail
    go_roundw
    case rel => exact ⟨k + 1, by omega, by go_num, HBA.out, by rw [miss_take hlt HG.out]; exact HOA.out⟩
    case measure => simp [intOf]; omega
   ·cases g2 : (q == e.src)
    ·have HG : Hid (hitB p q l p.edges[k] = false) := by
      unfold Hid hitB
      rw [← hee]
      have : (e.src == q) = false := by rw [beq_eq_false_iff_ne] at g2 ⊢; exact fun h => g2 h.symm
      rw [this, Bool.false_and]
     have HG2 : Hid (([q].any fun y => y == e.src) = false) := by unfold Hid; simp [g2]
     clear hee hm g2
     go_wp2_with fail
     refine (Contains_ints lo2 _ _ [q] _ HSA.out).mono ?_
     rintro e' w' ⟨rfl, rfl⟩
     rw [HG2.out]
     go_wp2_with fail
     go_roundw
     case rel => exact ⟨k + 1, by omega, by go_num, HBA.out, by rw [miss_take hlt HG.out]; exact HOA.out⟩
     case measure => simp [intOf]; omega
    ·have HG : Hid (hitB p q l p.edges[k] = true) := by
      unfold Hid hitB
      rw [← hee]
      have : (e.src == q) = true := by rw [beq_iff_eq] at g2 ⊢; exact g2.symm
      rw [this, g1]; rfl
     have HG2 : Hid (([q].any fun y => y == e.src) = true) := by unfold Hid; simp [g2]
     have HD : Hid (p.edges[k].dst = e.dst) := by unfold Hid; rw [← hee]
     clear hee hm g2
     have hfz := hfl
     generalize hfs : ((p.edges.take k).filter (hitB p q l)).map Edge.dst = fs at *
     have HFS := Lib.hid hfs
     clear hfs
     go_wp2_with fail
     refine (Contains_ints lo2 _ _ [q] _ HSA.out).mono ?_
     rintro e' w' ⟨rfl, rfl⟩
     rw [HG2.out]
     go_wp2_with (at_builtin; refine wpList_append_own _ rfl _ _ 66 rfl wB.heap.size 2 i0 (.int .i64 0) 1 8 Tryz.underlying66 hi hz0 hz1 hz2 rfl (by decide) _ _ _ rfl (HOA.out.alloc _) ⟨wr.heap.size + 1, 0, none⟩ 1 1 [.int .i64 e.dst] rfl rfl ?c1 ?c2 ?c3 ?c4 ?c5 ?_)
     case c1 => have := cell_one_new (wr.alloc (.cells #[.int .i64 e.src, .int .i64 m, .int .i64 e.dst] 73)) (.int .i64 e.dst) 2; simpa using this
     case c2 => intro u hu; simp at hu; subst hu; rfl
     case c3 => simp [maxLen]; omega
     case c4 => omega
     case c5 => simp; omega
     intro v' w3 ho1 hg1 _
     have HO2 : Hid (w3.ownsRow wB.heap.size 2 1 v' (fs ++ [e.dst]).length ((fs ++ [e.dst]).map (Value.int .i64))) := by
      unfold Hid
      rw [List.length_append, List.map_append, hwz]
      exact ho1
     have HB2 : Hid (Below wB.heap.size wB w3) := (HBA.out.alloc (by simp; omega) _).grown hg1 (by simp; omega) (fun b e => (HO.out.lt b e).1)
     clear ho1 hg1
     go_wp2_with fail
     go_roundw
     case rel => exact ⟨k + 1, by omega, by go_num, HB2.out, by rw [hit_take hlt HG.out, HFS.out, HD.out]; exact HO2.out⟩
     case measure => simp [intOf]; omega
  ·obtain rfl : k = p.edges.length := by omega
   have HO2 : Hid (wr.ownsRow wB.heap.size 2 1 u7 (behind p q l).length ((behind p q l).map (Value.int .i64))) := by
    have := HO.out
    rw [List.take_length] at this
    exact this
   obtain ⟨a7, c7, rfl, -, -⟩ := owns_slice HO2.out
   clear HO HER HLR q2
   go_wp2_with fail
   refine (Sort_one _ _ _ _ hone).mono ?_
   rintro e' w' ⟨rfl, rfl⟩
   go_wp2_with fail
   refine (Compact_one _ _ _ _ hone).mono ?_
   rintro e' w' ⟨rfl, rfl⟩
   go_wp2_with fail
   go_ret
   exact ⟨_, rfl, HB0.out.trans (HBL.out.mono HB0.out.size), own_lower HO2.out HB0.out.size⟩

end Go.Proofs.YtaabkeejbhdenaaGreatDoor

namespace Go.Proofs.YtaabkeejbhdenaaGreatDoor
open Go Go.RowKit

set_option maxRecDepth 100000 in
set_option maxHeartbeats 1000000 in
theorem step_any (lo : Nat) (p : Lts) (lv ev : Value) (q : Int) (l : ByteArray) (w : World) (hvp : Valid p) (hsp : Single p) (hl : SliceK 1 encS lo w lv p.labels) (he : SliceK 3 encE lo w ev p.edges) :
  Calls Tryz.prog 83 #[.agg #[.int .i64 p.states, .int .i64 p.initial, lv, ev], .int .i64 q, .string l] w fun e w' => e = .returned (.int .i64 (goTo p q l)) ∧ Below w.heap.size w w' := by
 have HB0 := Lib.hid (box_below w #[.int .i64 p.states, .int .i64 p.initial, lv, ev] 29)
 by_cases hq : q < 0
 ·have HF : Hid (goTo p q l = -1) := by unfold Hid goTo; rw [if_pos hq]
  clear hvp hsp hl he
  go_enter Tryz.func83, Tryz.ntmps83
  go_wp2_with fail
  go_ret
  exact ⟨ret_int HF.out.symm, HB0.out⟩
 ·have hq' : ¬ q < 0 := hq
  have HF := Lib.hid (goTo_behind (p := p) (q := q) (by omega) l)
  have HB1 : Hid (Below w.heap.size w ((w.alloc (.cells #[.int .i64 p.states, .int .i64 p.initial, lv, ev] 29)).alloc (.cells #[.int .i64 q] 2))) := HB0.out.alloc HB0.out.size _
  have HS : Hid (SliceK 1 encI 0 ((w.alloc (.cells #[.int .i64 p.states, .int .i64 p.initial, lv, ev] 29)).alloc (.cells #[.int .i64 q] 2)) (.slice (some ⟨w.heap.size + 1, 0, none⟩) 1 1) [q]) := by
   have := World.ownsRow_lit (base := 0) (e := 2) (size := 1) (w.alloc (.cells #[.int .i64 p.states, .int .i64 p.initial, lv, ev] 29)) #[.int .i64 q] 1 (Nat.zero_le _) (by decide) (by simp)
   have e9 : (w.alloc (.cells #[.int .i64 p.states, .int .i64 p.initial, lv, ev] 29)).heap.size = w.heap.size + 1 := by simp
   rw [e9] at this
   exact SliceK.of_owns (e := 2) encI_len rfl (by rw [flat_encI]; simpa using this)
  have HC := Lib.hid (follow_one lo 0 p lv ev (.slice (some ⟨w.heap.size + 1, 0, none⟩) 1 1) q l _ hvp hsp (hl.below HB1.out) (he.below HB1.out) HS.out)
  clear hvp hsp hl he hq
  go_enter Tryz.func83, Tryz.ntmps83
  go_wp2_with fail
  refine Calls.mono HC.out ?_
  rintro e w1 ⟨v, rfl, hb1, ho1⟩
  have HB2 := Lib.hid (HB1.out.trans (hb1.mono HB1.out.size))
  clear hb1
  obtain ⟨av, cv, rfl, hc1, hc2⟩ := owns_slice ho1
  cases hbh : behind p q l with
  | nil =>
   have HG : Hid (goTo p q l = -1) := by unfold Hid; rw [HF.out, hbh]; rfl
   clear ho1 hc1
   simp only [List.length_nil]
   go_wp2_with fail
   go_ret
   exact ⟨ret_int HG.out.symm, HB2.out⟩
  | cons x r =>
   have HG : Hid (goTo p q l = x) := by unfold Hid; rw [HF.out, hbh]; rfl
   rw [hbh] at ho1
   have hsl : SliceK 1 encI 0 w1 (.slice av (x :: r).length cv) (x :: r) := SliceK.of_owns (e := 2) encI_len rfl (by rw [flat_encI]; exact own_lower ho1 (Nat.zero_le _))
   obtain ⟨a2, c2, e2, h2, h3, hrow⟩ := hsl
   simp only [Value.slice.injEq, true_and] at e2
   obtain ⟨rfl, rfl⟩ := e2
   obtain ⟨b1, o1, rfl, -, hbs, k1⟩ := hrow.one (i := 0) (by simp)
   simp only [encI, List.getElem?_cons_zero, List.getElem_cons_zero, Nat.add_zero] at k1
   have hlen : (0 : Int) < ((x :: r).length : Int) := by simp
   obtain ⟨n, hn⟩ : ∃ n, n = (x :: r).length := ⟨_, rfl⟩
   rw [← hn] at hlen
   simp only [← hn]
   clear ho1 hrow hc1 h2 hn hbh
   go_wp2_with fail
   go_ret
   exact ⟨ret_int HG.out.symm, HB2.out⟩

end Go.Proofs.YtaabkeejbhdenaaGreatDoor
