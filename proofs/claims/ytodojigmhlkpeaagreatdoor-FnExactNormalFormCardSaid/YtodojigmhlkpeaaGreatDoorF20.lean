/-
  The implementation's readyLabels, isStable, stable, lacking, refuse.
  The implementation's lacking.
  The implementation's isStable, stable.
  The library's slices.IndexFunc and slices.ContainsFunc at a slice of slices of texts, with a function that may lay blocks of its own.
  The program's acceptances: the least offers of the stable states of a set.
  The implementation's DeterminizeLts.
-/
import Derived.Test.YtodojigmhlkpeaaGreatDoorF16
import Derived.Test.YtodojigmhlkpeaaGreatDoorF19
import Derived.Test.YtodojigmhlkpeaaGreatDoorF5
import Derived.Deep.RegionHeld3
import Derived.Test.YtodojigmhlkpeaaGreatDoorProg
import Derived.Test.YtodojigmhlkpeaaGreatDoorF1
import Derived.Test.YtodojigmhlkpeaaGreatDoorF17
import Derived.Test.YtodojigmhlkpeaaGreatDoorF15
namespace Go.Proofs.YtodojigmhlkpeaaGreatDoor
open Go Go.RowKit

theorem info_strI : (Tryz.prog.info? 9).map (fun i => (i.zero, i.size, i.bytes)) = some (some (.string ⟨#[]⟩), 1, 16) := by kernel_rfl
def MadeTxI (xs : List ByteArray) (w : World) (e : Ending) (w' : World) : Prop := ∃ v, e = .returned v ∧ Below w.heap.size w w' ∧ OwnStrs w.heap.size w' v xs

set_option maxRecDepth 100000 in
set_option maxHeartbeats 4000000 in
theorem readyLabels_any (lo : Nat) (t : Lts) (lv ev : Value) (s : Int) (w : World) (hv : Valid t) (hl : SliceK 1 encS lo w lv t.labels) (he : SliceK 3 encE lo w ev t.edges) :
  Calls Tryz.prog 45 #[.agg #[.int .i64 t.states, .int .i64 t.initial, lv, ev], .int .i64 s] w (MadeTxI (rdy t s) w) := by
 obtain ⟨tb, htb⟩ : ∃ tb, tb = w.heap.size := ⟨_, rfl⟩
 obtain ⟨wA, hwA⟩ : ∃ wA, wA = w.alloc (.cells #[.int .i64 t.states, .int .i64 t.initial, lv, ev] 29) := ⟨_, rfl⟩
 have hbA : Below w.heap.size w wA := by rw [hwA]; exact (Below.refl _ _).alloc (Nat.le_refl _) _
 have hT : Blk wA tb [.int .i64 t.states, .int .i64 t.initial, lv, ev] 29 := by rw [hwA, htb]; exact Blk.new w _ _
 have HO := Lib.hid (out_any lo t lv ev s wA (by have := hv.most; omega) (he.below hbA))
 have HV := Lib.hid hv
 have HT := Lib.hid hT
 obtain ⟨al, cl, rfl, hlc, -, hlrow⟩ := hl.below hbA
 have hL1 := hv.labels.pos
 obtain ⟨bl, ol, rfl, hblw, hcl⟩ : ∃ bl ol, al = some ⟨bl, ol, none⟩ ∧ bl < wA.heap.size ∧ ∀ i (h : i < t.labels.length), wA.cell? ⟨bl, ol + i, none⟩ = some (.string t.labels[i]) := by
  rcases hlrow with h | ⟨bl, ol, h1, -, h3, h4⟩
  ·omega
  ·exact ⟨bl, ol, h1, h3, fun i hi => by have := h4 i hi 0 (by omega); simpa [encS] using this⟩
 obtain ⟨LN, hLN⟩ : ∃ LN, LN = t.labels.length := ⟨_, rfl⟩
 rw [← hLN] at HT HO hwA hlc hL1 ⊢
 have HLN := Lib.hid hLN
 have HCL := Lib.hid hcl
 have HBA := Lib.hid hbA
 have HWA := Lib.hid hwA
 have HTB := Lib.hid htb
 have htl : tb < wA.heap.size := hT.lt
 obtain ⟨i3, hi3, hz30, hz31, hz32⟩ := info_parts info_strI
 clear hv hl he hwA hbA hT htb hLN hcl hlrow
 go_enter Tryz.func45, Tryz.ntmps45
 go_wp2_with fail
 rw [← HWA.out]
 try rw [← HTB.out]
 refine Calls.mono HO.out ?_
 rintro e w1 ⟨v1, rfl, hb1, ho1⟩
 obtain ⟨oa, oc, rfl, -, -⟩ := owns_slice ho1
 have hom : (outOf t s).length ≤ 300 := Nat.le_trans (List.length_filter_le _ _) HV.out.most
 have hsE : SliceK 3 encE wA.heap.size w1 (.slice oa (outOf t s).length oc) (outOf t s) := SliceK.of_owns (enc := encE) (e := 62) encE_len rfl ho1
 obtain ⟨a9, c9, h9, -, -, hrowE⟩ := hsE
 simp only [Value.slice.injEq] at h9
 obtain ⟨rfl, -, rfl⟩ := h9
 obtain ⟨os, hos⟩ : ∃ os, os = outOf t s := ⟨_, rfl⟩
 have HOK : Hid (∀ e ∈ os, EdgeOk t e) := by unfold Hid; rw [hos]; exact outOf_ok HV.out s
 rw [← hos] at hrowE hom ⊢
 obtain ⟨ON, hON⟩ : ∃ ON, ON = os.length := ⟨_, rfl⟩
 rw [← hON] at hom ⊢
 have HROW := Lib.hid hrowE
 have HON := Lib.hid hON
 have HOS := Lib.hid hos
 have HB1 := Lib.hid hb1
 have hs1 := hb1.size
 clear hb1 ho1 hrowE hON hos HO
 go_wp2
 go_loopw [5, 12] (fun v5 v12 wr => ∃ k : Nat, k ≤ ON ∧ v12 = .int .i64 k ∧ Below w1.heap.size w1 wr ∧ wr.ownsRow w1.heap.size 9 1 v5 k (((os.take k).map (labAt t)).map Value.string)) (fun _ v12 _ => ON - (intOf v12).toNat)
 case atStart => exact ⟨0, Nat.zero_le _, rfl, Below.refl _ _, ⟨rfl, .inl ⟨rfl, rfl⟩⟩⟩
 case round =>
  obtain ⟨k, hk, rfl, hbl, ho⟩ := hrel
  have HBL := Lib.hid hbl
  have HOW := Lib.hid ho
  have hsz := hbl.size
  obtain ⟨va, vc, hv5, -, -⟩ := owns_slice ho
  subst hv5
  by_cases hlt : k < ON
  ·have hlt2 : k < os.length := by rw [← HON.out]; exact hlt
   obtain ⟨be, oe, rfl, -, hbe, e1, e2, e3⟩ := (HROW.out.below hbl).edge hlt2
   have hok := HOK.out _ (List.getElem_mem hlt2)
   have HNX : Hid (((os.take (k + 1)).map (labAt t)).map Value.string = ((os.take k).map (labAt t)).map Value.string ++ [.string (labAt t os[k])]) := by
    unfold Hid
    rw [List.take_succ_eq_append_getElem hlt2, List.map_append, List.map_append]
    rfl
   obtain ⟨l, hl⟩ : ∃ l, l = labAt t os[k] := ⟨_, rfl⟩
   rw [← hl] at HNX
   obtain ⟨ts, hts⟩ : ∃ ts, ts = ((os.take k).map (labAt t)).map Value.string := ⟨_, rfl⟩
   rw [← hts] at HNX ho
   obtain ⟨x, hx⟩ : ∃ x, x = os[k] := ⟨_, rfl⟩
   rw [← hx] at e1 e2 e3 hl hok
   obtain ⟨m, hm⟩ : ∃ m : Nat, (m : Int) = x.lab := ⟨x.lab.toNat, by have := hok.l0; omega⟩
   have hmt : x.lab.toNat = m := by omega
   have hmL2 : m < t.labels.length := by have := hok.l1; omega
   have hmL : m < LN := by have := HLN.out; omega
   have hlm : l = t.labels[m] := by
    rw [hl]
    unfold labAt
    rw [hmt, List.getD_eq_getElem?_getD, List.getElem?_eq_getElem hmL2]
    rfl
   have hcm : wA.cell? ⟨bl, ol + m, none⟩ = some (.string l) := by rw [hlm]; exact HCL.out m hmL2
   rw [← hm] at e2
   obtain ⟨xs, hxs⟩ : ∃ xs, xs = x.src := ⟨_, rfl⟩
   obtain ⟨xd, hxd⟩ : ∃ xd, xd = x.dst := ⟨_, rfl⟩
   rw [← hxs] at e1
   rw [← hxd] at e3
   have hbAr : Below wA.heap.size wA wr := HB1.out.trans (hbl.mono hs1)
   obtain ⟨wD, hwD⟩ : ∃ wD, wD = wr.alloc (.cells #[.int .i64 xs, .int .i64 m, .int .i64 xd] 62) := ⟨_, rfl⟩
   have hbD : Below wA.heap.size wA wD := by rw [hwD]; exact hbAr.alloc (by have := hbAr.size; omega) _
   have t2 := keeps hbD htl (HT.out.cell 2 rfl)
   have cm := keeps hbD hblw hcm
   have HD1 : Hid (Below w1.heap.size w1 (wr.alloc (.cells #[.int .i64 xs, .int .i64 m, .int .i64 xd] 62))) := hbl.alloc hsz _
   have HOD : Hid ((wr.alloc (.cells #[.int .i64 xs, .int .i64 m, .int .i64 xd] 62)).ownsRow w1.heap.size 9 1 (.slice va k vc) k ts) := ho.alloc _
   rw [hwD] at t2 cm
   have htlr : tb < wr.heap.size := by have := hbAr.size; omega
   have hblr : bl < wr.heap.size := by have := hbAr.size; omega
   clear hts HOW
   clear hbl ho hok hl hlm hx hm hmt hmL2 hcm hxs hxd hbAr hwD hbD
   go_wp2_with (at_builtin; refine wpList_append_own _ rfl _ _ 22 rfl w1.heap.size 9 i3 (.string ⟨#[]⟩) 1 16 Tryz.underlying22 hi3 hz30 hz31 hz32 rfl (by decide) _ k _ rfl (HOD.out.alloc _) ⟨wr.heap.size + 1, 0, none⟩ 1 1 [.string l] rfl rfl ?c1 ?c2 ?c3 ?c4 ?c5 ?_)
   case c1 => exact World.news_of_block (cs := #[.string l]) (t := 9) (fr := (0, 0)) (by have h := heap_alloc_new (wr.alloc (.cells #[.int .i64 xs, .int .i64 m, .int .i64 xd] 62)) (.cells #[.string l] 9); rw [World.size_alloc] at h; exact h)
   case c2 => intro u hu; simp at hu; subst hu; rfl
   case c3 => simp [maxLen]; omega
   case c4 => omega
   case c5 => simp; omega
   intro v7 w7 ho7 hg7 _
   have HB7 : Hid (Below w1.heap.size w1 w7) := (HD1.out.alloc HD1.out.size _).grown hg7 (by simp; omega) (fun b e => (HOD.out.lt b e).1)
   have HO7 : Hid (w7.ownsRow w1.heap.size 9 1 v7 (k + 1) (((os.take (k + 1)).map (labAt t)).map Value.string)) := by unfold Hid; rw [HNX.out]; exact ho7
   clear ho7 hg7 t2 cm
   go_wp2
   go_roundw
   case rel => exact ⟨k + 1, by omega, by go_num, HB7.out, HO7.out⟩
   case measure => simp [intOf]; omega
  ·obtain rfl : k = ON := by omega
   have hall : os.take k = os := List.take_of_length_le (by have := HON.out; omega)
   rw [hall] at HOW
   have hln : (os.map (labAt t)).length = k := by rw [List.length_map]; exact HON.out.symm
   have HS1 := Lib.hid (SortL_own w1.heap.size (.slice va k vc) (os.map (labAt t)) wr (by rw [hln]; exact HOW.out) (by omega))
   have HBWr := Lib.hid (HB1.out.trans (hbl.mono hs1))
   have HLN2 := Lib.hid hln
   clear hbl ho hall hln
   go_wp2_with fail
   refine Calls.mono HS1.out ?_
   rintro e w8 ⟨rfl, ho8, hg8⟩
   have HB8 := Lib.hid (HBWr.out.grown hg8 (by exact HBWr.out.size) (fun b e => by have := (HOW.out.lt b e).1; omega))
   have HC8 := Lib.hid (CompactL_own w1.heap.size (.slice va k vc) (os.map (labAt t)) w8 ho8)
   have HLT := Lib.hid (fun b e => (ho8.lt b e).1)
   clear ho8 hg8 HS1
   go_wp2_with fail
   refine Calls.mono HC8.out ?_
   rintro e w9 ⟨v9, rfl, ho9, hg9⟩
   have HB9 := Lib.hid (HB8.out.grown hg9 HB8.out.size (fun b e => by have := HLT.out b e; omega))
   have HO9 := Lib.hid ho9
   clear ho9 hg9 HC8
   go_wp2_with fail
   go_ret
   refine ⟨_, rfl, HBA.out.trans (HB9.out.mono HBA.out.size), ?_⟩
   have h := own_lower HO9.out (Nat.le_trans HBA.out.size hs1)
   rw [HOS.out] at h
   exact h

end Go.Proofs.YtodojigmhlkpeaaGreatDoor

namespace Go.Proofs.YtodojigmhlkpeaaGreatDoor
open Go Go.RowKit

set_option maxRecDepth 100000 in
theorem lacking1_any (lo ob : Nat) (ov : Value) (other : List ByteArray) (s : ByteArray) (w : World) (ho : SliceK 1 encS lo w ov other) (hb : Blk w ob [ov] 22) :
  Calls Tryz.prog 89 #[.string s, .pointer (some ⟨ob, 0, none⟩)] w fun e w' => e = .returned (.bool (inT other s)) ∧ Below w.heap.size w w' := by
 have HC := Lib.hid (Contains_strs lo ov s other w ho)
 have x0 := hb.cell 0 rfl
 clear ho hb
 go_enter Tryz.func89, Tryz.ntmps89
 go_wp2_with fail
 refine Calls.mono HC.out ?_
 rintro e w1 ⟨rfl, rfl⟩
 go_wp2
 go_ret
 exact ⟨rfl, Below.refl _ _⟩
set_option maxRecDepth 100000 in
theorem lacking_any (lo lo2 : Nat) (sv ov : Value) (set other : List ByteArray) (w : World) (hs : SliceK 1 encS lo w sv set) (ho : SliceK 1 encS lo2 w ov other) (hz : set.length ≤ 1048576) :
  Calls Tryz.prog 51 #[sv, ov] w (MadeTxI (lackL set other) w) := by
 obtain ⟨ob, hob⟩ : ∃ ob, ob = w.heap.size := ⟨_, rfl⟩
 obtain ⟨wA, hwA⟩ : ∃ wA, wA = w.alloc (.cells #[ov] 22) := ⟨_, rfl⟩
 have hbA : Below w.heap.size w wA := by rw [hwA]; exact (Below.refl _ _).alloc (Nat.le_refl _) _
 have hX : Blk wA ob [ov] 22 := by rw [hwA, hob]; exact Blk.new w _ _
 have HCL := Lib.hid (CloneS_own lo sv set wA (hs.below hbA) hz)
 have HOV := Lib.hid (ho.below hbA)
 have HX := Lib.hid hX
 have HBA := Lib.hid hbA
 have HWA := Lib.hid hwA
 have HOB := Lib.hid hob
 obtain ⟨oa, oc, rfl, -, -, -⟩ := ho
 clear hs hbA hX hwA hob
 go_enter Tryz.func51, Tryz.ntmps51
 go_wp2_with fail
 rw [← HWA.out]
 try rw [← HOB.out]
 refine Calls.mono HCL.out ?_
 rintro e w1 ⟨v1, rfl, ho1, hb1⟩
 have HDF := Lib.hid (DeleteFuncS wA.heap.size v1 set 89 #[.pointer (some ⟨ob, 0, none⟩)] (inT other) wA w1 ho1 hb1 hb1.size (fun args w => by kernel_rfl) fun w' hb x _ => lacking1_any lo2 ob _ other x w' (HOV.out.below hb) (HX.out.below hb))
 clear ho1 hb1 HCL
 go_wp2_with fail
 refine Calls.mono HDF.out ?_
 rintro e w2 ⟨v2, rfl, hb2, ho2⟩
 have HB2 := Lib.hid (HBA.out.trans (hb2.mono HBA.out.size))
 have HO2 := Lib.hid (own_lower ho2 HBA.out.size)
 clear hb2 ho2 HDF
 go_wp2
 go_ret
 exact ⟨_, rfl, HB2.out, HO2.out⟩

end Go.Proofs.YtodojigmhlkpeaaGreatDoor

namespace Go.Proofs.YtodojigmhlkpeaaGreatDoor
open Go Go.RowKit

set_option maxRecDepth 100000 in
theorem isStable_any (lo : Nat) (t : Lts) (lv ev : Value) (s : Int) (w : World) (hv : Valid t) (hl : SliceK 1 encS lo w lv t.labels) (he : SliceK 3 encE lo w ev t.edges) :
  Calls Tryz.prog 79 #[.agg #[.int .i64 t.states, .int .i64 t.initial, lv, ev], .int .i64 s] w fun e w' => e = .returned (.bool (stableB t s)) ∧ Below w.heap.size w w' := by
 obtain ⟨wA, hwA⟩ : ∃ wA, wA = w.alloc (.cells #[.int .i64 t.states, .int .i64 t.initial, lv, ev] 29) := ⟨_, rfl⟩
 have hbA : Below w.heap.size w wA := by rw [hwA]; exact (Below.refl _ _).alloc (Nat.le_refl _) _
 have HR := Lib.hid (readyLabels_any lo t lv ev s wA hv (hl.below hbA) (he.below hbA))
 have HT := Lib.hid (tau_rdy hv s)
 have HBA := Lib.hid hbA
 have HWA := Lib.hid hwA
 clear hv hl he hbA hwA
 go_enter Tryz.func79, Tryz.ntmps79
 go_wp2_with fail
 rw [← HWA.out]
 refine Calls.mono HR.out ?_
 rintro e w1 ⟨v1, rfl, hb1, ho1⟩
 have HC := Lib.hid (Contains_strs wA.heap.size v1 tauT (rdy t s) w1 ho1.at)
 have hc : ((rdy t s).any fun y => y.toList == tauT.toList) = !stableB t s := HT.out
 rw [hc] at HC
 have HB1 := Lib.hid (HBA.out.trans (hb1.mono HBA.out.size))
 clear hb1 ho1 hc HR
 go_wp2_with fail
 refine Calls.mono HC.out ?_
 rintro e w2 ⟨rfl, rfl⟩
 go_wp2
 go_ret
 exact ⟨ret_bool (by simp), HB1.out⟩

set_option maxRecDepth 100000 in
theorem stable1_any (lo tb : Nat) (t : Lts) (lv ev : Value) (s : Int) (w : World) (hv : Valid t) (hl : SliceK 1 encS lo w lv t.labels) (he : SliceK 3 encE lo w ev t.edges) (ht : Blk w tb [.int .i64 t.states, .int .i64 t.initial, lv, ev] 29) :
  Calls Tryz.prog 78 #[.int .i64 s, .pointer (some ⟨tb, 0, none⟩)] w fun e w' => e = .returned (.bool (!stableB t s)) ∧ Below w.heap.size w w' := by
 have HS := Lib.hid (isStable_any lo t lv ev s w hv hl he)
 have x0 := ht.cell 0 rfl
 have x1 := ht.cell 1 rfl
 have x2 := ht.cell 2 rfl
 have x3 := ht.cell 3 rfl
 clear hv hl he ht
 go_enter Tryz.func78, Tryz.ntmps78
 go_wp2_with fail
 refine Calls.mono HS.out ?_
 rintro e w1 ⟨rfl, hb1⟩
 have HB1 := Lib.hid hb1
 clear hb1 HS
 go_wp2
 go_ret
 exact ⟨rfl, HB1.out⟩

set_option maxRecDepth 100000 in
theorem stable_any (lo lo2 : Nat) (t : Lts) (lv ev sv : Value) (S : List Int) (w : World) (hv : Valid t) (hl : SliceK 1 encS lo w lv t.labels) (he : SliceK 3 encE lo w ev t.edges) (hs : SliceK 1 encI lo2 w sv S) (hz : S.length ≤ 1048576) :
  Calls Tryz.prog 44 #[.agg #[.int .i64 t.states, .int .i64 t.initial, lv, ev], sv] w (MadeNums (stabs t S) w) := by
 obtain ⟨tb, htb⟩ : ∃ tb, tb = w.heap.size := ⟨_, rfl⟩
 obtain ⟨wA, hwA⟩ : ∃ wA, wA = w.alloc (.cells #[.int .i64 t.states, .int .i64 t.initial, lv, ev] 29) := ⟨_, rfl⟩
 have hbA : Below w.heap.size w wA := by rw [hwA]; exact (Below.refl _ _).alloc (Nat.le_refl _) _
 have hT : Blk wA tb [.int .i64 t.states, .int .i64 t.initial, lv, ev] 29 := by rw [hwA, htb]; exact Blk.new w _ _
 have HCL := Lib.hid (Clone_own lo2 sv S wA (hs.below hbA) hz)
 have HV := Lib.hid hv
 have HL := Lib.hid (hl.below hbA)
 have HE := Lib.hid (he.below hbA)
 have HT := Lib.hid hT
 have HBA := Lib.hid hbA
 have HWA := Lib.hid hwA
 have HTB := Lib.hid htb
 clear hv hl he hs hbA hT hwA htb
 go_enter Tryz.func44, Tryz.ntmps44
 go_wp2_with fail
 rw [← HWA.out]
 try rw [← HTB.out]
 refine Calls.mono HCL.out ?_
 rintro e w1 ⟨v1, rfl, ho1, hb1⟩
 have HDF := Lib.hid (DeleteFuncI wA.heap.size v1 S 78 #[.pointer (some ⟨tb, 0, none⟩)] (fun x => !stableB t x) wA w1 ho1 hb1 hb1.size (fun args w => by kernel_rfl) fun w' hb x _ => stable1_any lo tb t lv ev x w' HV.out (HL.out.below hb) (HE.out.below hb) (HT.out.below hb))
 have hf : (S.filter fun x => !(!stableB t x)) = stabs t S := by unfold stabs; congr 1; funext x; exact Bool.not_not _
 rw [hf] at HDF
 clear ho1 hb1 hf HCL
 go_wp2_with fail
 refine Calls.mono HDF.out ?_
 rintro e w2 ⟨v2, rfl, hb2, ho2⟩
 have HB2 := Lib.hid (HBA.out.trans (hb2.mono HBA.out.size))
 have HO2 := Lib.hid (own_lower ho2 HBA.out.size)
 clear hb2 ho2 HDF
 go_wp2
 go_ret
 exact ⟨_, rfl, HB2.out, HO2.out⟩

end Go.Proofs.YtodojigmhlkpeaaGreatDoor

namespace Go.Proofs.YtodojigmhlkpeaaGreatDoor
open Go Go.RowKit

/-- A function of one element that answers P at the element's place, and turns nothing that was there. -/
def AskV (fid : Nat) (caps : Array Value) (P : Nat → Bool) (vs : List Value) (B : Nat) (w : World) : Prop :=
 ∀ w', Below B w w' → ∀ i (h : i < vs.length), Calls Tryz.prog fid (#[vs[i]] ++ caps) w' fun e w'' => e = .returned (.bool (P i)) ∧ Below w'.heap.size w' w''

set_option maxRecDepth 100000 in
set_option maxHeartbeats 1000000 in
theorem IndexFuncV (lo : Nat) (v : Value) (vs : List Value) (fid : Nat) (caps : Array Value) (P : Nat → Bool) (w : World) (hv : SliceK 1 encV lo w v vs) (eg : ∀ args w, (callFunc fid args).run Tryz.prog w = .ok (.enter fid args) w) (hP : AskV fid caps P vs w.heap.size w) :
  Calls Tryz.prog 91 #[v, .func (.func fid) #[] caps] w fun e w' => ∃ r : Int, e = .returned (.int .i64 r) ∧ (0 ≤ r ↔ ∃ k, k < vs.length ∧ P k = true) ∧ Below w.heap.size w w' := by
 obtain ⟨a, c, rfl, hcn, hcc, hrow⟩ := hv
 have HR := Lib.hid hrow
 have HP := Lib.hid hP
 clear hP hrow
 go_enter Tryz.func91, Tryz.ntmps91
 go_wp2_with fail
 go_loopw [8] (fun i wr => ∃ k : Nat, k ≤ vs.length ∧ i = .int .i64 k ∧ Below w.heap.size w wr ∧ ∀ j, j < k → P j = false) (fun i _ => vs.length - (intOf i).toNat)
 case atStart => exact ⟨0, Nat.zero_le _, rfl, Below.refl _ _, fun _ h => by omega⟩
 case round =>
  obtain ⟨k, hk, rfl, hbl, ha⟩ := hrel
  have HA := Lib.hid ha
  have HBL := Lib.hid hbl
  clear ha
  by_cases hlt : k < vs.length
  ·obtain ⟨b1, o1, rfl, -, hbs, c1⟩ := (HR.out.below hbl).one hlt
   simp only [encV, List.getElem?_cons_zero] at c1
   clear hbl
   have HC := Lib.hid (HP.out wr HBL.out k hlt)
   obtain ⟨x, hx⟩ : ∃ x, x = vs[k] := ⟨_, rfl⟩
   rw [← hx] at c1 HC
   obtain ⟨b, hb⟩ : ∃ b, b = P k := ⟨_, rfl⟩
   rw [← hb] at HC
   have HB := Lib.hid hb
   clear hb hx
   go_wp2_with fail
   refine Calls.mono HC.out ?_
   rintro e w1 ⟨rfl, hb1⟩
   have HB1 := Lib.hid (HBL.out.trans (hb1.mono HBL.out.size))
   clear hb1 c1
   cases b
   ·go_wp2_with fail
    go_roundw
    case rel => exact ⟨k + 1, by omega, by go_num, HB1.out, fun j hj => by
     by_cases e : j = k
     ·subst e; exact HB.out.symm
     ·exact HA.out j (by omega)⟩
    case measure => simp [intOf]; omega
   ·have HE : Hid (∃ k, k < vs.length ∧ P k = true) := ⟨k, hlt, HB.out.symm⟩
    go_wp2_with fail
    go_ret
    exact ⟨_, rfl, ⟨fun _ => HE.out, fun _ => by omega⟩, HB1.out⟩
  ·clear hbl
   have HN : Hid (¬ ∃ k, k < vs.length ∧ P k = true) := by
    rintro ⟨j, hj, h⟩
    rw [HA.out j (by omega)] at h
    cases h
   go_wp2_with fail
   go_ret
   exact ⟨_, rfl, ⟨fun h => by omega, fun h => absurd h HN.out⟩, HBL.out⟩

theorem ContainsFuncV (lo : Nat) (v : Value) (vs : List Value) (fid : Nat) (caps : Array Value) (P : Nat → Bool) (w : World) (hv : SliceK 1 encV lo w v vs) (eg : ∀ args w, (callFunc fid args).run Tryz.prog w = .ok (.enter fid args) w) (hP : AskV fid caps P vs w.heap.size w) :
  Calls Tryz.prog 52 #[v, .func (.func fid) #[] caps] w fun e w' => ∃ b : Bool, e = .returned (.bool b) ∧ (b = true ↔ ∃ k, k < vs.length ∧ P k = true) ∧ Below w.heap.size w w' := by
 have HC := Lib.hid (IndexFuncV lo v vs fid caps P w hv eg hP)
 clear hP
 go_enter Tryz.func52, Tryz.ntmps52
 go_wp2_with fail
 refine Calls.mono HC.out ?_
 rintro e w' ⟨r, rfl, hr, hb⟩
 have HB := Lib.hid hb
 have HR := Lib.hid hr
 clear hb hr
 go_wp2_with fail
 go_ret
 exact ⟨_, rfl, by rw [decide_eq_true_eq]; exact HR.out, HB.out⟩

end Go.Proofs.YtodojigmhlkpeaaGreatDoor

namespace Go.Proofs.YtodojigmhlkpeaaGreatDoor
open Go Go.RowKit

set_option maxRecDepth 100000 in
set_option maxHeartbeats 1000000 in
theorem smaller_any (lo lo2 ob : Nat) (pv ov : Value) (p o : List ByteArray) (w : World) (hp : SliceK 1 encS lo w pv p) (ho : SliceK 1 encS lo2 w ov o) (hob : Blk w ob [ov] 22) (hz : p.length ≤ 1000) :
  Calls Tryz.prog 50 #[pv, .pointer (some ⟨ob, 0, none⟩)] w fun e w' => e = .returned (.bool (decide (p.length < o.length) && decide ((lackL p o).length = 0))) ∧ Below w.heap.size w w' := by
 obtain ⟨pa, pc, rfl, -⟩ := id hp
 obtain ⟨oa, oc, rfl, -⟩ := id ho
 obtain ⟨PN, hPN⟩ : ∃ PN, PN = p.length := ⟨_, rfl⟩
 obtain ⟨ON, hON⟩ : ∃ ON, ON = o.length := ⟨_, rfl⟩
 have HLK := Lib.hid (fun w' (hb : Below w.heap.size w w') => lacking_any lo lo2 _ _ p o w' (hp.below hb) (ho.below hb) (by omega))
 have hle : (lackL p o).length ≤ 1000 := Nat.le_trans (List.length_filter_le _ _) hz
 rw [← hPN, ← hON] at HLK ⊢
 rw [← hON] at hob
 have HOB := Lib.hid hob
 obtain ⟨KN, hKN⟩ : ∃ KN, KN = (lackL p o).length := ⟨_, rfl⟩
 rw [← hKN] at hle ⊢
 have HKN := Lib.hid hKN
 have x0 := hob.cell 0 rfl
 have hbl := hob.lt
 have lx0 := later_cell hbl x0
 clear hp ho hob hPN hON hKN hz
 by_cases hlt : PN < ON
 ·rw [decide_eq_true hlt, Bool.true_and]
  have HF : Hid (decide (KN = 0) = (((KN : Nat) : Int) == 0)) := by
   unfold Hid
   rw [Bool.eq_iff_iff, decide_eq_true_eq, beq_iff_eq]
   omega
  clear lx0
  go_enter Tryz.func50, Tryz.ntmps50
  go_wp2_with fail
  refine Calls.mono (HLK.out _ (Below.refl _ _)) ?_
  rintro e w2 ⟨v2, rfl, hb2, ho2⟩
  obtain ⟨a2, c2, rfl, -, -⟩ := owns_slice ho2
  rw [← HKN.out]
  have HB2 := Lib.hid hb2
  clear hb2 ho2 x0 HLK
  go_wp2
  go_ret
  exact ⟨ret_bool HF.out.symm, HB2.out⟩
 ·rw [decide_eq_false hlt, Bool.false_and]
  clear lx0
  go_enter Tryz.func50, Tryz.ntmps50
  go_wp2
  go_ret
  exact ⟨rfl, Below.refl _ _⟩

theorem info_strsA : (Tryz.prog.info? 22).map (fun i => (i.zero, i.size, i.bytes)) = some (some (.slice none 0 0), 1, 24) := by kernel_rfl
theorem rdy_len300 {t : Lts} (hv : Valid t) (k : Int) : (rdy t k).length ≤ 300 := by
 unfold rdy labSet
 rw [List.length_map]
 refine Nat.le_trans (Lib.compact_length_le _) ?_
 rw [List.length_mergeSort, List.length_map, List.length_map]
 exact Nat.le_trans (List.length_filter_le _ _) hv.most
theorem befL_nodupA {O : List (List ByteArray)} {ls : List Nat} (h : (ls.map (lsAt O)).Pairwise fun a b => befL a b = true) : ls.Nodup := by
 rw [List.pairwise_map] at h
 exact h.imp fun {a b} k e => by subst e; rw [befL_irrefl] at k; cases k
theorem pick_txtsA (O : List (List ByteArray)) (ls : List Nat) : (ls.map fun i => (O.map txts).getD i []) = (ls.map (lsAt O)).map txts := by
 rw [List.map_map]
 apply List.map_congr_left
 intro i _
 unfold lsAt
 simp only [Function.comp_apply, List.getD_eq_getElem?_getD, List.getElem?_map]
 cases O[i]? <;> rfl
/-- Kept: no smaller one lies within. -/
def keepA (Z : List (List ByteArray)) (o : List ByteArray) : Bool := !(Z.any fun p => decide (p.length < o.length) && decide ((lackL p o).length = 0))

set_option maxRecDepth 100000 in
set_option maxHeartbeats 8000000 in
theorem acceptances_any (lo lo2 : Nat) (t : Lts) (lv ev sv : Value) (S : List Int) (w : World) (hv : Valid t) (hl : SliceK 1 encS lo w lv t.labels) (he : SliceK 3 encE lo w ev t.edges) (hs : SliceK 1 encI lo2 w sv S) (hz : S.length ≤ 1000) :
  Calls Tryz.prog 22 #[.agg #[.int .i64 t.states, .int .i64 t.initial, lv, ev], sv] w fun e w' => ∃ v' us L, e = .returned v' ∧ Below w.heap.size w w' ∧ OwnStrss w.heap.size w' v' us L ∧ leastIs (offersS t S) L := by
 obtain ⟨tb, htb⟩ : ∃ tb, tb = w.heap.size := ⟨_, rfl⟩
 obtain ⟨wA, hwA⟩ : ∃ wA, wA = w.alloc (.cells #[.int .i64 t.states, .int .i64 t.initial, lv, ev] 29) := ⟨_, rfl⟩
 have hbA : Below w.heap.size w wA := by rw [hwA]; exact (Below.refl _ _).alloc (Nat.le_refl _) _
 have hX : Blk wA tb [.int .i64 t.states, .int .i64 t.initial, lv, ev] 29 := by rw [hwA, htb]; exact Blk.new w _ _
 have HST := Lib.hid (stable_any lo lo2 t lv ev sv S wA hv (hl.below hbA) (he.below hbA) (hs.below hbA) (by omega))
 have HV := Lib.hid hv
 have HL := Lib.hid (hl.below hbA)
 have HE := Lib.hid (he.below hbA)
 have HX := Lib.hid hX
 have HBA := Lib.hid hbA
 have HWA := Lib.hid hwA
 have HTB := Lib.hid htb
 have hsl : (stabs t S).length ≤ 1000 := Nat.le_trans (List.length_filter_le _ _) hz
 obtain ⟨i2, hi2, hz20, hz21, hz22⟩ := info_parts info_strsA
 clear hv hl he hs hbA hX hwA htb hz
 go_enter Tryz.func22, Tryz.ntmps22
 go_wp2_with fail
 rw [← HWA.out]
 try rw [← HTB.out]
 refine Calls.mono HST.out ?_
 rintro e w1 ⟨v1, rfl, hb1, ho1⟩
 have hs1 : SliceK 1 encI wA.heap.size w1 v1 (stabs t S) := SliceK.of_owns (e := 2) encI_len rfl (by rw [flat_encI]; exact ho1)
 obtain ⟨va, vc, rfl, -, -, hrow⟩ := hs1
 have HR := Lib.hid hrow
 obtain ⟨N, hN⟩ : ∃ N, N = (stabs t S).length := ⟨_, rfl⟩
 rw [← hN] at hsl ⊢
 have HN := Lib.hid hN
 have HB1 := Lib.hid hb1
 have hsz1 := hb1.size
 clear hb1 ho1 hrow hN HST
 go_wp2
 go_loopw [5, 16] (fun v5 v16 wr => ∃ (k : Nat) (vs : List Value), k ≤ N ∧ v16 = .int .i64 k ∧ Below w1.heap.size w1 wr ∧ OwnStrss w1.heap.size wr v5 vs (((stabs t S).take k).map (rdy t))) (fun _ v16 _ => N - (intOf v16).toNat)
 case atStart => exact ⟨0, [], Nat.zero_le _, rfl, Below.refl _ _, OwnStrss.none _ _⟩
 case round =>
  obtain ⟨k, vs, hk, rfl, hbl, ho⟩ := hrel
  obtain ⟨wC, rfl⟩ : ∃ wC : World, wC = wr := ⟨_, rfl⟩
  have HBL := Lib.hid hbl
  have HO := Lib.hid ho
  have hsz := hbl.size
  have hvl : vs.length = k := by rw [ho.len, List.length_map, List.length_take, ← HN.out]; omega
  obtain ⟨oa, oc, rfl, -, -⟩ := owns_slice ho.out
  rw [hvl]
  have HVL := Lib.hid hvl
  have hA9 : Below wA.heap.size wA wC := HB1.out.trans (hbl.mono hsz1)
  have HA9 := Lib.hid hA9
  by_cases hlt : k < N
  ·have hlt2 : k < (stabs t S).length := by rw [← HN.out]; exact hlt
   obtain ⟨b9, o9, rfl, -, hbw, cx⟩ := (HR.out.below hbl).one hlt2
   simp only [encI, List.getElem?_cons_zero] at cx
   have HNX : Hid (((stabs t S).take (k + 1)).map (rdy t) = ((stabs t S).take k).map (rdy t) ++ [rdy t (stabs t S)[k]]) := by
    unfold Hid
    rw [List.take_succ_eq_append_getElem hlt2, List.map_append]
    rfl
   obtain ⟨x, hx⟩ : ∃ x, x = (stabs t S)[k] := ⟨_, rfl⟩
   rw [← hx] at cx HNX
   have y0 := (HX.out.below hA9).cell 0 rfl
   have y1 := (HX.out.below hA9).cell 1 rfl
   have y2 := (HX.out.below hA9).cell 2 rfl
   have y3 := (HX.out.below hA9).cell 3 rfl
   have HRL := Lib.hid (readyLabels_any lo t lv ev x wC HV.out (HL.out.below hA9) (HE.out.below hA9))
   clear hbl ho hvl hA9 hx
   go_wp2_with fail
   refine Calls.mono HRL.out ?_
   rintro e w3 ⟨v3, rfl, hb3, ho3⟩
   obtain ⟨a3, c3, rfl, -, -⟩ := owns_slice ho3
   obtain ⟨ON, hON⟩ : ∃ ON, ON = (rdy t x).length := ⟨_, rfl⟩
   rw [← hON]
   have HON := Lib.hid hON
   have HF3 := Lib.hid hb3
   have HO3 := Lib.hid ho3
   have HB3 := Lib.hid (HBL.out.trans (hb3.mono hsz))
   have HOR := Lib.hid (owns_below HO.out.out hb3)
   rw [HVL.out] at HOR
   have hsz3 := HB3.out.size
   have hsz23 := hb3.size
   clear hb3 ho3 hON HRL cx y0 y1 y2 y3
   go_wp2_with (at_builtin; refine wpList_append_own _ rfl _ _ 46 rfl w1.heap.size 22 i2 (.slice none 0 0) 1 24 Tryz.underlying46 hi2 hz20 hz21 hz22 rfl (by decide) _ k _ rfl (HOR.out.alloc _) ⟨w3.heap.size, 0, none⟩ 1 1 [.slice a3 ON c3] rfl rfl ?c1 ?c2 ?c3 ?c4 ?c5 ?_)
   case c1 => exact World.news_of_block (cs := #[.slice a3 ON c3]) (t := 22) (fr := (0, 0)) (heap_alloc_new _ _)
   case c2 => intro u hu; simp at hu; subst hu; rfl
   case c3 => simp [maxLen]; omega
   case c4 => omega
   case c5 => simp; omega
   intro v7 w7 ho7 hg7 _
   have HP7 : Hid (OwnStrss w1.heap.size w7 v7 (vs ++ [.slice a3 ON c3]) (((stabs t S).take (k + 1)).map (rdy t))) := by
    unfold Hid
    rw [HNX.out]
    refine OwnStrss.push (GE := wC.heap.size) HO.out (Nat.le_refl _) hsz (HF3.out.alloc hsz23 (.cells #[.slice a3 ON c3] 22)) (by have h := World.ownsRow.alloc HO3.out (.cells #[.slice a3 ON c3] 22); rw [← HON.out] at h ⊢; exact h) ?_ ?_
    ·rw [HVL.out]; exact hg7
    ·rw [HVL.out]; exact ho7
   have HB7 : Hid (Below w1.heap.size w1 w7) := (HB3.out.alloc hsz3 _).grown hg7 (by simp; omega) (fun b e => (HOR.out.lt b e).1)
   clear ho7 hg7
   go_wp2
   go_roundw
   case rel => exact ⟨k + 1, _, by omega, by go_num, HB7.out, HP7.out⟩
   case measure => simp [intOf]; omega
  ·obtain rfl : k = N := by omega
   obtain ⟨O, hO⟩ : ∃ O, O = (stabs t S).map (rdy t) := ⟨_, rfl⟩
   have hOF : offersS t S = O := by rw [offersS_rdy HV.out, hO]
   have hTK : ((stabs t S).take k).map (rdy t) = O := by rw [List.take_of_length_le (by have := HN.out; omega), hO]
   rw [hTK] at ho
   have hO3 : ∀ o ∈ O, o.length ≤ 1000 := fun o h => by
    rw [hO] at h
    obtain ⟨x, -, rfl⟩ := List.mem_map.1 h
    have := rdy_len300 HV.out x
    omega
   have hOk : O.length = k := by rw [← ho.len]; exact hvl
   have HOF := Lib.hid hOF
   have HOO := Lib.hid ho
   have HOK := Lib.hid hOk
   have HO3 : Hid (∀ i, (lsAt O i).length ≤ 1000) := fun i => by
    by_cases hi : i < O.length
    ·rw [lsAt_lt hi]; exact hO3 _ (List.getElem_mem _)
    ·rw [lsAt_ge (by omega)]; simp
   have HSO := Lib.hid (SortT_own w1.heap.size _ vs O wC ho (by omega) hO3)
   rw [hvl] at HSO
   clear hbl ho hvl hA9 hO hOF hTK hO3 hOk HO
   go_wp2_with fail
   refine Calls.mono HSO.out ?_
   rintro e w3 ⟨rfl, js, hjp, hjs, hoj, hgj⟩
   have hjl : js.length = k := by rw [hjp.length_eq, List.length_range]; exact HOK.out
   have hjm : ∀ j ∈ js, j < vs.length := fun j h => by
    have := hjp.mem_iff.1 h
    rw [HVL.out, ← HOK.out]
    exact List.mem_range.1 this
   have hjn : js.Nodup := hjp.nodup_iff.2 List.nodup_range
   have hp3 : Pile 9 w1.heap.size w3 vs (O.map txts) := HOO.out.rows.other (by decide) HOO.out.out (by rw [HVL.out]; exact hgj)
   have hb3 : Below w1.heap.size w1 w3 := HBL.out.grown hgj hsz (fun b e => (HOO.out.out.lt b (by rw [HVL.out]; exact e)).1)
   have hs3 := hb3.size
   rw [← hjl] at hoj
   have HCP := Lib.hid (CompactT_own w1.heap.size _ vs O js w1 w3 hb3 hs3 hp3 hoj (by omega) HO3.out)
   rw [hjl] at HCP
   have HKI := Lib.hid (kept_is (O := O) hjs)
   have HJM := Lib.hid hjm
   have HJP := Lib.hid hjp
   have HKN : Hid ((keptL O js).Nodup) := befL_nodupA HKI.out.1
   clear hjp hjs hoj hgj hjl hjm hjn hp3 hb3 hs3 HSO
   go_wp2_with fail
   refine Calls.mono HCP.out ?_
   rintro e w4 ⟨v4, rfl, hb4, ho4, hp4⟩
   obtain ⟨ks, hks⟩ : ∃ ks, ks = keptL O js := ⟨_, rfl⟩
   rw [← hks] at ho4 HKI HKN
   have HKM : Hid (∀ j ∈ ks, j < vs.length) := fun j h => by rw [hks] at h; exact HJM.out j (keptL_mem j h)
   obtain ⟨Z, hZ⟩ : ∃ Z, Z = ks.map (lsAt O) := ⟨_, rfl⟩
   have hZO : ∀ o, o ∈ Z ↔ o ∈ O := fun o => by
    rw [hZ]
    refine (HKI.out.2 o).trans ?_
    rw [List.mem_map]
    constructor
    ·rintro ⟨j, hj, rfl⟩
     have hjv := HJM.out j hj
     have hjo : j < O.length := by rw [HOK.out, ← HVL.out]; exact hjv
     rw [lsAt_lt hjo]
     exact List.getElem_mem _
    ·intro h
     obtain ⟨j, hj, rfl⟩ := List.mem_iff_getElem.1 h
     exact ⟨j, HJP.out.mem_iff.2 (List.mem_range.2 hj), lsAt_lt hj⟩
   have HLEAST : Hid (leastIs O (Z.filter fun o => keepA Z o)) := least_sorted (by rw [hZ]; exact HKI.out.1) hZO
   obtain ⟨M, hM⟩ : ∃ M, M = ks.length := ⟨_, rfl⟩
   have hMk : M ≤ 1000 := by
    rw [hM]
    have := nodup_lt k ks HKN.out (fun j h => by have := HKM.out j h; rw [HVL.out] at this; exact this)
    omega
   obtain ⟨ra, rc, rfl, -, -⟩ := owns_slice ho4
   rw [← hM] at ho4 ⊢
   have hsv : SliceK 1 encV w1.heap.size w4 (.slice ra M rc) (ks.map (hdAt vs)) := SliceK.of_owns (n := M) encV_len (by rw [List.length_map]; exact hM) (by rw [flat_encV]; exact ho4)
   have HSV := Lib.hid hsv
   have HB4 := Lib.hid hb4
   have HP4 := Lib.hid hp4
   have HM := Lib.hid hM
   have HZ := Lib.hid hZ
   have hs4 := hb4.size
   clear hks hZO hM hZ hb4 ho4 hp4 hsv HCP HKI HJM HJP
   go_wp2
   go_loopw [8, 33] (fun v8 v9 wr => ∃ (i : Nat) (ls : List Nat), i ≤ M ∧ v9 = .int .i64 i ∧ Below w4.heap.size w4 wr ∧ wr.ownsRow w4.heap.size 22 1 v8 ls.length (ls.map (hdAt vs)) ∧ ls = (ks.take i).filter fun j => keepA Z (lsAt O j)) (fun _ v9 _ => M - (intOf v9).toNat)
   case atStart => exact ⟨0, [], Nat.zero_le _, rfl, Below.refl _ _, World.ownsRow_nil _ _ _ _, by simp⟩
   case round =>
    obtain ⟨i, ls, hi, rfl, hbl, ho, hls⟩ := hrel
    obtain ⟨wD, rfl⟩ : ∃ wD : World, wD = wr := ⟨_, rfl⟩
    have HBD := Lib.hid hbl
    have HO5 := Lib.hid ho
    have hszD := hbl.size
    have HLS := Lib.hid hls
    have hll : ls.length ≤ i := by
     rw [hls]
     refine Nat.le_trans (List.length_filter_le _ _) ?_
     rw [List.length_take]
     omega
    obtain ⟨qa, qc, rfl, -, -⟩ := owns_slice ho
    obtain ⟨Q, hQ⟩ : ∃ Q, Q = ls.length := ⟨_, rfl⟩
    rw [← hQ] at hll HO5 ⊢
    have HQ := Lib.hid hQ
    have hB14 : Below w1.heap.size w1 wD := HB4.out.trans (hbl.mono hs4)
    have HB14 := Lib.hid hB14
    by_cases hltM : i < M
    ·have hik : i < ks.length := by rw [← HM.out]; exact hltM
     have HNX : Hid ((ks.take (i + 1)).filter (fun j => keepA Z (lsAt O j)) = ls ++ if keepA Z (lsAt O ks[i]) then [ks[i]] else []) := by
      unfold Hid
      rw [List.take_succ_eq_append_getElem hik, List.filter_append, ← HLS.out, List.filter_cons]
      cases keepA Z (lsAt O ks[i]) <;> simp
     obtain ⟨a9, c9, e9, -, -, hrk⟩ := HSV.out.below hbl
     simp only [Value.slice.injEq] at e9
     obtain ⟨rfl, -, rfl⟩ := e9
     obtain ⟨b, o, rfl, -, hbw, cx⟩ := hrk.one (show i < (ks.map (hdAt vs)).length by rw [List.length_map]; exact hik)
     simp only [encV, List.getElem?_cons_zero, List.getElem_map] at cx
     have hkv := HKM.out ks[i] (List.getElem_mem _)
     have hp9 := HP4.out.below hbl
     obtain ⟨jx, hjx⟩ : ∃ jx, jx = ks[i] := ⟨_, rfl⟩
     rw [← hjx] at cx HNX hkv
     obtain ⟨ua, un, uc, hue⟩ := hd_slice hp9 jx
     have hsu := hd_at hp9 jx
     rw [hue] at cx hsu
     have HUE := Lib.hid hue
     obtain ⟨WB, hWB⟩ : ∃ WB, WB = wD.alloc (.cells #[.slice ua un uc] 22) := ⟨_, rfl⟩
     obtain ⟨ob, hob⟩ : ∃ ob, ob = wD.heap.size := ⟨_, rfl⟩
     have hbB : Below wD.heap.size wD WB := by rw [hWB]; exact (Below.refl _ _).alloc (Nat.le_refl _) _
     have hOB : Blk WB ob [.slice ua un uc] 22 := by rw [hWB, hob]; exact Blk.new wD _ _
     have hwB : Below w4.heap.size w4 WB := hbl.trans (hbB.mono hszD)
     have hsB : w4.heap.size ≤ WB.heap.size := hwB.size
     have hsuB := hsu.below hbB
     have HC := Lib.hid (ContainsFuncV w1.heap.size _ (ks.map (hdAt vs)) 50 #[.pointer (some ⟨ob, 0, none⟩)] (fun q => decide ((lsAt O (ks.getD q 0)).length < (lsAt O jx).length) && decide ((lackL (lsAt O (ks.getD q 0)) (lsAt O jx)).length = 0)) WB (HSV.out.below hwB) (fun args w => by kernel_rfl) (fun w' hb q hq => by
      rw [List.length_map] at hq
      have e : ks.getD q 0 = ks[q] := getD_lt hq
      simp only [List.getElem_map, e]
      exact smaller_any w1.heap.size w1.heap.size ob _ _ (lsAt O ks[q]) (lsAt O jx) w' (hd_at (HP4.out.below (hwB.trans (hb.mono hsB))) _) (hsuB.below hb) (hOB.below hb) (HO3.out _)))
     rw [List.length_map, ← HM.out] at HC
     have HKA : Hid (∀ r : Bool, (r = true ↔ ∃ q, q < M ∧ (decide ((lsAt O (ks.getD q 0)).length < (lsAt O jx).length) && decide ((lackL (lsAt O (ks.getD q 0)) (lsAt O jx)).length = 0)) = true) → keepA Z (lsAt O jx) = !r) := fun r hr => by
      unfold keepA
      congr 1
      rw [Bool.eq_iff_iff, hr, List.any_eq_true, HZ.out]
      constructor
      ·rintro ⟨p, hp, hc⟩
       obtain ⟨j, hj, rfl⟩ := List.mem_map.1 hp
       obtain ⟨q, hq, rfl⟩ := List.mem_iff_getElem.1 hj
       exact ⟨q, by rw [HM.out]; exact hq, by rw [getD_lt hq]; exact hc⟩
      ·rintro ⟨q, hq, hc⟩
       have hq2 : q < ks.length := by rw [← HM.out]; exact hq
       rw [getD_lt hq2] at hc
       exact ⟨_, List.mem_map.2 ⟨_, List.getElem_mem hq2, rfl⟩, hc⟩
     have HOB := Lib.hid hOB
     have HBB := Lib.hid hwB
     have HB9 := Lib.hid hbB
     have HWBE := Lib.hid hWB
     have HOBE := Lib.hid hob
     have hbl2 : b < w4.heap.size ∨ True := .inr trivial
     clear hbl ho hls hQ hB14 hrk hp9 hjx hue hsu hWB hob hbB hOB hwB hsuB hbl2
     go_wp2_with fail
     rw [← HWBE.out]
     try rw [← HOBE.out]
     refine Calls.mono HC.out ?_
     rintro e w6 ⟨r, rfl, hr, hb6⟩
     have hka := HKA.out r hr
     have HKA2 := Lib.hid hka
     have HB6 := Lib.hid (HBB.out.trans (hb6.mono hsB))
     have HO6 := Lib.hid (owns_below (owns_below HO5.out HB9.out) hb6)
     have u0 := (HOB.out.below hb6).cell 0 rfl
     have hs6 := HB6.out.size
     have hol := (HOB.out.below hb6).lt
     clear hr hb6 hka HC cx
     cases r
     ·go_wp2_with (at_builtin; refine wpList_append_own _ rfl _ _ 46 rfl w4.heap.size 22 i2 (.slice none 0 0) 1 24 Tryz.underlying46 hi2 hz20 hz21 hz22 rfl (by decide) _ Q _ rfl (HO6.out.alloc _) ⟨w6.heap.size, 0, none⟩ 1 1 [.slice ua un uc] rfl rfl ?f1 ?f2 ?f3 ?f4 ?f5 ?_)
      case f1 => exact World.news_of_block (cs := #[.slice ua un uc]) (t := 22) (fr := (0, 0)) (heap_alloc_new _ _)
      case f2 => first | rfl | (intro u hu; simp at hu; subst hu; rfl)
      case f3 => first | omega | (simp [maxLen]; omega)
      case f4 => first | omega | (simp; omega)
      case f5 => first | omega | (simp; omega)
      intro v7 w7 ho7 hg7 _
      have HB7 : Hid (Below w4.heap.size w4 w7) := (HB6.out.alloc hs6 _).grown hg7 (by simp; omega) (fun b e => (HO6.out.lt b e).1)
      have HO7 : Hid (w7.ownsRow w4.heap.size 22 1 v7 (ls ++ [jx]).length ((ls ++ [jx]).map (hdAt vs))) := by
       unfold Hid
       rw [List.length_append, List.map_append, List.map_singleton, HUE.out, ← HQ.out]
       exact ho7
      clear ho7 hg7 u0
      go_wp2
      go_roundw
      case rel => exact ⟨i + 1, ls ++ [jx], by omega, by go_num, HB7.out, HO7.out, by rw [HNX.out, HKA2.out]; rfl⟩
      case measure => simp [intOf]; omega
     ·clear u0
      go_wp2
      go_roundw
      case rel => exact ⟨i + 1, ls, by omega, by go_num, HB6.out, by rw [← HQ.out]; exact HO6.out, by rw [HNX.out, HKA2.out]; simp⟩
      case measure => simp [intOf]; omega
    ·obtain rfl : i = M := by omega
     have hlf : ls = ks.filter fun j => keepA Z (lsAt O j) := by rw [HLS.out, HM.out, List.take_length]
     have hmz : ls.map (lsAt O) = Z.filter fun o => keepA Z o := by
      rw [hlf, HZ.out, List.filter_map]
      rfl
     have HLAST : Hid (leastIs (offersS t S) (ls.map (lsAt O))) := by
      unfold Hid
      rw [hmz, HOF.out]
      exact HLEAST.out
     have hss1 : w.heap.size ≤ w1.heap.size := Nat.le_trans HBA.out.size HB1.out.size
     have HOWN : Hid (OwnStrss w.heap.size wD (.slice qa Q qc) (ls.map (hdAt vs)) (ls.map (lsAt O))) := by
      refine ⟨by rw [List.length_map, ← HQ.out]; exact own_lower HO5.out (by omega), ?_⟩
      have h := ((HP4.out.below hbl).pick ls (by rw [hlf]; exact List.Nodup.sublist List.filter_sublist HKN.out) (fun j h => HKM.out j (by rw [hlf] at h; exact (List.mem_filter.1 h).1)) (.slice none 0 0)).lower hss1
      rw [pick_txtsA] at h
      exact h
     have HBF := Lib.hid (HBA.out.trans ((HB1.out.trans (HB14.out.mono hsz1)).mono HBA.out.size))
     clear hbl ho hls hlf hmz hQ hB14
     go_wp2
     go_ret
     exact ⟨_, _, _, rfl, HBF.out, HOWN.out, HLAST.out⟩

end Go.Proofs.YtodojigmhlkpeaaGreatDoor

namespace Go.Proofs.YtodojigmhlkpeaaGreatDoor
open Go Go.RowKit

theorem idet_results {w : World} {b : Nat} {v0 v1 v2 v3 : Value} {tmps : Array Value} (hc : tmps.getD 2 undef = .pointer (some ⟨b, 0, none⟩)) (hb : Blk w b [v0, v1, v2, v3] 29) :
  (results Tryz.f21 tmps).run Tryz.prog w = .ok (.tuple #[.agg #[v0, v1, v2, v3], tmps.getD 3 undef, tmps.getD 4 undef]) w := by
 have h0 := hb.cell 0 rfl
 have h1 := hb.cell 1 rfl
 have h2 := hb.cell 2 rfl
 have h3 := hb.cell 3 rfl
 simp only [Array.getD_eq_getD_getElem?] at hc
 simp [results, Tryz.results21, go_sem, hc, h0, h1, h2, h3, Result.andThen]

set_option maxRecDepth 100000 in
set_option maxHeartbeats 4000000 in
theorem implDeterminizeLts_any (lo : Nat) (t : Lts) (lv ev : Value) (w : World) (hsh : Short20 t.labels) (hl : SliceK 1 encS lo w lv t.labels) (he : SliceK 3 encE lo w ev t.edges) (g : Glob w) :
  Calls Tryz.prog 21 #[.agg #[.int .i64 t.states, .int .i64 t.initial, lv, ev]] w (RetDet t w) := by
 obtain ⟨tb, htb⟩ : ∃ tb, tb = w.heap.size := ⟨_, rfl⟩
 obtain ⟨wA, hwA⟩ : ∃ wA, wA = (w.alloc (.cells #[.int .i64 t.states, .int .i64 t.initial, lv, ev] 29)).alloc (.cells #[.int .i64 0, .int .i64 0, .slice none 0 0, .slice none 0 0] 29) := ⟨_, rfl⟩
 have hbA : Below w.heap.size w wA := by rw [hwA]; exact ((Below.refl _ _).alloc (Nat.le_refl _) _).alloc (by simp) _
 have hT : Blk wA tb [.int .i64 t.states, .int .i64 t.initial, lv, ev] 29 := by rw [hwA, htb]; exact (Blk.new w _ _).alloc _
 have hR : Blk wA (tb + 1) [.int .i64 0, .int .i64 0, .slice none 0 0, .slice none 0 0] 29 := by
  have := Blk.new (w.alloc (.cells #[.int .i64 t.states, .int .i64 t.initial, lv, ev] 29)) [.int .i64 0, .int .i64 0, .slice none 0 0, .slice none 0 0] 29
  rw [World.size_alloc, ← htb] at this
  rw [hwA]
  exact this
 have HSH := Lib.hid hsh
 have HL := Lib.hid (hl.below hbA)
 have HE := Lib.hid (he.below hbA)
 have HG := Lib.hid (g.below hbA)
 have HBA := Lib.hid hbA
 have HT := Lib.hid hT
 have HR := Lib.hid hR
 have HWA := Lib.hid hwA
 have HTB := Lib.hid htb
 have hsW : w.heap.size ≤ wA.heap.size := hbA.size
 have hle : w.heap.size ≤ tb + 1 := by rw [htb]; omega
 skip
 clear hsh hl he g hwA hbA hT hR htb
 by_cases hv : Valid t
 ·have HV := Lib.hid hv
  have HVA : Hid (Calls Tryz.prog 42 #[.agg #[.int .i64 t.states, .int .i64 t.initial, lv, ev]] wA fun e w' => e = .returned (.bool true) ∧ Below wA.heap.size wA w') := Valid_yes hv HSH.out HL.out HE.out HG.out
  clear hv
  go_enter Tryz.func21, Tryz.ntmps21
  go_wp2_with fail
  rw [← HWA.out]
  refine Calls.mono HVA.out ?_
  rintro e w1 ⟨rfl, hb1⟩
  have HB1 := Lib.hid hb1
  have HR1 := Lib.hid (HR.out.below hb1)
  have HT1 := Lib.hid (HT.out.below hb1)
  have t0 := HT1.out.cell 0 rfl
  have t1 := HT1.out.cell 1 rfl
  have t2 := HT1.out.cell 2 rfl
  have t3 := HT1.out.cell 3 rfl
  have HD : Hid (Calls Tryz.prog 43 #[.agg #[.int .i64 t.states, .int .i64 t.initial, lv, ev]] w1 (RetSets t w1)) := determinize_any lo t lv ev w1 HV.out HSH.out (HL.out.below hb1) (HE.out.below hb1) (HG.out.below hb1)
  clear hb1
  rw [← HTB.out]
  go_wp2_with fail
  refine Calls.mono HD.out ?_
  rintro e w3 ⟨hb3, ⟨hfull, rfl⟩ | ⟨st, lvS, vr, evS, hok, rfl, hmem, hol⟩⟩
  ·obtain ⟨W3, hW3⟩ : ∃ W3, W3 = w3.alloc (.cells #[.int .i64 0, .int .i64 0, .slice none 0 0, .slice none 0 0] 29) := ⟨_, rfl⟩
   have hb4 : Below w3.heap.size w3 W3 := by rw [hW3]; exact (Below.refl _ _).alloc (Nat.le_refl _) _
   have HF := Lib.hid hfull
   have HB4 := Lib.hid (HB1.out.trans ((hb3.trans (hb4.mono hb3.size)).mono HB1.out.size))
   have HR4 := Lib.hid ((HR1.out.below hb3).below hb4)
   have HW3 := Lib.hid hW3
   have r0 := HR4.out.cell 0 rfl
   have r1 := HR4.out.cell 1 rfl
   have r2 := HR4.out.cell 2 rfl
   have r3 := HR4.out.cell 3 rfl
   have s0 := HR4.out.frozen 0
   have s1 := HR4.out.frozen 1
   have s2 := HR4.out.frozen 2
   have s3 := HR4.out.frozen 3
   rw [hW3] at r0 r1 r2 r3 s0 s1 s2 s3
   clear hfull hb3 hb4 hW3 t0 t1 t2 t3
   go_wp2
   rw [← HW3.out]
   refine bodyPost_ret (idet_results rfl ((((HR4.out.set 0 _).set 1 _).set 2 _).set 3 _)) rfl ?_
   exact det_none (((((HBA.out.trans (HB4.out.mono hsW)).setCell hle _).setCell hle _).setCell hle _).setCell hle _) (.inr (.inl ⟨HV.out, HF.out, rfl, rfl, rfl⟩))
  ·obtain ⟨la, lc, rfl, -, -⟩ := owns_slice hol
   obtain ⟨ea, ec, rfl, -, -⟩ := owns_slice hmem.2
   obtain ⟨⟨vs, hiv⟩, hme⟩ := hmem
   obtain ⟨R, hRR⟩ : ∃ R, R = st.rows.length := ⟨_, rfl⟩
   obtain ⟨LN, hLN⟩ : ∃ LN, LN = t.labels.length := ⟨_, rfl⟩
   obtain ⟨EN, hEN⟩ : ∃ EN, EN = st.edges.length := ⟨_, rfl⟩
   have HME := Lib.hid hme
   have HML := Lib.hid hol
   rw [← hLN] at HML
   rw [← hEN] at HME
   rw [← hRR, ← hLN, ← hEN]
   obtain ⟨W3, hW3⟩ : ∃ W3, W3 = w3.alloc (.cells #[.int .i64 R, .int .i64 0, .slice la LN lc, .slice ea EN ec] 29) := ⟨_, rfl⟩
   have hb4 : Below w3.heap.size w3 W3 := by rw [hW3]; exact (Below.refl _ _).alloc (Nat.le_refl _) _
   have hX : Blk W3 w3.heap.size [.int .i64 R, .int .i64 0, .slice la LN lc, .slice ea EN ec] 29 := by rw [hW3]; exact Blk.new _ _ _
   have HOK := Lib.hid hok
   have HB4 := Lib.hid (HB1.out.trans ((hb3.trans (hb4.mono hb3.size)).mono HB1.out.size))
   have HR4 := Lib.hid ((HR1.out.below hb3).below hb4)
   have HW3 := Lib.hid hW3
   have HRR := Lib.hid hRR
   have HLN := Lib.hid hLN
   have HEN := Lib.hid hEN
   have hss := Nat.le_trans hsW HB1.out.size
   have HME4 := Lib.hid (own_lower (owns_below HME.out hb4) hss)
   have HML4 := Lib.hid (own_lower (owns_below HML.out hb4) hss)
   have HIV4 := Lib.hid ((hiv.below hb4).lower hss)
   have r0 := HR4.out.cell 0 rfl
   have r1 := HR4.out.cell 1 rfl
   have r2 := HR4.out.cell 2 rfl
   have r3 := HR4.out.cell 3 rfl
   have s0 := HR4.out.frozen 0
   have s1 := HR4.out.frozen 1
   have s2 := HR4.out.frozen 2
   have s3 := HR4.out.frozen 3
   rw [hW3] at r0 r1 r2 r3 s0 s1 s2 s3
   clear hok hb3 hb4 hW3 t0 t1 t2 t3 hme hiv hol hRR hLN hEN HME HML hX
   go_wp2
   rw [← HW3.out]
   refine bodyPost_ret (idet_results rfl ((((HR4.out.set 0 _).set 1 _).set 2 _).set 3 _)) rfl ?_
   refine ⟨((((HBA.out.trans (HB4.out.mono hsW)).setCell hle _).setCell hle _).setCell hle _).setCell hle _, dSys t st, st.rows, 0, .slice la LN lc, .slice ea EN ec, vr, vs, by rw [HRR.out]; rfl, .inr (.inr ⟨HV.out, st, HOK.out, rfl, rfl, rfl⟩), ⟨?_, ?_⟩, ?_⟩
   ·show World.ownsRow _ _ _ _ _ t.labels.length _
    rw [← HLN.out]; exact own4 HR4.out HML4.out (by decide)
   ·show World.ownsRow _ _ _ _ _ st.edges.length _
    rw [← HEN.out]; exact own4 HR4.out HME4.out (by decide)
   ·exact (((HIV4.out.set1 HR4.out (by decide) (by decide) 0 _).set1 (HR4.out.set 0 _) (by decide) (by decide) 1 _).set1 ((HR4.out.set 0 _).set 1 _) (by decide) (by decide) 2 _).set1 (((HR4.out.set 0 _).set 1 _).set 2 _) (by decide) (by decide) 3 _
 ·have HV := Lib.hid hv
  have HVA : Hid (Calls Tryz.prog 42 #[.agg #[.int .i64 t.states, .int .i64 t.initial, lv, ev]] wA fun e w' => e = .returned (.bool false) ∧ Below wA.heap.size wA w') := Valid_no hv HSH.out HL.out HE.out HG.out
  clear hv
  go_enter Tryz.func21, Tryz.ntmps21
  go_wp2_with fail
  rw [← HWA.out]
  refine Calls.mono HVA.out ?_
  rintro e w1 ⟨rfl, hb1⟩
  have HB1 := Lib.hid hb1
  have HR1 := Lib.hid (HR.out.below hb1)
  have r0 := HR1.out.cell 0 rfl
  have r1 := HR1.out.cell 1 rfl
  have r2 := HR1.out.cell 2 rfl
  have r3 := HR1.out.cell 3 rfl
  have s0 := HR1.out.frozen 0
  have s1 := HR1.out.frozen 1
  have s2 := HR1.out.frozen 2
  have s3 := HR1.out.frozen 3
  clear hb1
  rw [← HTB.out]
  go_wp2
  refine bodyPost_ret (idet_results rfl ((((HR1.out.set 0 _).set 1 _).set 2 _).set 3 _)) rfl ?_
  exact det_none (((((HBA.out.trans (HB1.out.mono hsW)).setCell hle _).setCell hle _).setCell hle _).setCell hle _) (.inl ⟨HV.out, rfl, rfl, rfl⟩)

end Go.Proofs.YtodojigmhlkpeaaGreatDoor
