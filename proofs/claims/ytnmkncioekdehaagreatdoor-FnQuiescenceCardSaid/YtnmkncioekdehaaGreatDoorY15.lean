/-
  The reference's drawer of names of inputs.
  What states offer, stable states. Plain.
  Two deterministic systems that take the same labels: the first trace on which they differ. Plain definitions; no program in sight.
  The system with the observations that there is no output. Plain.
  The system that stands for a draw which is not allowed: it is. Plain.
  The reference's l11Actions.
  The reference's name of a label.
  The reference's l28Is.
  The library's slices.IndexFunc and slices.ContainsFunc at a slice of texts, with a function that may lay blocks of its own.
  The library's slices.IndexFunc and slices.ContainsFunc at a slice of numbers, with a function that may lay blocks of its own.
  The library's slices.DeleteFunc at a row of numbers of the call's own, with a function that may lay blocks of its own.
-/
import Derived.Test.YtnmkncioekdehaaGreatDoorY1
import Derived.Test.YtnmkncioekdehaaGreatDoorY7
import Derived.Test.YtnmkncioekdehaaGreatDoorY5
import Derived.Maps.AppendAt
import Derived.Test.YtnmkncioekdehaaGreatDoorY6
import Derived.ArgAppend
import Derived.Deep.AppendLies
import Derived.Test.YtnmkncioekdehaaGreatDoorY3
import Derived.Maps.OwnOps
import Derived.Test.YtnmkncioekdehaaGreatDoorY9
import Derived.Lib.ItoaNum
import Derived.Lib.ItoaLen
import Derived.Deep.RegionLaw
import Derived.Test.YtnmkncioekdehaaGreatDoorY8
import Derived.Test.YtnmkncioekdehaaGreatDoorY2
import Derived.Test.YtnmkncioekdehaaGreatDoorProg
namespace Go.Proofs.YtnmkncioekdehaaGreatDoor
open Go Go.RowKit

def dInGet : ByteArray := ⟨#[103, 101, 116]⟩
def dInPut : ByteArray := ⟨#[112, 117, 116]⟩
def dInDelta : ByteArray := ⟨#[100, 101, 108, 116, 97]⟩
def dInCap : ByteArray := ⟨#[65]⟩
def dInZz : ByteArray := ⟨#[122, 122]⟩
def dInL : List ByteArray := [nmA, nmB, dInGet, dInPut]
def dInX : List ByteArray := [dInDelta, nmT, nmA, dInCap, dInZz]
def dInAll : List ByteArray := dInL ++ dInX
theorem dInAll_short : ∀ l ∈ dInAll, l.size ≤ 6 := by decide

set_option maxRecDepth 100000 in
set_option maxHeartbeats 1000000 in
theorem drawInputs_any (sb n : Nat) (w : World) (hs : Src sb n w) (hn : n ≤ 999990000) :
  Calls Tryz.prog 15 #[.pointer (some ⟨sb, 0, none⟩)] w fun e w' => ∃ (v : Value) (ls : List ByteArray), e = .returned v ∧ Drew sb (n + 12) w w' ∧ OwnStrs w.heap.size w' v ls ∧ ls.length ≤ 5 ∧ ∀ l ∈ ls, l ∈ dInAll := by
 obtain ⟨i0, hi0, hz0, hz1, hz2⟩ := info_parts info_strD
 have hsb := hs.lt
 obtain ⟨lb, hlb⟩ : ∃ lb, lb = w.heap.size + 1 := ⟨_, rfl⟩
 obtain ⟨W, hW⟩ : ∃ W, W = (w.alloc (.cells #[] 9)).alloc (.cells #[.string nmA, .string nmB, .string dInGet, .string dInPut] 9) := ⟨_, rfl⟩
 have HD0 : Hid (Drew sb n w W) := by unfold Hid; rw [hW]; exact ((Drew.refl hs).alloc _).alloc _
 have HO0 : Hid (OwnStrs w.heap.size W (.slice (some ⟨w.heap.size, 0, none⟩) 0 0) []) := by unfold Hid; rw [hW]; exact (strs_lit (w := w) (xs := []) rfl (by decide)).below ((Below.refl _ _).alloc (Nat.le_refl _) _)
 have HL0 : Hid (Blk W lb (txts dInL) 9) := by
  have h := Blk.new (w.alloc (.cells #[] 9)) (txts dInL) 9
  rw [World.size_alloc, ← hlb] at h
  unfold Hid
  rw [hW]
  exact h
 have HW : Hid (W = (w.alloc (.cells #[] 9)).alloc (.cells #[.string ⟨#[97]⟩, .string ⟨#[98]⟩, .string ⟨#[103, 101, 116]⟩, .string ⟨#[112, 117, 116]⟩] 9)) := hW
 have HLB := Lib.hid hlb
 clear hs hW hlb
 go_enter Tryz.func15, Tryz.ntmps15
 go_wp2_with fail
 rw [← HW.out]
 rw [← HLB.out]
 go_loopw [3, 5] (fun v3 v5 wr => ∃ (k : Nat) (ls : List ByteArray) (g c : Nat), k ≤ 4 ∧ v3 = .slice (some ⟨g, 0, none⟩) ls.length c ∧ v5 = .int .i64 k ∧ Drew sb (n + 2 * k) w wr ∧ OwnStrs w.heap.size wr (.slice (some ⟨g, 0, none⟩) ls.length c) ls ∧ Blk wr lb (txts dInL) 9 ∧ g ≠ lb ∧ ls.length ≤ k ∧ ∀ l ∈ ls, l ∈ dInAll) (fun _ v5 _ => 4 - (intOf v5).toNat)
 case atStart => exact ⟨0, [], w.heap.size, 0, Nat.zero_le _, rfl, rfl, HD0.out, HO0.out, HL0.out, by rw [HLB.out]; omega, by simp, fun l hl => by cases hl⟩
 case round =>
  clear HD0 HO0 HL0
  obtain ⟨k, ls, g, c, hk, rfl, rfl, hd, ho, hl, hgl, hlk, hmem⟩ := hrel
  obtain ⟨wC, rfl⟩ : ∃ wC : World, wC = wr := ⟨_, rfl⟩
  have HD := Lib.hid hd
  have HO := Lib.hid ho
  have HL := Lib.hid hl
  have HM := Lib.hid hmem
  have HGL := Lib.hid hgl
  have hszC : w.heap.size ≤ wC.heap.size := hd.size
  clear hd ho hl hmem hgl
  by_cases hlt : k < 4
  ·have hk5 : k < dInL.length := hlt
   have HONE := Lib.hid (one_any sb (n + 2 * k) 2 wC HD.out.2 (by omega) (by decide))
   go_wp2_with fail
   refine Calls.mono HONE.out ?_
   rintro e w1 ⟨b, rfl, hd1⟩
   have HD1 : Hid (Drew sb (n + 2 * (k + 1)) w w1) := (HD.out.trans hd1).mono (by omega)
   have HO1 : Hid (OwnStrs w.heap.size w1 (.slice (some ⟨g, 0, none⟩) ls.length c) ls) := hd1.own HO.out hsb
   have HL1 : Hid (Blk w1 lb (txts dInL) 9) := hd1.blk HL.out (by rw [HLB.out]; omega)
   have hsz1 : w.heap.size ≤ w1.heap.size := HD1.out.size
   have c1 := txt_cell HL1.out hk5
   obtain ⟨x, hx⟩ : ∃ x, x = dInL[k] := ⟨_, rfl⟩
   rw [← hx] at c1
   have HX : Hid (x ∈ dInAll) := by unfold Hid dInAll; rw [hx]; exact List.mem_append_left _ (List.getElem_mem hk5)
   clear hd1 HONE hx HD HO HL hk5
   cases b
   ·go_wp2
    go_roundw
    case rel => exact ⟨k + 1, ls, g, c, by omega, rfl, by go_num, HD1.out, HO1.out, HL1.out, HGL.out, by omega, HM.out⟩
    case measure => simp [intOf]; omega
   ·go_wp2_with (at_builtin; refine wpList_append_lies _ rfl _ _ 24 rfl w.heap.size 9 i0 (.string ⟨#[]⟩) 1 16 Tryz.underlying24 hi0 hz0 hz1 hz2 rfl (by decide) _ _ _ rfl (HO1.out.alloc _) ⟨w1.heap.size, 0, none⟩ 1 1 [.string x] rfl rfl ?c1 ?c2 ?c3 ?c4 ?c5 ?c6 _ rfl ?_)
    case c1 => exact World.news_of_block (cs := #[.string x]) (t := 9) (fr := (0, 0)) (heap_alloc_new _ _)
    case c2 => intro u hu; simp at hu; subst hu; rfl
    case c3 => omega
    case c4 => simp [maxLen]; omega
    case c5 => omega
    case c6 => simp; omega
    intro g3 cap3 w3 ho3 hg3 hat3 hlt3
    have HD3 : Hid (Drew sb (n + 2 * (k + 1)) w w3) := (HD1.out.alloc _).grown hg3 (fun j e => (HO1.out.lt j e).1) hsb
    have HL3 : Hid (Blk w3 lb (txts dInL) 9) := (HL1.out.alloc _).far hg3 (fun e => HGL.out (Option.some.inj e))
    have HO3 : Hid (OwnStrs w.heap.size w3 (.slice (some ⟨g3, 0, none⟩) (ls ++ [x]).length cap3) (ls ++ [x])) := by
     unfold Hid OwnStrs txts
     rw [List.map_append, List.length_append]
     exact ho3
    have HG3 : Hid (g3 ≠ lb) := by
     rcases hat3 with e | e
     ·have : g = g3 := Option.some.inj e
      unfold Hid
      rw [← this]
      exact HGL.out
     ·unfold Hid
      have := HL1.out.lt
      rw [e]
      omega
    clear ho3 hg3 hat3 hlt3
    go_wp2
    go_roundw
    case rel => exact ⟨k + 1, ls ++ [x], g3, cap3, by omega, by simp, by go_num, HD3.out, HO3.out, HL3.out, HG3.out, by simp; omega, fun l hl => by
     rcases List.mem_append.1 hl with h | h
     ·exact HM.out l h
     ·rw [List.mem_singleton] at h; rw [h]; exact HX.out⟩
    case measure => simp [intOf]; omega
  ·have HONE := Lib.hid (one_any sb (n + 2 * k) 20 wC HD.out.2 (by omega) (by decide))
   go_wp2_with fail
   refine Calls.mono HONE.out ?_
   rintro e w1 ⟨b, rfl, hd1⟩
   have HD1 : Hid (Drew sb (n + 10) w w1) := (HD.out.trans hd1).mono (by omega)
   have HO1 : Hid (OwnStrs w.heap.size w1 (.slice (some ⟨g, 0, none⟩) ls.length c) ls) := hd1.own HO.out hsb
   have hsz1 : w.heap.size ≤ w1.heap.size := HD1.out.size
   clear hd1 HONE HD HO HL
   cases b
   ·go_wp2
    go_ret
    exact ⟨_, ls, rfl, HD1.out.mono (by omega), HO1.out, by omega, HM.out⟩
   ·obtain ⟨W5, hW5⟩ : ∃ W5, W5 = w1.alloc (.cells #[.string dInDelta, .string nmT, .string nmA, .string dInCap, .string dInZz] 9) := ⟨_, rfl⟩
    have HX5 : Hid (SliceK 1 encS w1.heap.size W5 (.slice (some ⟨w1.heap.size, 0, none⟩) 5 5) dInX) := by
     have h := strs_lit (w := w1) (xs := dInX) (cs := #[.string dInDelta, .string nmT, .string nmA, .string dInCap, .string dInZz]) rfl (by decide)
     unfold Hid
     rw [hW5]
     exact SliceK.of_owns (enc := encS) (e := 9) encS_len rfl (by rw [flat_encS]; exact h)
    have HD5 : Hid (Drew sb (n + 10) w W5) := by unfold Hid; rw [hW5]; exact HD1.out.alloc _
    have HO5 : Hid (OwnStrs w.heap.size W5 (.slice (some ⟨g, 0, none⟩) ls.length c) ls) := by unfold Hid; rw [hW5]; exact HO1.out.alloc _
    have HTX := Lib.hid (textOf_any sb (n + 10) w1.heap.size _ dInX W5 HD5.out.2 (by omega) HX5.out (by omega) (by decide) (by decide))
    have HW5 : Hid (W5 = w1.alloc (.cells #[.string ⟨#[100, 101, 108, 116, 97]⟩, .string ⟨#[116, 97, 117]⟩, .string ⟨#[97]⟩, .string ⟨#[65]⟩, .string ⟨#[122, 122]⟩] 9)) := hW5
    clear hW5 HD1 HO1
    go_wp2_with fail
    rw [← HW5.out]
    refine Calls.mono HTX.out ?_
    rintro e w6 ⟨x, hx, rfl, hd6⟩
    have HD6 := Lib.hid (HD5.out.trans hd6)
    have HO6 : Hid (OwnStrs w.heap.size w6 (.slice (some ⟨g, 0, none⟩) ls.length c) ls) := hd6.own HO5.out hsb
    have hsz6 : w.heap.size ≤ w6.heap.size := HD6.out.size
    have HXM : Hid (x ∈ dInAll) := List.mem_append_right _ hx
    clear hd6 hx HTX HD5 HO5 HX5
    go_wp2_with (at_builtin; refine wpList_append_own _ rfl _ _ 24 rfl w.heap.size 9 i0 (.string ⟨#[]⟩) 1 16 Tryz.underlying24 hi0 hz0 hz1 hz2 rfl (by decide) _ _ _ rfl (HO6.out.alloc _) ⟨w6.heap.size, 0, none⟩ 1 1 [.string x] rfl rfl ?c1 ?c2 ?c3 ?c4 ?c5 ?_)
    case c1 => exact World.news_of_block (cs := #[.string x]) (t := 9) (fr := (0, 0)) (heap_alloc_new _ _)
    case c2 => intro u hu; simp at hu; subst hu; rfl
    case c3 => simp [maxLen]; omega
    case c4 => omega
    case c5 => simp; omega
    intro v3 w7 ho7 hg7 _
    have HD7 : Hid (Drew sb (n + 12) w w7) := ((HD6.out.alloc _).grown hg7 (fun j e => (HO6.out.lt j e).1) hsb).mono (by omega)
    have HO7 : Hid (OwnStrs w.heap.size w7 v3 (ls ++ [x])) := by
     unfold Hid OwnStrs txts
     rw [List.map_append, List.length_append]
     exact ho7
    clear ho7 hg7
    go_wp2
    go_ret
    exact ⟨v3, ls ++ [x], rfl, HD7.out, HO7.out, by simp; omega, fun l hl => by
     rcases List.mem_append.1 hl with h | h
     ·exact HM.out l h
     ·rw [List.mem_singleton] at h; rw [h]; exact HXM.out⟩

end Go.Proofs.YtnmkncioekdehaaGreatDoor

namespace Go.Proofs.YtnmkncioekdehaaGreatDoor
open Go Go.RowKit


/-- The labels of the edges from a state. -/
def rdy (t : Lts) (k : Int) : List ByteArray := labSet ((outOf t k).map (labAt t))
theorem lab_tau {t : Lts} (hv : Valid t) {e : Edge} (he : e ∈ t.edges) : labAt t e = tauT ↔ e.lab = 0 := by
 obtain ⟨i, hi, rfl⟩ := List.mem_iff_getElem.1 he
 have hok := hv.edge i hi
 obtain ⟨hlt, hl⟩ := labAt_idx hok
 obtain ⟨h0, ht⟩ := tau_first hv
 rw [hl]
 constructor
 ·intro h
  have := labels_inj hv.labels _ 0 hlt h0 (by rw [h, ht])
  have := hok.l0
  omega
 ·intro h
  have e0 : t.edges[i].lab.toNat = 0 := by omega
  rw [← ht]
  congr 1
end Go.Proofs.YtnmkncioekdehaaGreatDoor

namespace Go.Proofs.YtnmkncioekdehaaGreatDoor
open Go Go.RowKit


/-- What both searches look for: a trace of b that is none of a; with 'both', one of a that is none of b too. -/
def apart (both : Bool) (p : Int × Int) : Prop := (p.1 < 0 ∧ 0 ≤ p.2) ∨ (both = true ∧ 0 ≤ p.1 ∧ p.2 < 0)
end Go.Proofs.YtnmkncioekdehaaGreatDoor

namespace Go.Proofs.YtnmkncioekdehaaGreatDoor
open Go Go.RowKit


def deltaB : List UInt8 := [100, 101, 108, 116, 97]
def deltaT : ByteArray := ⟨#[100, 101, 108, 116, 97]⟩
theorem deltaT_list : deltaT.toList = deltaB := by rw [Lib.toList_data]; rfl
theorem deltaT_name : labName deltaT = deltaB := by unfold labName; decide
/-- A system and names of inputs. -/
structure IfOk (t : Lts) (ins : List ByteArray) : Prop where
 valid : Valid t
 acts : ∀ i (h : i < ins.length), isAction ins[i].data.toList = true
 rise : ∀ i (h : i + 1 < ins.length), strLess ins[i] ins[i + 1] = true
 nodelta : ∀ s ∈ ins, s.toList ≠ deltaB
 names : ∀ l ∈ t.labels, labName l ≠ deltaB
theorem IfOk.free {t : Lts} {ins : List ByteArray} (h : IfOk t ins) : deltaT ∉ t.labels := fun hm => h.names _ hm deltaT_name
/-- A label is no input: it is an output, or tau. -/
def outB (ins : List ByteArray) (l : ByteArray) : Bool := !(ins.any fun s => s.toList == labName l)
/-- No edge from a state bears tau or an output. -/
def quietB (t : Lts) (ins : List ByteArray) (k : Int) : Bool := t.edges.all fun e => !((e.src == k) && (e.lab == 0 || outB ins (labAt t e)))
def quiets (t : Lts) (ins : List ByteArray) : List Int := (upI t.states.toNat).filter (quietB t ins)
theorem quiets_len (t : Lts) (ins : List ByteArray) : (quiets t ins).length ≤ t.states.toNat := by
 unfold quiets
 refine Nat.le_trans (List.length_filter_le _ _) ?_
 rw [upI_len]
 exact Nat.le_refl _
def susArcs (t : Lts) (ins : List ByteArray) : List Arc := t.edges.map (arcOf t) ++ (quiets t ins).map fun k => ⟨k, deltaT, k⟩
def susL (t : Lts) : List ByteArray := labSet (tauT :: (t.labels ++ [deltaT]))
def susT (t : Lts) (ins : List ByteArray) : Lts := ⟨t.states, t.initial, susL t, sortEs ((susArcs t ins).map (edgeIn (susL t)))⟩
theorem susL_mem {t : Lts} (l : ByteArray) : l ∈ susL t ↔ l = tauT ∨ l ∈ t.labels ∨ l = deltaT := by
 unfold susL
 rw [(labSet_is _).2]
 simp
theorem idxL_inj {L : List ByteArray} {a b : ByteArray} (ha : a ∈ L) (hb : b ∈ L) (h : idxL L a = idxL L b) : a = b := by
 obtain ⟨h1, e1, -⟩ := idxL_get ha
 obtain ⟨h2, e2, -⟩ := idxL_get hb
 rw [← e1, ← e2]
 congr 1
theorem upI_nodup (n : Nat) : (upI n).Nodup := by
 unfold upI
 rw [List.nodup_iff_pairwise_ne, List.pairwise_map]
 refine (List.nodup_iff_pairwise_ne.1 (List.nodup_range (n := n))).imp ?_
 intro a b h e
 exact h (by omega)
theorem lab_mem {t : Lts} (hv : Valid t) {e : Edge} (he : e ∈ t.edges) : labAt t e ∈ t.labels := by
 obtain ⟨i, hi, rfl⟩ := List.mem_iff_getElem.1 he
 obtain ⟨hk, hl⟩ := labAt_idx (hv.edge i hi)
 rw [hl]
 exact List.getElem_mem _
theorem arcs_in {t : Lts} (hv : Valid t) (ins : List ByteArray) : ∀ a ∈ susArcs t ins, a.lab ∈ susL t := by
 intro a ha
 rw [susL_mem]
 unfold susArcs at ha
 rcases List.mem_append.1 ha with ha | ha
 ·obtain ⟨e, he, rfl⟩ := List.mem_map.1 ha
  exact .inr (.inl (lab_mem hv he))
 ·obtain ⟨k, -, rfl⟩ := List.mem_map.1 ha
  exact .inr (.inr rfl)
theorem sus_less {t : Lts} (hv : Valid t) {i : Nat} : ∀ {j : Nat}, i < j → ∀ (hi : i < t.edges.length) (hj : j < t.edges.length), edgeLess t.edges[i] t.edges[j] = true := by
 intro j hij
 induction j with
 | zero => omega
 | succ j ih =>
  intro hi hj
  by_cases e : i = j
  ·subst e; exact hv.rise i hj
  ·exact edgeLess_trans _ _ _ (ih (by omega) hi (by omega)) (hv.rise j hj)
theorem sus_nodup {t : Lts} {ins : List ByteArray} (h : IfOk t ins) : ((susArcs t ins).map (edgeIn (susL t))).Nodup := by
 have hv := h.valid
 have hmem := arcs_in hv ins
 have hinj : ∀ a ∈ susArcs t ins, ∀ b ∈ susArcs t ins, edgeIn (susL t) a = edgeIn (susL t) b → a = b := by
  intro a ha b hb e
  unfold edgeIn at e
  simp only [Edge.mk.injEq] at e
  obtain ⟨e1, e2, e3⟩ := e
  have e4 := idxL_inj (hmem a ha) (hmem b hb) (by omega)
  cases a; cases b
  simp only at e1 e3 e4
  subst e1 e3 e4
  rfl
 have harcs : (susArcs t ins).Nodup := by
  unfold susArcs
  rw [List.nodup_append]
  refine ⟨?_, ?_, ?_⟩
  ·rw [List.nodup_iff_pairwise_ne, List.pairwise_map]
   rw [List.pairwise_iff_getElem]
   intro i j hi hj hij e
   have h1 := hv.edge i hi
   have h2 := hv.edge j hj
   unfold arcOf at e
   simp only [Arc.mk.injEq] at e
   obtain ⟨e1, e2, e3⟩ := e
   obtain ⟨k1, l1⟩ := labAt_idx h1
   obtain ⟨k2, l2⟩ := labAt_idx h2
   rw [l1, l2] at e2
   have e4 := labels_inj hv.labels _ _ k1 k2 (by rw [e2])
   have hl1 := h1.l0
   have hl2 := h2.l0
   have hlt := sus_less hv hij hi hj
   rw [edgeLess_iff] at hlt
   omega
  ·rw [List.nodup_iff_pairwise_ne, List.pairwise_map]
   have hq : (quiets t ins).Nodup := (upI_nodup _).filter _
   refine (List.nodup_iff_pairwise_ne.1 hq).imp ?_
   intro a b hne e
   simp only [Arc.mk.injEq] at e
   exact hne e.1
  ·intro a ha b hb e
   obtain ⟨x, hx, rfl⟩ := List.mem_map.1 ha
   obtain ⟨k, -, rfl⟩ := List.mem_map.1 hb
   unfold arcOf at e
   simp only [Arc.mk.injEq] at e
   exact h.free (e.2.1 ▸ lab_mem hv hx)
 rw [List.nodup_iff_pairwise_ne, List.pairwise_map]
 refine List.Pairwise.imp_of_mem ?_ (List.nodup_iff_pairwise_ne.1 harcs)
 intro a b ha hb hne e
 exact hne (hinj a ha b hb e)
theorem sortEs_rise {es : List Edge} (h : es.Nodup) : RiseE (sortEs es) := by
 have hs : (sortEs es).Pairwise fun a b => (!edgeLess b a) = true := by
  unfold sortEs
  refine List.pairwise_mergeSort ?_ ?_ _
  ·intro a b c h1 h2
   have k1 : edgeLess b a = false := by simpa using h1
   have k2 : edgeLess c b = false := by simpa using h2
   have : edgeLess c a = false := by
    rw [Bool.eq_false_iff] at k1 k2 ⊢
    intro k
    rw [edgeLess_iff] at k
    rw [ne_eq, edgeLess_iff] at k1 k2
    omega
   simp [this]
  ·intro a b
   cases h1 : edgeLess b a with
   | false => simp
   | true =>
    have : edgeLess a b = false := by
     rw [Bool.eq_false_iff]
     intro k
     have := edgeLess_trans a b a k h1
     rw [edgeLess_irrefl] at this
     cases this
    simp [this]
 have hn : (sortEs es).Nodup := by unfold sortEs; exact (List.mergeSort_perm _ _).nodup_iff.2 h
 unfold RiseE
 refine List.Pairwise.imp₂ ?_ hs (List.nodup_iff_pairwise_ne.1 hn)
 intro a b h1 h2
 have k1 : edgeLess b a = false := by simpa using h1
 cases k2 : edgeLess a b with
 | true => rfl
 | false => exact absurd (edgeLess_tri a b k2 k1) h2
/-- The reference's edges, whose labels are places of the texts. -/
def susEs (t : Lts) (ins : List ByteArray) : List Edge := t.edges ++ (quiets t ins).map fun k => ⟨k, (t.labels.length : Int), k⟩
theorem susEs_mem {t : Lts} {ins : List ByteArray} (hv : Valid t) (x : Edge) : x ∈ (susEs t ins).map (makeE (susL t) (t.labels ++ [deltaT])) ↔ x ∈ (susArcs t ins).map (edgeIn (susL t)) := by
 have h1 : ∀ e ∈ t.edges, makeE (susL t) (t.labels ++ [deltaT]) e = edgeIn (susL t) (arcOf t e) := by
  intro e he
  obtain ⟨i, hi, rfl⟩ := List.mem_iff_getElem.1 he
  obtain ⟨hk, hl⟩ := labAt_idx (hv.edge i hi)
  unfold makeE edgeIn arcOf
  simp only
  rw [List.getD_eq_getElem?_getD, List.getElem?_append_left hk, List.getElem?_eq_getElem hk, Option.getD_some, ← hl, sus_text (by rw [susL_mem]; exact .inr (.inl (lab_mem hv he)))]
 have h2 : ∀ k : Int, makeE (susL t) (t.labels ++ [deltaT]) ⟨k, (t.labels.length : Int), k⟩ = edgeIn (susL t) ⟨k, deltaT, k⟩ := by
  intro k
  unfold makeE edgeIn
  simp only [Int.toNat_natCast]
  rw [List.getD_eq_getElem?_getD, List.getElem?_concat_length, Option.getD_some, sus_text (by rw [susL_mem]; exact .inr (.inr rfl))]
 unfold susEs susArcs
 rw [List.map_append, List.map_append, List.map_map, List.map_map, List.mem_append, List.mem_append]
 have e1 : t.edges.map (makeE (susL t) (t.labels ++ [deltaT])) = t.edges.map (edgeIn (susL t) ∘ arcOf t) := List.map_congr_left h1
 have e2 : (quiets t ins).map (makeE (susL t) (t.labels ++ [deltaT]) ∘ fun k => ⟨k, (t.labels.length : Int), k⟩) = (quiets t ins).map (edgeIn (susL t) ∘ fun k => ⟨k, deltaT, k⟩) := List.map_congr_left fun k _ => h2 k
 rw [e1, e2, List.map_map]
/-- What the reference makes is the system. -/
theorem sus_edges {t : Lts} {ins : List ByteArray} (h : IfOk t ins) {R : List Edge} (hm : MkEdges (susL t) (t.labels ++ [deltaT]) (susEs t ins) R) : R = (susT t ins).edges :=
 rise_same hm.1 (sortEs_rise (sus_nodup h)) fun x => by rw [hm.2.2, susEs_mem h.valid]; exact (sortEs_mem x).symm

end Go.Proofs.YtnmkncioekdehaaGreatDoor

namespace Go.Proofs.YtnmkncioekdehaaGreatDoor
open Go Go.RowKit


def dfT : Lts := ⟨1, 0, [nmT, nmA], [⟨0, 1, 0⟩]⟩
theorem dfT_valid : Valid dfT := by
 refine ⟨by decide, by decide, by decide, by decide, ⟨by decide, by decide, fun h => ?_, fun i h h1 => ?_, fun i h h1 => ?_, fun i h h1 => ?_⟩, by decide, fun i h => ?_, fun i h => ?_⟩
 ·show nmT.toList = tauB
  rw [Lib.toList_data]
  rfl
 ·have h2 : i < 2 := h
  obtain rfl : i = 1 := by omega
  show labelOk nmA.data.toList = true
  decide
 ·have h2 : i < 2 := h
  obtain rfl : i = 1 := by omega
  show nmA.toList ≠ tauB
  rw [Lib.toList_data]
  decide
 ·have h2 : i + 1 < 2 := h
  omega
 ·have h2 : i < 1 := h
  obtain rfl : i = 0 := by omega
  show EdgeOk dfT ⟨0, 1, 0⟩
  exact ⟨by decide, by decide, by decide, by decide, by decide, by decide⟩
 ·have h2 : i + 1 < 1 := h
  omega
theorem dfT_ok : IfOk dfT [] := by
 refine ⟨dfT_valid, fun i h => absurd h (Nat.not_lt_zero _), fun i h => absurd h (Nat.not_lt_zero _), (fun s h => by cases h), fun l hl => ?_⟩
 have h2 : l ∈ [nmT, nmA] := hl
 rcases List.mem_cons.1 h2 with rfl | h2
 ·decide
 ·rw [List.mem_singleton] at h2
  subst h2
  decide

end Go.Proofs.YtnmkncioekdehaaGreatDoor

namespace Go.Proofs.YtnmkncioekdehaaGreatDoor
open Go Go.RowKit

set_option maxRecDepth 100000 in
set_option maxHeartbeats 1000000 in
theorem l11Actions_any (lo : Nat) (v : Value) (ss : List ByteArray) (w : World) (hv : SliceK 1 encS lo w v ss) : Calls Tryz.prog 32 #[v] w (Decides (∀ i (h : i < ss.length), isAction ss[i].data.toList = true) w) := by
 obtain ⟨a, cap, rfl, hn, hcap, hrow⟩ := hv
 go_enter Tryz.func32, Tryz.ntmps32
 go_wp2
 go_loopw [3] (fun i wr => ∃ k : Nat, k ≤ ss.length ∧ i = .int .i64 k ∧ Below w.heap.size w wr ∧ (∀ j (h : j < ss.length), j < k → isAction ss[j].data.toList = true)) (fun i _ => ss.length - (intOf i).toNat)
 case atStart => exact ⟨0, Nat.zero_le _, rfl, Below.refl _ _, fun _ _ h => by omega⟩
 case round =>
  obtain ⟨k, hk, rfl, hbl, hx1⟩ := hrel
  have HX1 := Lib.hid hx1
  have HBL := Lib.hid hbl
  have hsz := hbl.size
  clear hx1
  by_cases hlt : k < ss.length
  ·obtain ⟨b, o, rfl, -, hb, c⟩ := (hrow.below hbl).one hlt
   simp only [encS, List.getElem?_cons_zero] at c
   clear hrow hbl
   have HC := Lib.hid (l01Action_any ss[k] wr)
   cases hA : isAction ss[k].data.toList
   ·have HA := Lib.hid hA
    rw [hA] at HC
    clear hA
    go_wp2_with fail
    refine Calls.mono HC.out ?_
    rintro e w' ⟨rfl, rfl⟩
    go_wp2_with fail
    go_ret
    refine ⟨false, rfl, ⟨(fun h => by cases h), fun h => ?_⟩, HBL.out⟩
    have := h k hlt
    rw [HA.out] at this
    cases this
   ·have HA := Lib.hid hA
    rw [hA] at HC
    clear hA
    go_wp2_with fail
    refine Calls.mono HC.out ?_
    rintro e w' ⟨rfl, rfl⟩
    go_wp2_with fail
    go_roundw
    case rel => exact ⟨k + 1, by omega, by go_num, HBL.out, fun j h h' => by
      by_cases e : j = k
      ·subst e; exact HA.out
      ·exact HX1.out j h (by omega)⟩
    case measure => simp [intOf]; omega
  ·clear hrow hbl
   go_wp2
   go_ret
   exact ⟨true, rfl, ⟨fun _ i h => HX1.out i h (by omega), fun _ => rfl⟩, HBL.out⟩

end Go.Proofs.YtnmkncioekdehaaGreatDoor

namespace Go.Proofs.YtnmkncioekdehaaGreatDoor
open Go Go.RowKit

theorem l01LabelName_any (s : ByteArray) (w : World) (hs : s.size ≤ 1073741824) : Calls Tryz.prog 33 #[.string s] w fun e w' => e = .returned (.string (s.extract 0 (openAt s.data.toList))) ∧ w = w' := by
 have hle := openAt_le s.data.toList
 rw [len_data] at hle
 have HL := Lib.hid hle
 go_enter Tryz.func33, Tryz.ntmps33
 go_wp2_with fail
 refine (l01Open_any s _ hs).mono ?_
 rintro e w' ⟨rfl, rfl⟩
 obtain ⟨n, hn⟩ : ∃ n, n = openAt s.data.toList := ⟨_, rfl⟩
 rw [← hn] at hle ⊢
 have HN := Lib.hid hn
 clear hn
 go_wp2_with fail
 go_ret
 exact ⟨by rw [← HN.out]; rfl, rfl⟩

end Go.Proofs.YtnmkncioekdehaaGreatDoor

namespace Go.Proofs.YtnmkncioekdehaaGreatDoor
open Go Go.RowKit


theorem name_ext (l : ByteArray) : (l.extract 0 (openAt l.data.toList)).toList = labName l := by
 unfold labName; rw [Lib.toList_data, extract_data']; simp
theorem deltaB_eq : deltaB = [100, 101, 108, 116, 97] := rfl
set_option maxRecDepth 100000 in
set_option maxHeartbeats 4000000 in
theorem l28Is_any (p lo : Nat) (t : Lts) (v : Value) (ins : List ByteArray) (w : World) (hsh : Short t.labels) (hp : LtsPtr lo w p t) (hi : SliceK 1 encS lo w v ins) : Calls Tryz.prog 16 #[.pointer (some ⟨p, 0, none⟩), v] w (Decides (IfOk t ins) w) := by
 have HVL := l11Is_any p lo t w hsh hp
 have HI := Lib.hid hi
 have HP := Lib.hid hp
 have HSH := Lib.hid hsh
 obtain ⟨a, cap, rfl, hn, hcap, hrow⟩ := hi
 by_cases hv : Valid t
 ·have HV := Lib.hid hv
  have HVA := Lib.hid (Decides.yes HVL hv)
  clear hv HVL
  by_cases hact : ∀ i (h : i < ins.length), isAction ins[i].data.toList = true
  ·have HACT := Lib.hid hact
   clear hact
   go_enter Tryz.func16, Tryz.ntmps16
   go_wp2_with fail
   refine Calls.mono HVA.out ?_
   rintro e w1 ⟨rfl, hb1⟩
   have HB1 := Lib.hid hb1
   have HC := Lib.hid (Decides.yes (l11Actions_any lo _ ins w1 (HI.out.below hb1)) HACT.out)
   clear hb1 HVA
   go_wp2_with fail
   refine Calls.mono HC.out ?_
   rintro e w2 ⟨rfl, hb2⟩
   have HB2 := Lib.hid (HB1.out.trans (hb2.mono HB1.out.size))
   have hrow1 := Lib.hid (hrow.below HB2.out)
   have HP2 := Lib.hid (HP.out.below HB2.out)
   clear hb2 hrow HC
   go_wp2
   go_loopw [5] (fun i wr => ∃ k : Nat, k ≤ ins.length ∧ i = .int .i64 k ∧ Below w2.heap.size w2 wr ∧ (∀ j (h : j < ins.length), j < k → (ins[j].toList == [100, 101, 108, 116, 97]) = false) ∧ (∀ j (h : j + 1 < ins.length), j + 1 < k → strLess ins[j] ins[j + 1] = true)) (fun i _ => ins.length - (intOf i).toNat)
   case atStart => exact ⟨0, Nat.zero_le _, rfl, Below.refl _ _, fun _ _ h => by omega, fun _ _ h => by omega⟩
   case round =>
    obtain ⟨k, hk, rfl, hbl, hx1, hx2⟩ := hrel
    have HX1 := Lib.hid hx1
    have HX2 := Lib.hid hx2
    have HBL := Lib.hid hbl
    have hsz := hbl.size
    clear hx1 hx2
    by_cases hlt : k < ins.length
    ·obtain ⟨b, o, rfl, -, hb, c⟩ := (hrow1.out.below hbl).one hlt
     simp only [encS, List.getElem?_cons_zero] at c
     have s1 := later_cell hb c
     obtain ⟨x, hx⟩ : ∃ x, x = ins[k] := ⟨_, rfl⟩
     rw [← hx] at s1
     have HX := Lib.hid hx
     cases hdl : (x.toList == [100, 101, 108, 116, 97])
     ·have HDL := Lib.hid hdl
      have HN1 : Hid (∀ j (h : j < ins.length), j < k + 1 → (ins[j].toList == [100, 101, 108, 116, 97]) = false) := fun j h h' => by
       by_cases e : j = k
       ·subst e; rw [← HX.out]; exact HDL.out
       ·exact HX1.out j h (by omega)
      rcases Nat.eq_zero_or_pos k with hk0 | hk0
      ·have hk1 : decide ((0 : Int) < (k : Int)) = false := by rw [decide_eq_false_iff_not]; omega
       have hk3 : ¬ (0 : Int) < (k : Int) := by omega
       have hk4 : ¬ 0 < k := by omega
       have HK : Hid (k = 0) := hk0
       clear hk0 c hbl hx
       go_wp2
       refine wp_region_later (by kernel_rfl) (by kernel_rfl) ?_
       repeat (go_big_quiet_step ((fail)))
       refine wpQuiet_nil ?_
       intro _ hw9
       obtain ⟨nl, hw8⟩ := hw9
       subst hw8
       go_wp2
       go_roundw
       case rel => exact ⟨k + 1, by omega, by go_num, HBL.out.trans (nl.h.mono hsz), HN1.out, fun j h h' => by have := HK.out; omega⟩
       case measure => simp [intOf]; omega
      ·obtain ⟨m, rfl⟩ : ∃ m, k = m + 1 := ⟨k - 1, by omega⟩
       clear hk0
       obtain ⟨_, _, e9, -, -, c2⟩ := (hrow1.out.below hbl).one (show m < ins.length by omega)
       simp only [Option.some.injEq, Addr.mk.injEq, and_true] at e9
       obtain ⟨rfl, rfl⟩ := e9
       simp only [encS, List.getElem?_cons_zero] at c2
       have s2 := later_cell hb c2
       obtain ⟨y, hy⟩ : ∃ y, y = ins[m] := ⟨_, rfl⟩
       rw [← hy] at s2
       have HY := Lib.hid hy
       have hk1 : decide ((0 : Int) < (m : Int) + 1) = true := by rw [decide_eq_true_eq]; omega
       have hk2 : (0 : Int) < (m : Int) + 1 := by omega
       clear c c2 hbl hx hy
       cases hD : Op.bytesLess y.toList x.toList
       ·have HD := Lib.hid hD
        go_wp2
        refine wp_region_later (by kernel_rfl) (by kernel_rfl) ?_
        repeat (go_big_quiet_step ((fail)))
        refine wpQuiet_nil ?_
        intro _ hw9
        obtain ⟨nl, hw8⟩ := hw9
        subst hw8
        go_wp2
        go_ret
        refine ⟨false, rfl, ⟨(fun h => by cases h), fun h => ?_⟩, HB2.out.trans ((HBL.out.trans (nl.h.mono hsz)).mono HB2.out.size)⟩
        have := h.rise m hlt
        unfold strLess at this
        rw [← HX.out, ← HY.out, HD.out] at this
        cases this
       ·have HD := Lib.hid hD
        go_wp2
        refine wp_region_later (by kernel_rfl) (by kernel_rfl) ?_
        repeat (go_big_quiet_step ((fail)))
        refine wpQuiet_nil ?_
        intro _ hw9
        obtain ⟨nl, hw8⟩ := hw9
        subst hw8
        go_wp2
        go_roundw
        case rel => exact ⟨m + 1 + 1, by omega, by go_num, HBL.out.trans (nl.h.mono hsz), HN1.out, fun j h h' => by
          by_cases e : j = m
          ·subst e; unfold strLess; rw [← HX.out, ← HY.out]; exact HD.out
          ·exact HX2.out j h (by omega)⟩
        case measure => simp [intOf]; omega
     ·have HDL := Lib.hid hdl
      clear c hbl hx
      go_wp2
      refine wp_region_later (by kernel_rfl) (by kernel_rfl) ?_
      repeat (go_big_quiet_step ((fail)))
      refine wpQuiet_nil ?_
      intro _ hw9
      obtain ⟨nl, hw8⟩ := hw9
      subst hw8
      go_wp2
      go_ret
      refine ⟨false, rfl, ⟨(fun h => by cases h), fun h => ?_⟩, HB2.out.trans ((HBL.out.trans (nl.h.mono hsz)).mono HB2.out.size)⟩
      refine absurd ?_ (h.nodelta x (by rw [HX.out]; exact List.getElem_mem hlt))
      rw [deltaB_eq]; exact eq_of_beq HDL.out
    ·have HN1 : Hid (∀ s ∈ ins, s.toList ≠ deltaB) := fun s hs e => by
      obtain ⟨j, hj, rfl⟩ := List.mem_iff_getElem.1 hs
      have := HX1.out j hj (by omega)
      rw [deltaB_eq] at e
      rw [e] at this
      simp at this
     have HN2 : Hid (∀ j (h : j + 1 < ins.length), strLess ins[j] ins[j + 1] = true) := fun j h => HX2.out j h (by omega)
     have HPR := Lib.hid (HP2.out.below hbl)
     have HBR := Lib.hid (HB2.out.trans (hbl.mono HB2.out.size))
     obtain ⟨wR, hwR⟩ : ∃ wR, wR = wr := ⟨_, rfl⟩
     rw [← hwR] at HPR HBR ⊢
     obtain ⟨lv, ev, hpl, -, -, q2, -, hl, -⟩ := id HPR.out
     obtain ⟨al, cl, rfl, hlc, hlc2, hlrow⟩ := hl
     have HLR := Lib.hid hlrow
     have HQ2 := Lib.hid q2
     clear hbl hwR hlrow HBL
     go_wp2
     go_loopw [6] (fun i wr => ∃ k : Nat, k ≤ t.labels.length ∧ i = .int .i64 k ∧ Below wR.heap.size wR wr ∧ (∀ j (h : j < t.labels.length), j < k → labName t.labels[j] ≠ deltaB)) (fun i _ => t.labels.length - (intOf i).toNat)
     case atStart => exact ⟨0, Nat.zero_le _, rfl, Below.refl _ _, fun _ _ h => by omega⟩
     case round =>
      obtain ⟨k, hk, rfl, hbl, hx1⟩ := hrel
      have HY1 := Lib.hid hx1
      have HBL := Lib.hid hbl
      have hsz := hbl.size
      have q2 := keeps hbl hpl HQ2.out
      clear hx1
      by_cases hlt2 : k < t.labels.length
      ·obtain ⟨b, o, rfl, -, hb, c⟩ := (HLR.out.below hbl).one hlt2
       simp only [encS, List.getElem?_cons_zero] at c
       have hnm0 := l01LabelName_any t.labels[k] wr (HSH.out k hlt2)
       have hex0 := name_ext t.labels[k]
       obtain ⟨nm, hnm⟩ : ∃ nm, nm = t.labels[k].extract 0 (openAt t.labels[k].data.toList) := ⟨_, rfl⟩
       rw [← hnm] at hnm0 hex0
       have HNM := Lib.hid hnm0
       have HEX := Lib.hid hex0
       obtain ⟨x, hx⟩ : ∃ x, x = t.labels[k] := ⟨_, rfl⟩
       rw [← hx] at c HNM HEX
       have HX := Lib.hid hx
       clear hbl hx hnm hnm0 hex0
       cases hdl : (nm.toList == [100, 101, 108, 116, 97])
       ·have HDL := Lib.hid hdl
        clear hdl
        have hdl := HDL.out
        go_wp2_with fail
        refine Calls.mono HNM.out ?_
        rintro e w3 ⟨rfl, rfl⟩
        go_wp2
        go_roundw
        case rel => exact ⟨k + 1, by omega, by go_num, HBL.out, fun j h h' => by
          by_cases e : j = k
          ·subst e
           intro he
           have h1 := HDL.out
           rw [HEX.out, HX.out, he, deltaB_eq] at h1
           simp at h1
          ·exact HY1.out j h (by omega)⟩
        case measure => simp [intOf]; omega
       ·have HDL := Lib.hid hdl
        go_wp2_with fail
        refine Calls.mono HNM.out ?_
        rintro e w3 ⟨rfl, rfl⟩
        go_wp2
        go_ret
        refine ⟨false, rfl, ⟨(fun h => by cases h), fun h => ?_⟩, HBR.out.trans (HBL.out.mono HBR.out.size)⟩
        refine absurd ?_ (h.names x (by rw [HX.out]; exact List.getElem_mem hlt2))
        rw [deltaB_eq, ← HEX.out]; exact eq_of_beq HDL.out
      ·have HNN : Hid (∀ l ∈ t.labels, labName l ≠ deltaB) := fun l hl => by
        obtain ⟨j, hj, rfl⟩ := List.mem_iff_getElem.1 hl
        exact HY1.out j hj (by omega)
       clear hbl
       go_wp2
       go_ret
       exact ⟨true, rfl, ⟨fun _ => ⟨HV.out, HACT.out, HN2.out, HN1.out, HNN.out⟩, fun _ => rfl⟩, HBR.out.trans (HBL.out.mono HBR.out.size)⟩
  ·have HACT := Lib.hid hact
   clear hact hrow
   go_enter Tryz.func16, Tryz.ntmps16
   go_wp2_with fail
   refine Calls.mono HVA.out ?_
   rintro e w1 ⟨rfl, hb1⟩
   have HB1 := Lib.hid hb1
   have HC := Lib.hid (Decides.no (l11Actions_any lo _ ins w1 (HI.out.below hb1)) HACT.out)
   clear hb1 HVA
   go_wp2_with fail
   refine Calls.mono HC.out ?_
   rintro e w2 ⟨rfl, hb2⟩
   have HB2 := Lib.hid (HB1.out.trans (hb2.mono HB1.out.size))
   clear hb2 HC
   go_wp2
   go_ret
   exact ⟨false, rfl, ⟨(fun h => by cases h), fun h => absurd h.acts HACT.out⟩, HB2.out⟩
 ·have HV := Lib.hid hv
  have HVA := Lib.hid (Decides.no HVL hv)
  clear hv HVL hrow
  go_enter Tryz.func16, Tryz.ntmps16
  go_wp2_with fail
  refine Calls.mono HVA.out ?_
  rintro e w1 ⟨rfl, hb1⟩
  have HB1 := Lib.hid hb1
  clear hb1 HVA
  go_wp2
  go_ret
  exact ⟨false, rfl, ⟨(fun h => by cases h), fun h => absurd h.valid HV.out⟩, HB1.out⟩

end Go.Proofs.YtnmkncioekdehaaGreatDoor

namespace Go.Proofs.YtnmkncioekdehaaGreatDoor
open Go Go.RowKit

def idxS (P : ByteArray → Bool) (xs : List ByteArray) : Int := if xs.findIdx P < xs.length then (xs.findIdx P : Nat) else -1
theorem idxS_neg {P : ByteArray → Bool} {xs : List ByteArray} : idxS P xs = -1 ↔ ∀ x ∈ xs, P x = false := by
 unfold idxS
 by_cases h : xs.findIdx P < xs.length
 ·rw [if_pos h]
  refine ⟨fun e => by omega, fun h2 => ?_⟩
  obtain ⟨x, hx, hp⟩ := List.findIdx_lt_length.1 h
  rw [h2 x hx] at hp
  cases hp
 ·rw [if_neg h]
  refine ⟨fun _ x hx => ?_, fun _ => rfl⟩
  cases hp : P x
  ·rfl
  ·exact absurd (List.findIdx_lt_length.2 ⟨x, hx, hp⟩) h
theorem idxS_any {P : ByteArray → Bool} {xs : List ByteArray} : decide (0 ≤ idxS P xs) = xs.any P := by
 unfold idxS
 by_cases h : xs.findIdx P < xs.length
 ·rw [if_pos h]
  obtain ⟨x, hx, hp⟩ := List.findIdx_lt_length.1 h
  rw [List.any_eq_true.2 ⟨x, hx, hp⟩]
  simp
 ·rw [if_neg h]
  have : xs.any P = false := by
   rw [List.any_eq_false]
   intro x hx hp
   exact h (List.findIdx_lt_length.2 ⟨x, hx, hp⟩)
  rw [this]
  rfl
/-- A function of one element that answers P, and turns nothing that was there. -/
def AskS (fid : Nat) (caps : Array Value) (P : ByteArray → Bool) (xs : List ByteArray) (B : Nat) (w : World) : Prop :=
 ∀ w', Below B w w' → ∀ x ∈ xs, Calls Tryz.prog fid (#[.string x] ++ caps) w' fun e w'' => e = .returned (.bool (P x)) ∧ Below w'.heap.size w' w''

set_option maxRecDepth 100000 in
set_option maxHeartbeats 1000000 in
theorem IndexFuncS (lo : Nat) (v : Value) (xs : List ByteArray) (fid : Nat) (caps : Array Value) (P : ByteArray → Bool) (w : World) (hv : SliceK 1 encS lo w v xs) (eg : ∀ args w, (callFunc fid args).run Tryz.prog w = .ok (.enter fid args) w) (hP : AskS fid caps P xs w.heap.size w) :
  Calls Tryz.prog 68 #[v, .func (.func fid) #[] caps] w fun e w' => e = .returned (.int .i64 (idxS P xs)) ∧ Below w.heap.size w w' := by
 obtain ⟨a, c, rfl, hcn, hcc, hrow⟩ := hv
 have HR := Lib.hid hrow
 have HP := Lib.hid hP
 clear hP hrow
 go_enter Tryz.func68, Tryz.ntmps68
 go_wp2_with fail
 go_loopw [8] (fun i wr => ∃ k : Nat, k ≤ xs.length ∧ i = .int .i64 k ∧ Below w.heap.size w wr ∧ ∀ j (h : j < xs.length), j < k → P xs[j] = false) (fun i _ => xs.length - (intOf i).toNat)
 case atStart => exact ⟨0, Nat.zero_le _, rfl, Below.refl _ _, fun _ _ h => by omega⟩
 case round =>
  obtain ⟨k, hk, rfl, hbl, ha⟩ := hrel
  have HA := Lib.hid ha
  have HBL := Lib.hid hbl
  clear ha
  by_cases hlt : k < xs.length
  ·obtain ⟨b1, o1, rfl, -, hbs, c1⟩ := (HR.out.below hbl).one hlt
   simp only [encS, List.getElem?_cons_zero] at c1
   clear hbl
   obtain ⟨x, hx⟩ : ∃ x, x = xs[k] := ⟨_, rfl⟩
   rw [← hx] at c1
   have HX := Lib.hid hx
   have HC := Lib.hid (HP.out wr HBL.out x (by rw [hx]; exact List.getElem_mem _))
   obtain ⟨b, hb⟩ : ∃ b, b = P x := ⟨_, rfl⟩
   rw [← hb] at HC
   have HB := Lib.hid hb
   clear hb hx
   go_wp2_with fail
   refine Calls.mono HC.out ?_
   rintro e w1 ⟨rfl, hb1⟩
   have HB1 := Lib.hid (HBL.out.trans (hb1.mono HBL.out.size))
   clear hb1 c1
   cases b
   ·go_wp2_with fail
    go_roundw
    case rel => exact ⟨k + 1, by omega, by go_num, HB1.out, fun j h hj => by
     by_cases e : j = k
     ·subst e; rw [← HX.out]; exact HB.out.symm
     ·exact HA.out j h (by omega)⟩
    case measure => simp [intOf]; omega
   ·have HI : Hid (idxS P xs = (k : Int)) := by
     unfold Hid idxS
     have h1 : xs.findIdx P = k := by
      rw [List.findIdx_eq hlt]
      exact ⟨by rw [← HX.out]; exact HB.out.symm, fun j hj => HA.out j (by omega) hj⟩
     rw [h1, if_pos hlt]
    go_wp2_with fail
    go_ret
    exact ⟨ret_int HI.out.symm, HB1.out⟩
  ·clear hbl
   have HI : Hid (idxS P xs = -1) := by
    unfold Hid
    rw [idxS_neg]
    intro x hx
    obtain ⟨j, hj, rfl⟩ := List.mem_iff_getElem.1 hx
    exact HA.out j hj (by omega)
   go_wp2_with fail
   go_ret
   exact ⟨ret_int HI.out.symm, HBL.out⟩

end Go.Proofs.YtnmkncioekdehaaGreatDoor

namespace Go.Proofs.YtnmkncioekdehaaGreatDoor
open Go Go.RowKit

def idxI (P : Int → Bool) (xs : List Int) : Int := if xs.findIdx P < xs.length then (xs.findIdx P : Nat) else -1
theorem idxI_neg {P : Int → Bool} {xs : List Int} : idxI P xs = -1 ↔ ∀ x ∈ xs, P x = false := by
 unfold idxI
 by_cases h : xs.findIdx P < xs.length
 ·rw [if_pos h]
  refine ⟨fun e => by omega, fun h2 => ?_⟩
  obtain ⟨x, hx, hp⟩ := List.findIdx_lt_length.1 h
  rw [h2 x hx] at hp
  cases hp
 ·rw [if_neg h]
  refine ⟨fun _ x hx => ?_, fun _ => rfl⟩
  cases hp : P x
  ·rfl
  ·exact absurd (List.findIdx_lt_length.2 ⟨x, hx, hp⟩) h
/-- A function of one element that answers P, and turns nothing that was there. -/
def AskI (fid : Nat) (caps : Array Value) (P : Int → Bool) (xs : List Int) (B : Nat) (w : World) : Prop :=
 ∀ w', Below B w w' → ∀ x ∈ xs, Calls Tryz.prog fid (#[.int .i64 x] ++ caps) w' fun e w'' => e = .returned (.bool (P x)) ∧ Below w'.heap.size w' w''

set_option maxRecDepth 100000 in
set_option maxHeartbeats 1000000 in
theorem IndexFuncI (lo : Nat) (v : Value) (xs : List Int) (fid : Nat) (caps : Array Value) (P : Int → Bool) (w : World) (hv : SliceK 1 encI lo w v xs) (eg : ∀ args w, (callFunc fid args).run Tryz.prog w = .ok (.enter fid args) w) (hP : AskI fid caps P xs w.heap.size w) :
  Calls Tryz.prog 70 #[v, .func (.func fid) #[] caps] w fun e w' => e = .returned (.int .i64 (idxI P xs)) ∧ Below w.heap.size w w' := by
 obtain ⟨a, c, rfl, hcn, hcc, hrow⟩ := hv
 have HR := Lib.hid hrow
 have HP := Lib.hid hP
 clear hP hrow
 go_enter Tryz.func70, Tryz.ntmps70
 go_wp2_with fail
 go_loopw [8] (fun i wr => ∃ k : Nat, k ≤ xs.length ∧ i = .int .i64 k ∧ Below w.heap.size w wr ∧ ∀ j (h : j < xs.length), j < k → P xs[j] = false) (fun i _ => xs.length - (intOf i).toNat)
 case atStart => exact ⟨0, Nat.zero_le _, rfl, Below.refl _ _, fun _ _ h => by omega⟩
 case round =>
  obtain ⟨k, hk, rfl, hbl, ha⟩ := hrel
  have HA := Lib.hid ha
  have HBL := Lib.hid hbl
  clear ha
  by_cases hlt : k < xs.length
  ·obtain ⟨b1, o1, rfl, -, hbs, c1⟩ := (HR.out.below hbl).one hlt
   simp only [encI, List.getElem?_cons_zero] at c1
   clear hbl
   obtain ⟨x, hx⟩ : ∃ x, x = xs[k] := ⟨_, rfl⟩
   rw [← hx] at c1
   have HX := Lib.hid hx
   have HC := Lib.hid (HP.out wr HBL.out x (by rw [hx]; exact List.getElem_mem _))
   obtain ⟨b, hb⟩ : ∃ b, b = P x := ⟨_, rfl⟩
   rw [← hb] at HC
   have HB := Lib.hid hb
   clear hb hx
   go_wp2_with fail
   refine Calls.mono HC.out ?_
   rintro e w1 ⟨rfl, hb1⟩
   have HB1 := Lib.hid (HBL.out.trans (hb1.mono HBL.out.size))
   clear hb1 c1
   cases b
   ·go_wp2_with fail
    go_roundw
    case rel => exact ⟨k + 1, by omega, by go_num, HB1.out, fun j h hj => by
     by_cases e : j = k
     ·subst e; rw [← HX.out]; exact HB.out.symm
     ·exact HA.out j h (by omega)⟩
    case measure => simp [intOf]; omega
   ·have HI : Hid (idxI P xs = (k : Int)) := by
     unfold Hid idxI
     have h1 : xs.findIdx P = k := by
      rw [List.findIdx_eq hlt]
      exact ⟨by rw [← HX.out]; exact HB.out.symm, fun j hj => HA.out j (by omega) hj⟩
     rw [h1, if_pos hlt]
    go_wp2_with fail
    go_ret
    exact ⟨ret_int HI.out.symm, HB1.out⟩
  ·clear hbl
   have HI : Hid (idxI P xs = -1) := by
    unfold Hid
    rw [idxI_neg]
    intro x hx
    obtain ⟨j, hj, rfl⟩ := List.mem_iff_getElem.1 hx
    exact HA.out j hj (by omega)
   go_wp2_with fail
   go_ret
   exact ⟨ret_int HI.out.symm, HBL.out⟩

end Go.Proofs.YtnmkncioekdehaaGreatDoor

namespace Go.Proofs.YtnmkncioekdehaaGreatDoor
open Go Go.RowKit

set_option maxRecDepth 100000 in
set_option maxHeartbeats 2000000 in
theorem DeleteFuncI (B : Nat) (v : Value) (xs : List Int) (fid : Nat) (caps : Array Value) (P : Int → Bool) (w0 w : World) (ho : w.ownsRow B 2 1 v xs.length (xs.map (Value.int .i64))) (hb : Below B w0 w) (hB : B ≤ w.heap.size)
  (eg : ∀ args w, (callFunc fid args).run Tryz.prog w = .ok (.enter fid args) w) (hP : AskI fid caps P xs B w0) :
  Calls Tryz.prog 39 #[v, .func (.func fid) #[] caps] w fun e w' => ∃ v', e = .returned v' ∧ Below B w0 w' ∧ w'.ownsRow B 2 1 v' (xs.filter fun x => !P x).length ((xs.filter fun x => !P x).map (Value.int .i64)) := by
 have HP := Lib.hid hP
 have HB := Lib.hid hb
 have HO := Lib.hid ho
 have HIX := Lib.hid (IndexFuncI B v xs fid caps P w (SliceK.of_owns (e := 2) encI_len rfl (by rw [flat_encI]; exact ho)) eg fun w' hb' x hx => hP w' (hb.trans (hb'.mono hB)) x hx)
 have HHB := Lib.hid hB
 obtain ⟨a, c, rfl, hnc, hcc⟩ := owns_slice ho
 obtain ⟨r, hr⟩ : ∃ r, r = idxI P xs := ⟨_, rfl⟩
 rw [← hr] at HIX
 have HRI := Lib.hid hr
 obtain ⟨nx, hnx⟩ : ∃ nx, nx = xs.length := ⟨_, rfl⟩
 have HNX := Lib.hid hnx
 rw [← hnx] at HIX hnc ⊢
 clear hP hb ho hB hr hnx
 by_cases hneg : r = -1
 ·subst hneg
  have HF : Hid ((xs.filter fun x => !P x) = xs) := by
   unfold Hid
   rw [List.filter_eq_self]
   intro x hx
   rw [idxI_neg.1 HRI.out.symm x hx]
   rfl
  go_enter Tryz.func39, Tryz.ntmps39
  go_wp2_with fail
  refine Calls.mono HIX.out ?_
  rintro e w1 ⟨rfl, hb1⟩
  have HB1 := Lib.hid (HB.out.trans (hb1.mono HHB.out))
  have HO1 := Lib.hid (owns_below HO.out hb1)
  clear hb1 HIX
  go_wp2_with fail
  go_ret
  refine ⟨_, rfl, HB1.out, ?_⟩
  rw [HF.out, ← HNX.out]
  have h := HO1.out
  rw [← HNX.out] at h
  exact h
 ·obtain ⟨k0, hk0, hlt0, hp0, hpl⟩ : ∃ k0 : Nat, r = (k0 : Int) ∧ k0 < nx ∧ (∃ h : k0 < xs.length, P xs[k0] = true) ∧ ∀ j (h : j < xs.length), j < k0 → P xs[j] = false := by
   have h1 := HRI.out
   have h2 := HNX.out
   unfold idxI at h1
   by_cases hf : xs.findIdx P < xs.length
   ·rw [if_pos hf] at h1
    refine ⟨xs.findIdx P, h1, by omega, ⟨hf, List.findIdx_getElem (w := hf)⟩, fun j hj hjk => ?_⟩
    have := List.not_of_lt_findIdx hjk
    simpa using this
   ·rw [if_neg hf] at h1
    exact absurd h1 hneg
  subst hk0
  obtain ⟨g, ha2, hgB⟩ : ∃ g, a = some ⟨g, 0, none⟩ ∧ B ≤ g := by
   rcases HO.out.2 with ⟨e, e2⟩ | ⟨g, cap, cur, e, h1, -⟩
   ·have := HNX.out; omega
   ·simp only [Value.slice.injEq] at e
    exact ⟨g, e.1, h1⟩
  subst ha2
  have HGB := Lib.hid hgB
  have HIN : Hid (KeptIn P xs k0 (k0 + 1) (fun x => ((Value.int .i64) x))  (xs.map (Value.int .i64))) := KeptIn.start (by have := HNX.out; omega) hpl hp0.2
  have hne1 : ((k0 : Int) == -1) = false := beq_eq_false_iff_ne.2 (by omega)
  clear hneg hp0 hpl HRI
  go_enter Tryz.func39, Tryz.ntmps39
  go_wp2_with fail
  refine Calls.mono HIX.out ?_
  rintro e w1 ⟨rfl, hb1⟩
  have HB1 := Lib.hid (HB.out.trans (hb1.mono HHB.out))
  have HO1 : Hid (CellsAt w1 g 2 nx c (xs.map (Value.int .i64))) := CellsAt.of_owns (by have h := owns_below HO.out hb1; rw [← HNX.out] at h; exact h)
  clear hb1 HIX
  go_wp2_with fail
  go_loopw [5, 6, 7] (fun s5 s6 _ wr => ∃ (i j : Nat) (cs : List Value), s5 = .int .i64 i ∧ s6 = .int .i64 j ∧ j ≤ nx ∧ Below B w0 wr ∧ CellsAt wr g 2 nx c cs ∧ KeptIn P xs i j (fun x => (Value.int .i64) x) cs) (fun _ s6 _ _ => nx - (intOf s6).toNat)
  case atStart => exact ⟨k0, k0 + 1, _, rfl, by go_num, by omega, HB1.out, HO1.out, HIN.out⟩
  case round =>
   obtain ⟨i, j, cs, rfl, rfl, hj, hbl, hca, hki⟩ := hrel
   have HBL := Lib.hid hbl
   have HCA := Lib.hid hca
   have HKI := Lib.hid hki
   have hij := hki.lt
   by_cases hlt : j < nx
   ·have hltx : j < xs.length := by have := HNX.out; omega
    obtain ⟨x, hx⟩ : ∃ x, x = xs[j] := ⟨_, rfl⟩
    have HX := Lib.hid hx
    have cj : wr.cell? ⟨g, j, none⟩ = some (.int .i64 x) := by
     have h1 := hca.cell j (by omega)
     have h2 := hki.high j hltx (Nat.le_refl _)
     rw [h1, h2, hx]
    have ci := hca.cell_some i (by omega)
    obtain ⟨old, ci⟩ := ci
    have fi := hca.frozen i
    have hgl := hca.lt
    have HC := Lib.hid (HP.out wr hbl x (by rw [hx]; exact List.getElem_mem _))
    obtain ⟨b, hb⟩ : ∃ b, b = P x := ⟨_, rfl⟩
    rw [← hb] at HC
    have HBP := Lib.hid hb
    clear hb hx hbl hca hki ci fi
    go_wp2_with fail
    refine Calls.mono HC.out ?_
    rintro e w2 ⟨rfl, hb2⟩
    have HBL2 := Lib.hid (HBL.out.trans (hb2.mono (show B ≤ wr.heap.size from by have := HGB.out; omega)))
    have hca2 := HCA.out.below hb2
    have HCA2 := Lib.hid hca2
    obtain ⟨old, ci⟩ := hca2.cell_some i (by omega)
    have fi := hca2.frozen i
    clear hb2 hca2 cj
    cases b
    ·go_wp2_with fail
     go_roundw
     case rel => exact ⟨i + 1, j + 1, cs.set i (.int .i64 x), by go_num, by go_num, by omega, HBL2.out.setCell HGB.out _, HCA2.out.set i (by omega) _, by have h := HKI.out.keep hltx (by rw [← HX.out]; exact HBP.out.symm); rw [← HX.out] at h; exact h⟩
     case measure => simp [intOf]; omega
    ·go_wp2_with fail
     go_roundw
     case rel => exact ⟨i, j + 1, cs, rfl, by go_num, by omega, HBL2.out, HCA2.out, HKI.out.drop hltx (by rw [← HX.out]; exact HBP.out.symm)⟩
     case measure => simp [intOf]; omega
   ·obtain rfl : j = nx := by omega
    have HLEN : Hid ((xs.filter fun x => !P x).length = i ∧ i ≤ j ∧ (xs.filter fun x => !P x).map (Value.int .i64) = cs.take i) := by
     have h := hki.all (by have := HNX.out; omega)
     exact ⟨h.1, by omega, h.2⟩
    have hij2 : i < j := hij
    have hcl : ∀ ty, (Builtin.clear_ #[30] ty #[.slice (some ⟨g, i, none⟩) (j - i) (c - i)]).run Tryz.prog wr = .ok (.tuple #[]) (wr.setCells g i (List.replicate (j - i) (.int .i64 0))) :=
     fun ty => Lib.run_clear_slice wr _ _ ty _ Tryz.underlying30 (fun w => by kernel_rfl) rfl rfl g i _ _ (by omega) (fun t ht => by obtain ⟨o, ho⟩ := hca.cell_some (i + t) (by omega); rw [ho]; rfl) (fun t ht => hca.frozen (i + t))
    have HCAF : Hid (CellsAt (wr.setCells g i (List.replicate (j - i) (.int .i64 0))) g 2 j c (cs.take i ++ List.replicate (j - i) (.int .i64 0))) := hca.clear hij2
    have HBF : Hid (Below B w0 (wr.setCells g i (List.replicate (j - i) (.int .i64 0)))) := below_setCells HGB.out _ _ _ hbl
    clear hbl hca hki hij
    go_wp2_with fail
    go_ret
    refine ⟨_, rfl, HBF.out, ?_⟩
    rw [HLEN.out.1, HLEN.out.2.2]
    exact HCAF.out.owns (by rw [List.take_append_of_le_length (by have := HCAF.out.len; simp at this ⊢; omega), List.take_take]; simp) HLEN.out.2.1 HGB.out hnc hcc

end Go.Proofs.YtnmkncioekdehaaGreatDoor
