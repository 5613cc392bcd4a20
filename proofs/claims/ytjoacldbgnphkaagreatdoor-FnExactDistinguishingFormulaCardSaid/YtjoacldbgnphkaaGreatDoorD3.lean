/-
  What the reference's functions on labels compute.
  Labelled transition systems: what makes them valid, the edges from a state. Plain definitions; no program in sight.
  What the reference's functions on systems compute: whether they are valid and deterministic.
  What the reference's functions on systems compute: whether they are valid and deterministic.
  The pairs that can stay: the sweeps that both texts make over the pairs, in place. Plain definitions; no program in sight.
  What a call makes: lists of numbers, of edges; the true places of a list.
  What the implementation's functions on texts compute.
-/
import Derived.Test.YtjoacldbgnphkaaGreatDoorD2
import Derived.IntWalk
namespace Go.Proofs.YtjoacldbgnphkaaGreatDoor
open Go Go.RowKit

def inB (n a b : Int) : Bool := decide (a ≤ n) && decide (n ≤ b)
theorem l00In_any (n a b : Int) (w : World) : Calls Tryz.prog 35 #[.int .i64 n, .int .i64 a, .int .i64 b] w fun e w' => e = .returned (.bool (inB n a b)) ∧ w = w' := by
 by_cases h : a ≤ n
 ·have hf : Hid (inB n a b = decide (n ≤ b)) := by unfold Hid inB; rw [decide_eq_true h, Bool.true_and]
  go_enter Tryz.func35, Tryz.ntmps35
  go_wp2
  go_ret
  exact ⟨ret_bool hf.out.symm, rfl⟩
 ·have hf : Hid (inB n a b = false) := by unfold Hid inB; rw [decide_eq_false h, Bool.false_and]
  go_enter Tryz.func35, Tryz.ntmps35
  go_wp2
  go_ret
  exact ⟨ret_bool hf.out.symm, rfl⟩

/-- The values of a label and whether it is one. -/
def RetVals (l : List UInt8) (w : World) (e : Ending) (w' : World) : Prop :=
 ∃ v, e = .returned (.tuple #[v, .bool (labelOk l)]) ∧ Below w.heap.size w w' ∧ (labelOk l = true → w'.ownsRow w.heap.size 2 1 v (labelVals l).length ((labelVals l).map (Value.int .i64)))

set_option maxRecDepth 100000 in
set_option maxHeartbeats 4000000 in
theorem l01Values_any (s : ByteArray) (w : World) (hs : s.size ≤ 1073741824) : Calls Tryz.prog 79 #[.string s] w (RetVals s.data.toList w) := by
 obtain ⟨i0, hi, hz0, hz1, hz2⟩ := info_parts info_int64
 have hle := openAt_le s.data.toList
 rw [len_data] at hle
 by_cases h0 : openAt s.data.toList = s.size
 ·have h0' : ((openAt s.data.toList : Int) == s.size) = true := by simp [h0]
  have HOK : Hid (labelOk s.data.toList = isName s.data.toList) := by unfold Hid labelOk; rw [if_pos (by rw [len_data]; exact h0)]
  have HV : Hid (labelVals s.data.toList = []) := by unfold Hid labelVals; rw [if_pos (by rw [len_data]; exact h0)]
  clear h0
  generalize hk : openAt s.data.toList = k at *
  have HK := Lib.hid hk
  clear hk
  go_enter Tryz.func79, Tryz.ntmps79
  go_wp2_with fail
  refine (l01Open_any _ _ hs).mono ?_
  rintro e w' ⟨rfl, rfl⟩
  rw [HK.out]
  go_wp2_with fail
  refine (l01Name_any _ _).mono ?_
  rintro e w' ⟨rfl, rfl⟩
  go_wp2_with fail
  go_ret2
  refine ⟨.slice (some ⟨w.heap.size, 0, none⟩) 0 0, by rw [HOK.out]; rfl, (Below.refl _ _).alloc (Nat.le_refl _) _, fun _ => ?_⟩
  rw [HV.out]
  exact World.ownsRow_lit (size := 1) w #[] 0 (Nat.le_refl _) (by simp [maxLen]) rfl
 ·have h0' : ((openAt s.data.toList : Int) == s.size) = false := by rw [beq_eq_false_iff_ne]; omega
  have hlt : openAt s.data.toList < s.size := by omega
  have HLT := Lib.hid (openAt_get (l := s.data.toList) (by rw [len_data]; exact hlt))
  have HOK : Hid (labelOk s.data.toList = (isAction (s.data.toList.take (openAt s.data.toList)) && ((s.data.toList.getLast? == some 41) && ((labelParts s.data.toList).all numOk && decide ((labelParts s.data.toList).length ≤ 2))))) := by
   unfold Hid labelOk; rw [if_neg (by rw [len_data]; exact h0)]
  have HV : Hid (labelVals s.data.toList = (labelParts s.data.toList).map fun p => (numB p).getD 0) := by unfold Hid labelVals; rw [if_neg (by rw [len_data]; exact h0)]
  have HP : Hid (labelParts s.data.toList = splitAt 44 (s.extract (openAt s.data.toList + 1) (s.size - 1)).data.toList) := by
   unfold Hid labelParts
   rw [extract_data', len_data]
  have HA : Hid ((s.extract 0 (openAt s.data.toList)).data.toList = s.data.toList.take (openAt s.data.toList)) := by unfold Hid; rw [extract_data']; simp
  clear h0 hle
  generalize hk : openAt s.data.toList = k at *
  have HK := Lib.hid hk
  clear hk
  cases hb1 : isAction (s.data.toList.take k)
  ·have HB1 := Lib.hid hb1
   clear hb1
   go_enter Tryz.func79, Tryz.ntmps79
   go_wp2_with fail
   refine (l01Open_any _ _ hs).mono ?_
   rintro e w' ⟨rfl, rfl⟩
   rw [HK.out]
   go_wp2_with fail
   refine (l01Action_any _ _).mono ?_
   rintro e w' ⟨rfl, rfl⟩
   rw [HA.out, HB1.out]
   go_wp2_with fail
   go_ret2
   have : labelOk s.data.toList = false := by rw [HOK.out, HB1.out]; rfl
   exact ⟨.slice none 0 0, by rw [this]; rfl, Below.refl _ _, fun h => by rw [this] at h; cases h⟩
  ·have HB1 := Lib.hid hb1
   clear hb1
   have hpos : 0 < s.size := by omega
   by_cases hc : ((s[s.size - 1].toNat : Int) == 41) = true
   ·have hc' : (!((s[s.size - 1].toNat : Int) == 41)) = false := by rw [hc]; rfl
    have hc'' : ((s[s.size - 1].toNat : Int) != 41) = false := by simpa using hc
    have hl41 : (s.data.toList.getLast? == some 41) = true := by
     rw [last_data hpos, u8_eq (n := 41) (b := 41) rfl hc]; rfl
    have HL41 := Lib.hid hl41
    have hk1 : k + 1 ≤ s.size - 1 := by
     rcases Nat.lt_or_ge (k + 1) s.size with h | h
     ·omega
     ·exfalso
      have e : k = s.size - 1 := by omega
      have h40 := HLT.out
      have h41 := u8_eq (n := 41) (b := 41) rfl hc
      subst e
      rw [get_data s _ (by omega)] at h40
      rw [h40] at h41
      exact absurd h41 (by decide)
    clear hl41
    go_enter Tryz.func79, Tryz.ntmps79
    go_wp2_with fail
    refine (l01Open_any _ _ hs).mono ?_
    rintro e w' ⟨rfl, rfl⟩
    rw [HK.out]
    go_wp2_with fail
    refine (l01Action_any _ _).mono ?_
    rintro e w' ⟨rfl, rfl⟩
    rw [HA.out, HB1.out]
    go_wp2_with fail
    refine (l01Split_any _ 44 _ (by rw [ByteArray.size_extract]; omega)).mono ?_
    rintro e w1 ⟨v, ps, rfl, hb1, ho1, hp1⟩
    rw [← HP.out] at hp1
    have HPS := Lib.hid hp1
    have hpl : ps.length ≤ s.size + 1 := by
     have h1 := splitAt_len 44 (s.extract (k + 1) (s.size - 1)).data.toList
     rw [← HP.out, ← hp1, List.length_map, len_data, ByteArray.size_extract] at h1
     omega
    have hps : ∀ j (h : j < ps.length), ps[j].size ≤ 1073741824 := fun j h => by
     have hm : ps[j].data.toList ∈ splitAt 44 (s.extract (k + 1) (s.size - 1)).data.toList := by
      rw [← HP.out, ← hp1]
      exact List.mem_map.2 ⟨ps[j], List.getElem_mem _, rfl⟩
     have h1 := splitAt_mem hm
     rw [len_data, len_data, ByteArray.size_extract] at h1
     omega
    have HPZ := Lib.hid hps
    have HO1 := Lib.hid ho1
    have HB2 := Lib.hid hb1
    have hs1 := hb1.size
    have hsl := SliceK.of_owns (α := ByteArray) (enc := encS) encS_len rfl (by rw [flat_encS]; exact ho1)
    obtain ⟨ap, cp, rfl, hcp1, hcp2, hrow⟩ := hsl
    clear hp1 ho1 hb1 hps
    go_wp2_with fail
    go_loopw [6, 7] (fun v i wr => ∃ j : Nat, j ≤ ps.length ∧ i = .int .i64 j ∧ Below w.heap.size w wr ∧ w1.heap.size ≤ wr.heap.size ∧ Below w1.heap.size w1 wr ∧ wr.ownsRow w1.heap.size 2 1 v j (((ps.take j).map fun p => (numB p.data.toList).getD 0).map (Value.int .i64)) ∧ (∀ q (h : q < ps.length), q < j → numOk ps[q].data.toList = true)) (fun _ i _ => ps.length - (intOf i).toNat)
    case atStart =>
     exact ⟨0, Nat.zero_le _, rfl, HB2.out.alloc hs1 _, by simp, (Below.refl _ _).alloc (Nat.le_refl _) _, World.ownsRow_lit (size := 1) w1 #[] 0 (Nat.le_refl _) (by simp [maxLen]) rfl, fun _ _ h => by omega⟩
    case round =>
     obtain ⟨j, hj, rfl, hb, hs2, hb3, ho, hall⟩ := hrel
     have HB := Lib.hid hb
     have HO := Lib.hid ho
     have HA2 := Lib.hid hall
     have HB3 := Lib.hid hb3
     have hsz := hb.size
     clear hb ho hall hb3 HB2
     by_cases hlt : j < ps.length
     ·obtain ⟨b1, o1, rfl, -, hbs, c1⟩ := (hrow.below HB3.out).one hlt
      simp only [encS, List.getElem?_cons_zero] at c1
      have hpz := HPZ.out j hlt
      clear hrow
      cases hn : numB ps[j].data.toList with
      | none =>
       have HN := Lib.hid hn
       clear hn
       go_wp2_with fail
       refine (l01Number_any _ _ hpz).mono ?_
       rintro e w2 ⟨rfl, rfl⟩
       rw [HN.out]
       go_wp2_with fail
       go_ret2
       have : labelOk s.data.toList = false := by
        rw [HOK.out, ← HPS.out, all_none hlt (by unfold numOk; rw [HN.out])]; simp
       exact ⟨.slice none 0 0, by rw [this]; rfl, HB.out, fun h => by rw [this] at h; cases h⟩
      | some n =>
       have HN := Lib.hid hn
       clear hn
       cases hin : inB n 0 63
       ·have HIN := Lib.hid hin
        clear hin
        go_wp2_with fail
        refine (l01Number_any _ _ hpz).mono ?_
        rintro e w2 ⟨rfl, rfl⟩
        rw [HN.out]
        go_wp2_with fail
        refine (l00In_any _ _ _ _).mono ?_
        rintro e w2 ⟨rfl, rfl⟩
        rw [HIN.out]
        go_wp2_with fail
        go_ret2
        have : labelOk s.data.toList = false := by
         rw [HOK.out, ← HPS.out, all_none hlt (by unfold numOk; rw [HN.out]; exact HIN.out)]; simp
        exact ⟨.slice none 0 0, by rw [this]; rfl, HB.out, fun h => by rw [this] at h; cases h⟩
       ·have HIN := Lib.hid hin
        clear hin
        go_wp2_with fail
        refine (l01Number_any _ _ hpz).mono ?_
        rintro e w2 ⟨rfl, rfl⟩
        rw [HN.out]
        go_wp2_with fail
        refine (l00In_any _ _ _ _).mono ?_
        rintro e w2 ⟨rfl, rfl⟩
        rw [HIN.out]
        clear c1
        go_wp2_with (at_builtin; refine wpList_append_own _ rfl _ _ 69 rfl w1.heap.size 2 i0 (.int .i64 0) 1 8 Tryz.underlying69 hi hz0 hz1 hz2 rfl (by decide) _ _ _ rfl (HO.out.alloc _) ⟨wr.heap.size, 0, none⟩ 1 1 [.int .i64 n] rfl rfl ?c1 ?c2 ?c3 ?c4 ?c5 ?_)
        case c1 => exact (cell_one_new _ _ _)
        case c2 => intro u hu; simp at hu; subst hu; rfl
        case c3 => simp [maxLen]; omega
        case c4 => omega
        case c5 => simp; omega
        intro v' w3 ho1 hg1 _
        have ho2 : w3.ownsRow w1.heap.size 2 1 v' (j + 1) (((ps.take (j + 1)).map fun p => (numB p.data.toList).getD 0).map (Value.int .i64)) := by
         have e : ((ps.take (j + 1)).map fun p => (numB p.data.toList).getD 0).map (Value.int .i64) = List.take j (List.map (Value.int .i64 ∘ fun p => (numB p.data.toList).getD 0) ps) ++ [.int .i64 n] := by
          rw [List.map_map, List.map_take, List.take_succ_eq_append_getElem (by simpa using hlt)]
          simp [HN.out]
         rw [e]
         exact ho1
        have HO2 := Lib.hid ho2
        have HBX : Hid (Below w.heap.size w w3) := (HB.out.alloc hsz _).grown hg1 (by simp; omega) (fun b e => Nat.le_trans hs1 (HO.out.lt b e).1)
        have HBY : Hid (Below w1.heap.size w1 w3) := (HB3.out.alloc hs2 _).grown hg1 (by simp; omega) (fun b e => (HO.out.lt b e).1)
        have hs3 : w1.heap.size ≤ w3.heap.size := HBY.out.size
        clear ho1 ho2 hg1
        go_wp2
        go_roundw
        case rel => exact ⟨j + 1, by omega, by go_num, HBX.out, hs3, HBY.out, HO2.out, fun q h h' => by
         by_cases e : q = j
         ·subst e; unfold numOk; rw [HN.out]; exact HIN.out
         ·exact HA2.out q h (by omega)⟩
        case measure => simp [intOf]; omega
     ·obtain rfl : j = ps.length := by omega
      have hall : (ps.map (fun s => s.data.toList)).all numOk = true := by
       rw [List.all_eq_true]
       intro x hx
       obtain ⟨p, hp, rfl⟩ := List.mem_map.1 hx
       obtain ⟨q, hq, rfl⟩ := List.mem_iff_getElem.1 hp
       exact HA2.out q hq hq
      have HLK : Hid (labelOk s.data.toList = decide ((ps.length : Int) ≤ 2)) := by
       unfold Hid
       rw [HOK.out, HB1.out, HL41.out, ← HPS.out, hall, List.length_map]
       simp only [Bool.true_and]
       congr 1
       exact propext (by omega)
      have hvl : labelVals s.data.toList = (ps.take ps.length).map fun p => (numB p.data.toList).getD 0 := by
       rw [HV.out, ← HPS.out, List.take_length, List.map_map]; rfl
      have HVL := Lib.hid hvl
      clear hall hvl hrow
      obtain ⟨av, cv, hv, -, -⟩ := owns_slice HO.out
      subst hv
      go_wp2_with fail
      go_ret2
      exact ⟨_, by rw [HLK.out]; rfl, HB.out, fun _ => by rw [HVL.out, List.length_map, List.take_length]; exact own_lower (by have := HO.out; rw [List.take_length] at this; exact this) hs1⟩
   ·have hc' : ((s[s.size - 1].toNat : Int) == 41) = false := by simpa using hc
    have hc'' : (!((s[s.size - 1].toNat : Int) == 41)) = true := by rw [hc']; rfl
    have hl41 : (s.data.toList.getLast? == some 41) = false := by
     rw [last_data hpos]
     have := u8_ne (n := 41) (b := 41) rfl hc'
     simpa using this
    have HL41 := Lib.hid hl41
    clear hl41 hc
    go_enter Tryz.func79, Tryz.ntmps79
    go_wp2_with fail
    refine (l01Open_any _ _ hs).mono ?_
    rintro e w' ⟨rfl, rfl⟩
    rw [HK.out]
    go_wp2_with fail
    refine (l01Action_any _ _).mono ?_
    rintro e w' ⟨rfl, rfl⟩
    rw [HA.out, HB1.out]
    go_wp2_with fail
    go_ret2
    have : labelOk s.data.toList = false := by rw [HOK.out, HL41.out]; simp
    exact ⟨.slice none 0 0, by rw [this]; rfl, Below.refl _ _, fun h => by rw [this] at h; cases h⟩

theorem l01Label_any (s : ByteArray) (w : World) (hs : s.size ≤ 1073741824) : Calls Tryz.prog 56 #[.string s] w fun e w' => e = .returned (.bool (labelOk s.data.toList)) ∧ Below w.heap.size w w' := by
 go_enter Tryz.func56, Tryz.ntmps56
 go_wp2_with fail
 refine (l01Values_any _ _ hs).mono ?_
 rintro e w' ⟨v, rfl, hb, -⟩
 go_wp2_with fail
 go_ret
 exact ⟨rfl, hb⟩

end Go.Proofs.YtjoacldbgnphkaaGreatDoor

namespace Go.Proofs.YtjoacldbgnphkaaGreatDoor
open Go Go.RowKit

def tauB : List UInt8 := [116, 97, 117]
def strLess (a b : ByteArray) : Bool := Op.bytesLess a.toList b.toList

/-- Labels: tau, then others that are labels, strictly increasing. -/
structure LabelsOk (ls : List ByteArray) : Prop where
 pos : 0 < ls.length
 most : ls.length ≤ 12
 first : ∀ h : 0 < ls.length, ls[0].toList = tauB
 label : ∀ i (h : i < ls.length), 1 ≤ i → labelOk ls[i].data.toList = true
 other : ∀ i (h : i < ls.length), 1 ≤ i → ls[i].toList ≠ tauB
 rise : ∀ i (h : i + 1 < ls.length), 1 ≤ i → strLess ls[i] ls[i + 1] = true

def edgeLess (a b : Edge) : Bool :=
 if a.src ≠ b.src then decide (a.src < b.src) else if a.lab ≠ b.lab then decide (a.lab < b.lab) else decide (a.dst < b.dst)

structure EdgeOk (t : Lts) (e : Edge) : Prop where
 s0 : 0 ≤ e.src
 s1 : e.src < t.states
 d0 : 0 ≤ e.dst
 d1 : e.dst < t.states
 l0 : 0 ≤ e.lab
 l1 : e.lab < t.labels.length

structure Valid (t : Lts) : Prop where
 st0 : 1 ≤ t.states
 st1 : t.states ≤ 40
 in0 : 0 ≤ t.initial
 in1 : t.initial < t.states
 labels : LabelsOk t.labels
 most : t.edges.length ≤ 300
 edge : ∀ i (h : i < t.edges.length), EdgeOk t t.edges[i]
 rise : ∀ i (h : i + 1 < t.edges.length), edgeLess t.edges[i] t.edges[i + 1] = true

/-- A function that answers whether something holds, and turns nothing that was there. -/
def Decides (p : Prop) (w : World) (e : Ending) (w' : World) : Prop := ∃ b : Bool, e = .returned (.bool b) ∧ (b = true ↔ p) ∧ Below w.heap.size w w'

theorem Decides.yes {P : Program} {f : FuncId} {args : Array Value} {w : World} {p : Prop} (h : Calls P f args w (Decides p w)) (hp : p) :
  Calls P f args w fun e w' => e = .returned (.bool true) ∧ Below w.heap.size w w' :=
 h.mono fun _ _ ⟨_, he, hb, hw⟩ => ⟨by rw [he, hb.2 hp], hw⟩
theorem Decides.no {P : Program} {f : FuncId} {args : Array Value} {w : World} {p : Prop} (h : Calls P f args w (Decides p w)) (hp : ¬ p) :
  Calls P f args w fun e w' => e = .returned (.bool false) ∧ Below w.heap.size w w' :=
 h.mono fun _ _ ⟨b, he, hb, hw⟩ => ⟨by rw [he, show b = false from Bool.eq_false_iff.2 fun h => hp (hb.1 h)], hw⟩

/-- A pointer to a system: its four cells, and its two slices. -/
def LtsPtr (lo : Nat) (w : World) (b : Nat) (t : Lts) : Prop :=
 ∃ lv ev, b < w.heap.size ∧ w.cell? ⟨b, 0, none⟩ = some (.int .i64 t.states) ∧ w.cell? ⟨b, 1, none⟩ = some (.int .i64 t.initial) ∧ w.cell? ⟨b, 2, none⟩ = some lv ∧ w.cell? ⟨b, 3, none⟩ = some ev
  ∧ SliceK 1 encS lo w lv t.labels ∧ SliceK 3 encE lo w ev t.edges

theorem LtsPtr.below {lo : Nat} {w w' : World} {b : Nat} {t : Lts} (h : LtsPtr lo w b t) (hb : Below w.heap.size w w') : LtsPtr lo w' b t := by
 obtain ⟨lv, ev, h1, h2, h3, h4, h5, h6, h7⟩ := h
 exact ⟨lv, ev, Nat.lt_of_lt_of_le h1 hb.size, keeps hb h1 h2, keeps hb h1 h3, keeps hb h1 h4, keeps hb h1 h5, h6.below hb, h7.below hb⟩

def EdgeCells (w : World) (b o : Nat) (e : Edge) : Prop :=
 w.cell? ⟨b, o, none⟩ = some (.int .i64 e.src) ∧ w.cell? ⟨b, o + 1, none⟩ = some (.int .i64 e.lab) ∧ w.cell? ⟨b, o + 2, none⟩ = some (.int .i64 e.dst)

/-- No text among the labels is longer than 2^30. -/
def Short (ss : List ByteArray) : Prop := ∀ i (h : i < ss.length), ss[i].size ≤ 1073741824

end Go.Proofs.YtjoacldbgnphkaaGreatDoor

namespace Go.Proofs.YtjoacldbgnphkaaGreatDoor
open Go Go.RowKit

set_option maxHeartbeats 1000000 in
theorem l11Less_any (ba oa bb ob : Nat) (a b : Edge) (w : World) (ha : EdgeCells w ba oa a) (hb : EdgeCells w bb ob b) :
  Calls Tryz.prog 37 #[.pointer (some ⟨ba, oa, none⟩), .pointer (some ⟨bb, ob, none⟩)] w fun e w' => e = .returned (.bool (edgeLess a b)) ∧ Below w.heap.size w w' := by
 obtain ⟨a1, a2, a3⟩ := ha
 obtain ⟨b1, b2, b3⟩ := hb
 by_cases h1 : (a.src != b.src) = true
 ·have HF : Hid (edgeLess a b = decide (a.src < b.src)) := by unfold Hid edgeLess; rw [if_pos (by simpa using h1)]
  go_enter Tryz.func37, Tryz.ntmps37
  go_wp2
  go_quiet (fail)
  go_wp2
  go_quiet (fail)
  go_wp2
  go_ret
  exact ⟨ret_bool HF.out.symm, drews (drews (Below.refl _ _) _) _⟩
 ·have h1' : (a.src != b.src) = false := by simpa using h1
  clear h1
  by_cases h2 : (a.lab != b.lab) = true
  ·have HF : Hid (edgeLess a b = decide (a.lab < b.lab)) := by unfold Hid edgeLess; rw [if_neg (by simpa using h1'), if_pos (by simpa using h2)]
   go_enter Tryz.func37, Tryz.ntmps37
   go_wp2
   go_quiet (fail)
   go_wp2
   go_quiet (fail)
   go_wp2
   go_quiet (fail)
   go_wp2
   go_ret
   exact ⟨ret_bool HF.out.symm, drews (drews (drews (Below.refl _ _) _) _) _⟩
  ·have h2' : (a.lab != b.lab) = false := by simpa using h2
   have HF : Hid (edgeLess a b = decide (a.dst < b.dst)) := by unfold Hid edgeLess; rw [if_neg (by simpa using h1'), if_neg (by simpa using h2')]
   clear h2
   go_enter Tryz.func37, Tryz.ntmps37
   go_wp2
   go_quiet (fail)
   go_wp2
   go_quiet (fail)
   go_wp2
   go_quiet (fail)
   go_wp2
   go_ret
   exact ⟨ret_bool HF.out.symm, drews (drews (drews (Below.refl _ _) _) _) _⟩

set_option maxRecDepth 100000 in
set_option maxHeartbeats 1000000 in
theorem l11Names_any (v : Value) (lo : Nat) (ls : List ByteArray) (w : World) (hsh : Short ls) (hv : SliceK 1 encS lo w v ls) : Calls Tryz.prog 36 #[v] w (Decides (LabelsOk ls) w) := by
 have HSH := Lib.hid hsh
 obtain ⟨a, cap, rfl, hn, hcap, hr⟩ := hv
 clear hsh
 by_cases h0 : ls.length = 0
 ·have h0' : ((ls.length : Int) == 0) = true := by simp [h0]
  clear h0
  go_enter Tryz.func36, Tryz.ntmps36
  go_wp2_with fail
  go_ret
  refine ⟨false, rfl, ?_, Below.refl _ _⟩
  refine ⟨(fun h => by cases h), fun h => ?_⟩
  have := h.pos
  rw [beq_iff_eq] at h0'
  omega
 ·have h0' : ((ls.length : Int) == 0) = false := by rw [beq_eq_false_iff_ne]; omega
  have hpos : 0 < ls.length := by omega
  clear h0
  by_cases h1 : 12 < ls.length
  ·have h1' : decide (12 < (ls.length : Int)) = true := by simp; omega
   go_enter Tryz.func36, Tryz.ntmps36
   go_wp2_with fail
   go_ret
   refine ⟨false, rfl, ⟨(fun h => by cases h), fun h => ?_⟩, Below.refl _ _⟩
   have := h.most
   omega
  ·have h1' : decide (12 < (ls.length : Int)) = false := by simp; omega
   obtain ⟨b, off, rfl, -, hb, c0⟩ := hr.one hpos
   simp only [encS, List.getElem?_cons_zero, Nat.add_zero] at c0
   by_cases h2 : (ls[0].toList == [116, 97, 117]) = true
   ·have h2' : (!(ls[0].toList == [116, 97, 117])) = false := by rw [h2]; rfl
    have HT : Hid (ls[0].toList = tauB) := eq_of_beq h2
    go_enter Tryz.func36, Tryz.ntmps36
    go_wp2_with fail
    clear h2 h2' c0 h0' h1'
    go_loopw [3] (fun i wr => ∃ m : Nat, m + 1 ≤ ls.length ∧ i = .int .i64 ((m : Int) + 1) ∧ Below w.heap.size w wr ∧ (∀ q (h : q < ls.length), 1 ≤ q → q ≤ m → labelOk ls[q].data.toList = true ∧ ls[q].toList ≠ tauB) ∧ (∀ q (h : q + 1 < ls.length), 1 ≤ q → q + 1 ≤ m → strLess ls[q] ls[q + 1] = true)) (fun i _ => ls.length - (intOf i).toNat)
    case atStart => exact ⟨0, by omega, rfl, Below.refl _ _, fun _ _ _ _ => by omega, fun _ _ _ _ => by omega⟩
    case round =>
     obtain ⟨m, hm, rfl, hbl, hl1, hl2⟩ := hrel
     have HBL := Lib.hid hbl
     have HL1 := Lib.hid hl1
     have HL2 := Lib.hid hl2
     have hsz := hbl.size
     clear hl1 hl2
     by_cases hlt : m + 1 < ls.length
     ·have hle : (m : Int) + 1 < ls.length := by omega
      have hshk := HSH.out (m + 1) hlt
      obtain ⟨_, _, e1, -, hb1, c1⟩ := (hr.below hbl).one hlt
      simp only [Option.some.injEq, Addr.mk.injEq, and_true] at e1
      obtain ⟨rfl, rfl⟩ := e1
      obtain ⟨_, _, e1, -, -, c2⟩ := (hr.below hbl).one (show m < ls.length by omega)
      simp only [Option.some.injEq, Addr.mk.injEq, and_true] at e1
      obtain ⟨rfl, rfl⟩ := e1
      simp only [encS, List.getElem?_cons_zero] at c1 c2
      replace c1 := later_cell hb1 c1
      replace c2 := later_cell hb1 c2
      clear hbl hr
      have hcl := fun W => l01Label_any ls[m + 1] W hshk
      cases hA : labelOk ls[m + 1].data.toList
      ·rw [hA] at hcl
       have HA := Lib.hid hA
       have HCL := Lib.hid hcl
       clear hcl hA
       go_wp2
       refine wp_region_later (by kernel_rfl) (by kernel_rfl) ?_
       repeat (go_big_quiet_step ((go_at_call 56; exact later_call (HCL.out _))))
       refine wpQuiet_nil ?_
       intro _ hw9
       obtain ⟨nl, hw8⟩ := hw9
       subst hw8
       go_wp2
       go_ret
       refine ⟨false, rfl, ⟨(fun h => by cases h), fun h => ?_⟩, HBL.out.trans (nl.h.mono hsz)⟩
       have := h.label (m + 1) hlt (by omega)
       rw [HA.out] at this
       cases this
      ·rw [hA] at hcl
       have HA := Lib.hid hA
       have HCL := Lib.hid hcl
       clear hcl hA
       cases hB : (ls[m + 1].toList == [116, 97, 117])
       ·have HB : Hid (ls[m + 1].toList ≠ tauB) := fun e => by rw [e] at hB; simp [tauB] at hB
        by_cases hm1 : 1 ≤ m
        ·have g1 : decide (1 < (m : Int) + 1) = true := by simp; omega
         have g2 : (0 : Int) < m := by omega
         have g3 : 0 < m := by omega
         clear hm1
         cases hD : Op.bytesLess ls[m].toList ls[m + 1].toList
         ·go_wp2
          refine wp_region_later (by kernel_rfl) (by kernel_rfl) ?_
          repeat (go_big_quiet_step ((go_at_call 56; exact later_call (HCL.out _))))
          refine wpQuiet_nil ?_
          intro _ hw9
          obtain ⟨nl, hw8⟩ := hw9
          subst hw8
          go_wp2
          go_ret
          refine ⟨false, rfl, ⟨(fun h => by cases h), fun h => ?_⟩, HBL.out.trans (nl.h.mono hsz)⟩
          have := h.rise m hlt (by omega)
          unfold strLess at this
          rw [hD] at this
          cases this
         ·go_wp2
          refine wp_region_later (by kernel_rfl) (by kernel_rfl) ?_
          repeat (go_big_quiet_step ((go_at_call 56; exact later_call (HCL.out _))))
          refine wpQuiet_nil ?_
          intro _ hw9
          obtain ⟨nl, hw8⟩ := hw9
          subst hw8
          go_wp2
          go_roundw
          case rel => exact ⟨m + 1, by omega, by go_num, HBL.out.trans (nl.h.mono hsz), fun q h h1 h2 => by
            by_cases e : q = m + 1
            ·subst e; exact ⟨HA.out, HB.out⟩
            ·exact HL1.out q h h1 (by omega), fun q h h1 h2 => by
            by_cases e : q = m
            ·subst e; exact hD
            ·exact HL2.out q h h1 (by omega)⟩
          case measure => simp [intOf]; omega
        ·have g1 : decide (1 < (m : Int) + 1) = false := by simp; omega
         have hm0 : m ≤ 0 := by omega
         clear hm1
         go_wp2
         refine wp_region_later (by kernel_rfl) (by kernel_rfl) ?_
         repeat (go_big_quiet_step ((go_at_call 56; exact later_call (HCL.out _))))
         refine wpQuiet_nil ?_
         intro _ hw9
         obtain ⟨nl, hw8⟩ := hw9
         subst hw8
         go_wp2
         go_roundw
         case rel => exact ⟨m + 1, by omega, by go_num, HBL.out.trans (nl.h.mono hsz), fun q h h1 h2 => by
           obtain rfl : q = m + 1 := by omega
           exact ⟨HA.out, HB.out⟩, fun q h h1 h2 => by omega⟩
         case measure => simp [intOf]; omega
       ·have HB : Hid (ls[m + 1].toList = tauB) := eq_of_beq hB
        go_wp2
        refine wp_region_later (by kernel_rfl) (by kernel_rfl) ?_
        repeat (go_big_quiet_step ((go_at_call 56; exact later_call (HCL.out _))))
        refine wpQuiet_nil ?_
        intro _ hw9
        obtain ⟨nl, hw8⟩ := hw9
        subst hw8
        go_wp2
        go_ret
        refine ⟨false, rfl, ⟨(fun h => by cases h), fun h => ?_⟩, HBL.out.trans (nl.h.mono hsz)⟩
        exact absurd HB.out (h.other (m + 1) hlt (by omega))
     ·clear hr
      go_wp2
      go_ret
      refine ⟨true, rfl, ⟨fun _ => ?_, fun _ => rfl⟩, HBL.out⟩
      exact ⟨hpos, by omega, fun _ => HT.out, fun i h h1 => (HL1.out i h h1 (by omega)).1, fun i h h1 => (HL1.out i h h1 (by omega)).2, fun i h h1 => HL2.out i h h1 (by omega)⟩
   ·have h2' : (!(ls[0].toList == [116, 97, 117])) = true := by simpa using h2
    have h2'' : (ls[0].toList == [116, 97, 117]) = false := by simpa using h2
    clear h2
    go_enter Tryz.func36, Tryz.ntmps36
    go_wp2_with fail
    go_ret
    refine ⟨false, rfl, ⟨(fun h => by cases h), fun h => ?_⟩, Below.refl _ _⟩
    have := h.first hpos
    rw [this] at h2''
    simp [tauB] at h2''

end Go.Proofs.YtjoacldbgnphkaaGreatDoor

namespace Go.Proofs.YtjoacldbgnphkaaGreatDoor
open Go Go.RowKit

theorem inB_iff {n a b : Int} : inB n a b = true ↔ a ≤ n ∧ n ≤ b := by unfold inB; simp
theorem inB_not {n a b : Int} (h : inB n a b = false) : ¬ (a ≤ n ∧ n ≤ b) := fun h' => by rw [inB_iff.2 h'] at h; cases h

theorem edgeOk_iff (t : Lts) (e : Edge) : EdgeOk t e ↔ (inB e.src 0 (t.states - 1) = true ∧ inB e.dst 0 (t.states - 1) = true) ∧ inB e.lab 0 ((t.labels.length : Int) - 1) = true := by
 rw [inB_iff, inB_iff, inB_iff]
 exact ⟨fun ⟨a, b, c, d, e, f⟩ => by omega, fun h => ⟨by omega, by omega, by omega, by omega, by omega, by omega⟩⟩

set_option maxRecDepth 100000 in
set_option maxHeartbeats 4000000 in
theorem l11Is_any (p lo : Nat) (t : Lts) (w : World) (hsh : Short t.labels) (hp : LtsPtr lo w p t) : Calls Tryz.prog 18 #[.pointer (some ⟨p, 0, none⟩)] w (Decides (Valid t) w) := by
 obtain ⟨lv, ev, hpl, q0, q1, q2, q3, hl, he⟩ := hp
 have HL := Lib.hid hl
 obtain ⟨al, cl, rfl, hln, hlc, -⟩ := hl
 obtain ⟨ae, ce, rfl, hen, hec, hrow⟩ := he
 have HSH := Lib.hid hsh
 have r0 := later_cell hpl q0
 have r1 := later_cell hpl q1
 have r2 := later_cell hpl q2
 have r3 := later_cell hpl q3
 clear hsh
 cases hA : inB t.states 1 40
 ·clear q0 q1 q2 q3 hrow
  go_enter Tryz.func18, Tryz.ntmps18
  go_wp2
  refine wp_region_later (by kernel_rfl) (by kernel_rfl) ?_
  repeat (go_big_quiet_step ((go_at_call 35; exact later_same (l00In_any _ _ _ _))))
  refine wpQuiet_nil ?_
  intro _ hw9
  obtain ⟨nl, hw8⟩ := hw9
  subst hw8
  go_wp2
  go_ret
  exact ⟨false, rfl, ⟨(fun h => by cases h), fun h => absurd ⟨h.st0, h.st1⟩ (inB_not hA)⟩, nl.h⟩
 ·have hA1 : 1 ≤ t.states := (inB_iff.1 hA).1
  have hA2 : t.states ≤ 40 := (inB_iff.1 hA).2
  cases hB : inB t.initial 0 (t.states - 1)
  ·clear q0 q1 q2 q3 hrow
   go_enter Tryz.func18, Tryz.ntmps18
   go_wp2
   refine wp_region_later (by kernel_rfl) (by kernel_rfl) ?_
   repeat (go_big_quiet_step ((go_at_call 35; exact later_same (l00In_any _ _ _ _))))
   refine wpQuiet_nil ?_
   intro _ hw9
   obtain ⟨nl, hw8⟩ := hw9
   subst hw8
   go_wp2
   go_ret
   exact ⟨false, rfl, ⟨(fun h => by cases h), fun h => absurd ⟨h.in0, by have := h.in1; omega⟩ (inB_not hB)⟩, nl.h⟩
  ·have HB1 : Hid (0 ≤ t.initial ∧ t.initial < t.states) := by unfold Hid; have := inB_iff.1 hB; omega
   by_cases hC : LabelsOk t.labels
   ·have HC := Lib.hid hC
    clear hC
    by_cases hD : 300 < t.edges.length
    ·have hD' : decide (300 < (t.edges.length : Int)) = true := by simp; omega
     clear q0 q1 q2 q3 hrow
     go_enter Tryz.func18, Tryz.ntmps18
     go_wp2
     refine wp_region_later (by kernel_rfl) (by kernel_rfl) ?_
     repeat (go_big_quiet_step ((first | (go_at_call 35; exact later_same (l00In_any _ _ _ _)) | (go_at_call 36; exact later_call (Decides.yes (l11Names_any _ lo _ _ HSH.out (SliceK.below HL.out (Later.h _))) HC.out)))))
     refine wpQuiet_nil ?_
     intro _ hw9
     obtain ⟨nl, hw8⟩ := hw9
     subst hw8
     go_wp2
     go_ret
     exact ⟨false, rfl, ⟨(fun h => by cases h), fun h => by have := h.most; omega⟩, nl.h⟩
    ·have hD' : decide (300 < (t.edges.length : Int)) = false := by simp; omega
     have HQ0 := Lib.hid q0
     have HQ1 := Lib.hid q1
     have HQ2 := Lib.hid q2
     have HQ3 := Lib.hid q3
     clear q0 q1 q2 q3
     go_enter Tryz.func18, Tryz.ntmps18
     go_wp2
     refine wp_region_later (by kernel_rfl) (by kernel_rfl) ?_
     repeat (go_big_quiet_step ((first | (go_at_call 35; exact later_same (l00In_any _ _ _ _)) | (go_at_call 36; exact later_call (Decides.yes (l11Names_any _ lo _ _ HSH.out (SliceK.below HL.out (Later.h _))) HC.out)))))
     refine wpQuiet_nil ?_
     intro _ hw9
     obtain ⟨nl, hw8⟩ := hw9
     subst hw8
     have HN0 := Lib.hid nl.h
     clear r0 r1 r2 r3 hA hB hD'
     go_wp2
     go_loopw [3] (fun i wr => ∃ k : Nat, k ≤ t.edges.length ∧ i = .int .i64 k ∧ Below w.heap.size w wr ∧ (∀ q (h : q < t.edges.length), q < k → EdgeOk t t.edges[q]) ∧ (∀ q (h : q + 1 < t.edges.length), q + 1 < k → edgeLess t.edges[q] t.edges[q + 1] = true)) (fun i _ => t.edges.length - (intOf i).toNat)
     case atStart => exact ⟨0, Nat.zero_le _, rfl, HN0.out, fun _ _ h => by omega, fun _ _ h => by omega⟩
     case round =>
      obtain ⟨k, hk, rfl, hbl, hx1, hx2⟩ := hrel
      have HX1 := Lib.hid hx1
      have HX2 := Lib.hid hx2
      have HBL := Lib.hid hbl
      have hsz := hbl.size
      have q0 := keeps hbl hpl HQ0.out
      have q2 := keeps hbl hpl HQ2.out
      have q3 := keeps hbl hpl HQ3.out
      clear hx1 hx2 hbl
      by_cases hlt : k < t.edges.length
      ·rcases Nat.eq_zero_or_pos k with hk0 | hk0
       ·have hkz : k ≤ 0 := by omega
        clear hk0
        obtain ⟨be, oe, rfl, -, hbe, e1, e2, e3⟩ := (hrow.below HBL.out).edge hlt
        have HE := Lib.hid (show EdgeOk t t.edges[k] ↔ (inB t.edges[k].src 0 (t.states - 1) = true ∧ inB t.edges[k].dst 0 (t.states - 1) = true) ∧ inB t.edges[k].lab 0 ((t.labels.length : Int) - 1) = true from edgeOk_iff t _)
        have hee : ∃ e, e = t.edges[k] := ⟨_, rfl⟩
        obtain ⟨e, hee⟩ := hee
        rw [← hee] at e1 e2 e3 HE
        have HEE := Lib.hid hee
        clear hee
        have HO : Below wr.heap.size wr (wr.alloc (.cells #[.int .i64 e.src, .int .i64 e.lab, .int .i64 e.dst] 66)) := (Below.refl _ _).alloc (Nat.le_refl _) _
        have s0 := later_cell (w0 := wr.alloc (.cells #[.int .i64 e.src, .int .i64 e.lab, .int .i64 e.dst] 66)) (b := p) (by simp; omega) (keeps HO (by omega) q0)
        have s2 := later_cell (w0 := wr.alloc (.cells #[.int .i64 e.src, .int .i64 e.lab, .int .i64 e.dst] 66)) (b := p) (by simp; omega) (keeps HO (by omega) q2)
        have s3 := later_cell (w0 := wr.alloc (.cells #[.int .i64 e.src, .int .i64 e.lab, .int .i64 e.dst] 66)) (b := p) (by simp; omega) (keeps HO (by omega) q3)
        have t0 := later_cell (w0 := wr.alloc (.cells #[.int .i64 e.src, .int .i64 e.lab, .int .i64 e.dst] 66)) (b := wr.heap.size) (o := 0) (v := .int .i64 e.src) (by simp) (by simp)
        have t1 := later_cell (w0 := wr.alloc (.cells #[.int .i64 e.src, .int .i64 e.lab, .int .i64 e.dst] 66)) (b := wr.heap.size) (o := 1) (v := .int .i64 e.lab) (by simp) (by simp)
        have t2 := later_cell (w0 := wr.alloc (.cells #[.int .i64 e.src, .int .i64 e.lab, .int .i64 e.dst] 66)) (b := wr.heap.size) (o := 2) (v := .int .i64 e.dst) (by simp) (by simp)
        have HO2 := Lib.hid HO
        clear HO
        cases g1 : inB e.src 0 (t.states - 1)
        ·go_wp2
         refine wp_region_later (by kernel_rfl) (by kernel_rfl) ?_
         repeat (go_big_quiet_step ((go_at_call 35; exact later_same (l00In_any _ _ _ _))))
         refine wpQuiet_nil ?_
         intro _ hw9
         obtain ⟨nl, hw8⟩ := hw9
         subst hw8
         go_wp2
         go_ret
         refine ⟨false, rfl, ⟨(fun h => by cases h), fun h => ?_⟩, HBL.out.trans ((HO2.out.trans (nl.h.mono (by simp))).mono hsz)⟩
         have := h.edge k hlt
         rw [← HEE.out, HE.out] at this
         rw [g1] at this
         exact absurd this.1.1 (by simp)
        ·cases g2 : inB e.dst 0 (t.states - 1)
         ·go_wp2
          refine wp_region_later (by kernel_rfl) (by kernel_rfl) ?_
          repeat (go_big_quiet_step ((go_at_call 35; exact later_same (l00In_any _ _ _ _))))
          refine wpQuiet_nil ?_
          intro _ hw9
          obtain ⟨nl, hw8⟩ := hw9
          subst hw8
          go_wp2
          go_ret
          refine ⟨false, rfl, ⟨(fun h => by cases h), fun h => ?_⟩, HBL.out.trans ((HO2.out.trans (nl.h.mono (by simp))).mono hsz)⟩
          have := h.edge k hlt
          rw [← HEE.out, HE.out] at this
          rw [g2] at this
          exact absurd this.1.2 (by simp)
         ·cases g3 : inB e.lab 0 ((t.labels.length : Int) - 1)
          ·go_wp2
           refine wp_region_later (by kernel_rfl) (by kernel_rfl) ?_
           repeat (go_big_quiet_step ((go_at_call 35; exact later_same (l00In_any _ _ _ _))))
           refine wpQuiet_nil ?_
           intro _ hw9
           obtain ⟨nl, hw8⟩ := hw9
           subst hw8
           go_wp2
           go_ret
           refine ⟨false, rfl, ⟨(fun h => by cases h), fun h => ?_⟩, HBL.out.trans ((HO2.out.trans (nl.h.mono (by simp))).mono hsz)⟩
           have := h.edge k hlt
           rw [← HEE.out, HE.out] at this
           rw [g3] at this
           exact absurd this.2 (by simp)
          ·have HEK : Hid (EdgeOk t t.edges[k]) := by unfold Hid; rw [← HEE.out, HE.out]; exact ⟨⟨g1, g2⟩, g3⟩
           have hk0 : ¬ (0 : Int) < (k : Int) := by omega
           go_wp2
           refine wp_region_later (by kernel_rfl) (by kernel_rfl) ?_
           repeat (go_big_quiet_step ((go_at_call 35; exact later_same (l00In_any _ _ _ _))))
           refine wpQuiet_nil ?_
           intro _ hw9
           obtain ⟨nl, hw8⟩ := hw9
           subst hw8
           clear g1 g2 g3 s0 s2 t0 t1 t2
           have s3 := s3 nl
           go_wp2
           go_roundw
           case rel => exact ⟨k + 1, by omega, by go_num, HBL.out.trans ((HO2.out.trans (nl.h.mono (by simp))).mono hsz), fun q h h' => by
             obtain rfl : q = k := by omega
             exact HEK.out, fun q h h' => by omega⟩
           case measure => simp [intOf]; omega
       ·obtain ⟨m, rfl⟩ : ∃ m, k = m + 1 := ⟨k - 1, by omega⟩
        clear hk0
        obtain ⟨be, oe, rfl, -, hbe, e1, e2, e3⟩ := (hrow.below HBL.out).edge hlt
        have HROW := Lib.hid (hrow.below HBL.out)
        have HE := Lib.hid (show EdgeOk t t.edges[m + 1] ↔ (inB t.edges[m + 1].src 0 (t.states - 1) = true ∧ inB t.edges[m + 1].dst 0 (t.states - 1) = true) ∧ inB t.edges[m + 1].lab 0 ((t.labels.length : Int) - 1) = true from edgeOk_iff t _)
        have hee : ∃ e, e = t.edges[m + 1] := ⟨_, rfl⟩
        obtain ⟨e, hee⟩ := hee
        rw [← hee] at e1 e2 e3 HE
        have HEE := Lib.hid hee
        clear hee
        have HO : Below wr.heap.size wr (wr.alloc (.cells #[.int .i64 e.src, .int .i64 e.lab, .int .i64 e.dst] 66)) := (Below.refl _ _).alloc (Nat.le_refl _) _
        have s0 := later_cell (w0 := wr.alloc (.cells #[.int .i64 e.src, .int .i64 e.lab, .int .i64 e.dst] 66)) (b := p) (by simp; omega) (keeps HO (by omega) q0)
        have s2 := later_cell (w0 := wr.alloc (.cells #[.int .i64 e.src, .int .i64 e.lab, .int .i64 e.dst] 66)) (b := p) (by simp; omega) (keeps HO (by omega) q2)
        have s3 := later_cell (w0 := wr.alloc (.cells #[.int .i64 e.src, .int .i64 e.lab, .int .i64 e.dst] 66)) (b := p) (by simp; omega) (keeps HO (by omega) q3)
        have t0 := later_cell (w0 := wr.alloc (.cells #[.int .i64 e.src, .int .i64 e.lab, .int .i64 e.dst] 66)) (b := wr.heap.size) (o := 0) (v := .int .i64 e.src) (by simp) (by simp)
        have t1 := later_cell (w0 := wr.alloc (.cells #[.int .i64 e.src, .int .i64 e.lab, .int .i64 e.dst] 66)) (b := wr.heap.size) (o := 1) (v := .int .i64 e.lab) (by simp) (by simp)
        have t2 := later_cell (w0 := wr.alloc (.cells #[.int .i64 e.src, .int .i64 e.lab, .int .i64 e.dst] 66)) (b := wr.heap.size) (o := 2) (v := .int .i64 e.dst) (by simp) (by simp)
        have HO2 := Lib.hid HO
        clear HO
        cases g1 : inB e.src 0 (t.states - 1)
        ·go_wp2
         refine wp_region_later (by kernel_rfl) (by kernel_rfl) ?_
         repeat (go_big_quiet_step ((go_at_call 35; exact later_same (l00In_any _ _ _ _))))
         refine wpQuiet_nil ?_
         intro _ hw9
         obtain ⟨nl, hw8⟩ := hw9
         subst hw8
         go_wp2
         go_ret
         refine ⟨false, rfl, ⟨(fun h => by cases h), fun h => ?_⟩, HBL.out.trans ((HO2.out.trans (nl.h.mono (by simp))).mono hsz)⟩
         have := h.edge (m + 1) hlt
         rw [← HEE.out, HE.out] at this
         rw [g1] at this
         exact absurd this.1.1 (by simp)
        ·cases g2 : inB e.dst 0 (t.states - 1)
         ·go_wp2
          refine wp_region_later (by kernel_rfl) (by kernel_rfl) ?_
          repeat (go_big_quiet_step ((go_at_call 35; exact later_same (l00In_any _ _ _ _))))
          refine wpQuiet_nil ?_
          intro _ hw9
          obtain ⟨nl, hw8⟩ := hw9
          subst hw8
          go_wp2
          go_ret
          refine ⟨false, rfl, ⟨(fun h => by cases h), fun h => ?_⟩, HBL.out.trans ((HO2.out.trans (nl.h.mono (by simp))).mono hsz)⟩
          have := h.edge (m + 1) hlt
          rw [← HEE.out, HE.out] at this
          rw [g2] at this
          exact absurd this.1.2 (by simp)
         ·cases g3 : inB e.lab 0 ((t.labels.length : Int) - 1)
          ·go_wp2
           refine wp_region_later (by kernel_rfl) (by kernel_rfl) ?_
           repeat (go_big_quiet_step ((go_at_call 35; exact later_same (l00In_any _ _ _ _))))
           refine wpQuiet_nil ?_
           intro _ hw9
           obtain ⟨nl, hw8⟩ := hw9
           subst hw8
           go_wp2
           go_ret
           refine ⟨false, rfl, ⟨(fun h => by cases h), fun h => ?_⟩, HBL.out.trans ((HO2.out.trans (nl.h.mono (by simp))).mono hsz)⟩
           have := h.edge (m + 1) hlt
           rw [← HEE.out, HE.out] at this
           rw [g3] at this
           exact absurd this.2 (by simp)
          ·have HEK : Hid (EdgeOk t t.edges[m + 1]) := by unfold Hid; rw [← HEE.out, HE.out]; exact ⟨⟨g1, g2⟩, g3⟩
           go_wp2
           refine wp_region_later (by kernel_rfl) (by kernel_rfl) ?_
           repeat (go_big_quiet_step ((go_at_call 35; exact later_same (l00In_any _ _ _ _))))
           refine wpQuiet_nil ?_
           intro _ hw9
           obtain ⟨nl, hw8⟩ := hw9
           subst hw8
           have HC1 : Hid (EdgeCells nl.w wr.heap.size 0 e) := ⟨t0 nl, by simpa using t1 nl, by simpa using t2 nl⟩
           have s3 := s3 nl
           clear g1 g2 g3 s0 s2 t0 t1 t2
           have HB4 : Hid (Below wr.heap.size wr nl.w) := HO2.out.trans (nl.h.mono (by simp))
           obtain ⟨_, _, e9, -, -, d1, d2, d3⟩ := (HROW.out.below HB4.out).edge (show m < t.edges.length by omega)
           simp only [Option.some.injEq, Addr.mk.injEq, and_true] at e9
           obtain ⟨rfl, rfl⟩ := e9
           have HC2 : Hid (EdgeCells nl.w be (oe + m * 3) t.edges[m]) := ⟨d1, d2, d3⟩
           clear d1 d2 d3
           cases g4 : edgeLess t.edges[m] e
           ·have HG4 := Lib.hid g4
            clear g4
            go_wp2_with fail
            refine (l11Less_any _ _ _ _ _ _ _ HC2.out HC1.out).mono ?_
            rintro e' w3 ⟨rfl, hb3⟩
            rw [HG4.out]
            go_wp2_with fail
            go_ret
            refine ⟨false, rfl, ⟨(fun h => by cases h), fun h => ?_⟩, HBL.out.trans ((HB4.out.mono hsz).trans (hb3.mono (by have := HB4.out.size; omega)))⟩
            have := h.rise m (by omega)
            rw [← HEE.out, HG4.out] at this
            cases this
           ·have HG4 := Lib.hid g4
            clear g4
            go_wp2_with fail
            refine (l11Less_any _ _ _ _ _ _ _ HC2.out HC1.out).mono ?_
            rintro e' w3 ⟨rfl, hb3⟩
            rw [HG4.out]
            have HB5 : Hid (Below w.heap.size w w3) := HBL.out.trans ((HB4.out.mono hsz).trans (hb3.mono (by have := HB4.out.size; omega)))
            clear hb3
            go_wp2_with fail
            go_roundw
            case rel => exact ⟨m + 1 + 1, by omega, by go_num, HB5.out, fun q h h' => by
              by_cases e : q = m + 1
              ·subst e; exact HEK.out
              ·exact HX1.out q h (by omega), fun q h h' => by
              by_cases e : q = m
              ·subst e; rw [← HEE.out]; exact HG4.out
              ·exact HX2.out q h (by omega)⟩
            case measure => simp [intOf]; omega
      ·clear hrow
       go_wp2
       go_ret
       refine ⟨true, rfl, ⟨fun _ => ?_, fun _ => rfl⟩, HBL.out⟩
       exact ⟨hA1, hA2, HB1.out.1, HB1.out.2, HC.out, by omega, fun q h => HX1.out q h (by omega), fun q h => HX2.out q h (by omega)⟩
   ·clear q0 q1 q2 q3 hrow
    have HC := Lib.hid hC
    clear hC
    go_enter Tryz.func18, Tryz.ntmps18
    go_wp2
    refine wp_region_later (by kernel_rfl) (by kernel_rfl) ?_
    repeat (go_big_quiet_step ((first | (go_at_call 35; exact later_same (l00In_any _ _ _ _)) | (go_at_call 36; exact later_call (Decides.no (l11Names_any _ lo _ _ HSH.out (SliceK.below HL.out (Later.h _))) HC.out)))))
    refine wpQuiet_nil ?_
    intro _ hw9
    obtain ⟨nl, hw8⟩ := hw9
    subst hw8
    go_wp2
    go_ret
    exact ⟨false, rfl, ⟨(fun h => by cases h), fun h => absurd h.labels HC.out⟩, nl.h⟩

end Go.Proofs.YtjoacldbgnphkaaGreatDoor

namespace Go.Proofs.YtjoacldbgnphkaaGreatDoor
open Go Go.RowKit

/-- The text of an edge's label. -/
def labAt (t : Lts) (e : Edge) : ByteArray := t.labels.getD e.lab.toNat ByteArray.empty
def hitB (t : Lts) (q : Int) (l : ByteArray) (e : Edge) : Bool := (e.src == q) && ((labAt t e).toList == l.toList)
/-- The edges from a state. -/
def outOf (t : Lts) (k : Int) : List Edge := t.edges.filter fun e => e.src == k

end Go.Proofs.YtjoacldbgnphkaaGreatDoor

namespace Go.Proofs.YtjoacldbgnphkaaGreatDoor
open Go Go.RowKit

/-- A list of numbers of the call's own. -/
def MadeNums (xs : List Int) (w : World) (e : Ending) (w' : World) : Prop :=
 ∃ v, e = .returned v ∧ Below w.heap.size w w' ∧ w'.ownsRow w.heap.size 2 1 v xs.length (xs.map (Value.int .i64))

def MadeOut (t : Lts) (k : Int) (w : World) (e : Ending) (w' : World) : Prop :=
 ∃ v, e = .returned v ∧ Below w.heap.size w w' ∧ w'.ownsRow w.heap.size 66 3 v (outOf t k).length ((outOf t k).flatMap encE)

theorem info_edge2 : (Tryz.prog.info? 66).map (fun i => (i.zero, i.size, i.bytes)) = some (some (.agg #[.int .i64 0, .int .i64 0, .int .i64 0]), 3, 24) := by kernel_rfl

theorem three_new (w : World) (e : Edge) (t : TypeId) : ∀ j u, (encE e)[j]? = some u → (w.alloc (.cells #[.int .i64 e.src, .int .i64 e.lab, .int .i64 e.dst] t)).cell? ((⟨w.heap.size, 0, none⟩ : Addr).add j) = some u := by
 intro j u hu
 match j, hu with
 | 0, hu => simpa [encE, Addr.add] using hu
 | 1, hu => simpa [encE, Addr.add] using hu
 | 2, hu => simpa [encE, Addr.add] using hu
 | j + 3, hu => simp [encE] at hu

theorem getD_some {l : List Bool} {i : Nat} {b : Bool} (h : i < l.length) (hb : l.getD i false = b) : l[i]? = some b := by
 rw [List.getElem?_eq_getElem h]
 rw [List.getD_eq_getElem?_getD, List.getElem?_eq_getElem h] at hb
 exact congrArg some hb

theorem OwnIntss.lower {eo ei lo lo' : Nat} {w : World} {v : Value} {vs : List Value} {xss : List (List Int)} (h : OwnIntss eo ei lo w v vs xss) (hl : lo' ≤ lo) : OwnIntss eo ei lo' w v vs xss := by
 obtain ⟨h1, h2, h3, h4, h5⟩ := h
 exact ⟨h1, own_lower h2 hl, fun i a b => own_lower (h3 i a b) hl, h4, h5⟩

theorem OwnIntss.kept {eo ei lo : Nat} {w w' : World} {v : Value} {vs : List Value} {xss : List (List Int)} {row : Option Nat} (h : OwnIntss eo ei lo w v vs xss) (hg : w.grownBy w' row) (h0 : v.ownBlock = none ∨ v.ownBlock ≠ row)
  (hr : ∀ (i : Nat) (h : i < vs.length), vs[i].ownBlock = none ∨ vs[i].ownBlock ≠ row) : OwnIntss eo ei lo w' v vs xss := by
 obtain ⟨h1, h2, h3, h4, h5⟩ := h
 exact ⟨h1, h2.kept hg h0, fun i hi hi' => (h3 i hi hi').kept hg (hr i hi), h4, h5⟩

end Go.Proofs.YtjoacldbgnphkaaGreatDoor

namespace Go.Proofs.YtjoacldbgnphkaaGreatDoor
open Go Go.RowKit

theorem isDigit_any (c : UInt8) (w : World) : Calls Tryz.prog 165 #[.int .u8 (c.toNat : Int)] w fun e w' => e = .returned (.bool (digit c)) ∧ w = w' := by
 by_cases h : 48 ≤ (c.toNat : Int)
 ·have hf : Hid (digit c = decide ((c.toNat : Int) ≤ 57)) := by unfold Hid digit; rw [decide_eq_true h, Bool.true_and]
  go_enter Tryz.func165, Tryz.ntmps165
  go_wp2
  go_ret
  exact ⟨ret_bool hf.out.symm, rfl⟩
 ·have hf : Hid (digit c = false) := by unfold Hid digit; rw [decide_eq_false h, Bool.false_and]
  go_enter Tryz.func165, Tryz.ntmps165
  go_wp2
  go_ret
  exact ⟨ret_bool hf.out.symm, rfl⟩

theorem isName_all {s : ByteArray} (h0 : 0 < s.size) (hb : small s[0] = true) (ha : ∀ j (h : j < s.size), okc s[j] = true) : isName s.data.toList = decide ((s.size : Int) ≤ 10) := by
 by_cases h : 10 < s.size
 ·rw [isName_long (by rw [len_data]; exact h), decide_eq_false (by omega)]
 ·rw [isName_good h0 h hb ha, decide_eq_true (by omega)]

set_option maxHeartbeats 1000000 in
theorem IsName_any (s : ByteArray) (w : World) (hs : s.size ≤ 1073741824) : Calls Tryz.prog 149 #[.string s] w fun e w' => e = .returned (.bool (isName s.data.toList)) ∧ w = w' := by
 go_enter Tryz.func149, Tryz.ntmps149
 go_wp2_with fail
 go_loop [7] (fun i => ∃ k : Nat, k ≤ s.size ∧ i = .int .i64 k ∧ (∀ j (h : j < s.size), j < k → okc s[j] = true) ∧ ∀ h : 0 < s.size, 0 < k → small s[0] = true) (fun i => s.size - (intOf i).toNat)
 case atStart => exact ⟨0, Nat.zero_le _, rfl, (fun _ _ h => by omega), fun _ h => by omega⟩
 case round =>
  obtain ⟨k, hk, rfl, ha, hs0⟩ := hrel
  have HA := Lib.hid ha
  have HS := Lib.hid hs0
  clear ha hs0
  by_cases hlt : k < s.size
  ·have hc : ∃ b, small s[k] = b := ⟨_, rfl⟩
   obtain ⟨b, hb⟩ := hc
   have HB := Lib.hid hb
   unfold small at hb
   have hcs : b = true → (97 ≤ (s[k].toNat : Int) ∧ (s[k].toNat : Int) ≤ 122) := by rintro rfl; simpa using hb
   cases b
   ·clear hcs
    by_cases h1 : 97 ≤ (s[k].toNat : Int)
    ·have h2 : ¬ (s[k].toNat : Int) ≤ 122 := by simpa [h1] using hb
     clear hb
     by_cases hk0 : k = 0
     ·subst hk0
      have HF : Hid (isName s.data.toList = false) := isName_head hlt HB.out
      go_wp2_with fail
      go_ret
      exact ⟨ret_bool HF.out.symm, rfl⟩
     ·have hk1 : ((k : Int) == 0) = false := by rw [beq_eq_false_iff_ne]; omega
      obtain ⟨d, hd⟩ : ∃ b, digit s[k] = b := ⟨_, rfl⟩
      have HD := Lib.hid hd
      clear hd
      go_wp2_with fail
      refine (isDigit_any _ _).mono ?_
      rintro e w' ⟨rfl, rfl⟩
      rw [HD.out]
      cases d
      ·go_wp2_with fail
       go_ret
       exact ⟨ret_bool (isName_bad hlt HB.out HD.out).symm, rfl⟩
      ·go_wp2_with fail
       go_round
       case rel => exact ⟨k + 1, by omega, by go_num, (fun j h hj => by
        by_cases e : j = k
        ·subst e; simp [okc, HD.out]
        ·exact HA.out j h (by omega)), fun h _ => HS.out h (by omega)⟩
       case measure => simp [intOf]; omega
    ·clear hb
     by_cases hk0 : k = 0
     ·subst hk0
      have HF : Hid (isName s.data.toList = false) := isName_head hlt HB.out
      go_wp2_with fail
      go_ret
      exact ⟨ret_bool HF.out.symm, rfl⟩
     ·have hk1 : ((k : Int) == 0) = false := by rw [beq_eq_false_iff_ne]; omega
      obtain ⟨d, hd⟩ : ∃ b, digit s[k] = b := ⟨_, rfl⟩
      have HD := Lib.hid hd
      clear hd
      go_wp2_with fail
      refine (isDigit_any _ _).mono ?_
      rintro e w' ⟨rfl, rfl⟩
      rw [HD.out]
      cases d
      ·go_wp2_with fail
       go_ret
       exact ⟨ret_bool (isName_bad hlt HB.out HD.out).symm, rfl⟩
      ·go_wp2_with fail
       go_round
       case rel => exact ⟨k + 1, by omega, by go_num, (fun j h hj => by
        by_cases e : j = k
        ·subst e; simp [okc, HD.out]
        ·exact HA.out j h (by omega)), fun h _ => HS.out h (by omega)⟩
       case measure => simp [intOf]; omega
   ·obtain ⟨h1, h2⟩ := hcs rfl
    clear hcs hb
    go_wp2_with fail
    go_round
    case rel => exact ⟨k + 1, by omega, by go_num, (fun j h hj => by
     by_cases e : j = k
     ·subst e; simp [okc, HB.out]
     ·exact HA.out j h (by omega)), fun h _ => by
      by_cases e : k = 0
      ·subst e; exact HB.out
      ·exact HS.out h (by omega)⟩
    case measure => simp [intOf]; omega
  ·obtain rfl : k = s.size := by omega
   clear hlt hk
   by_cases h0 : 0 < s.size
   ·have HF : Hid (isName s.data.toList = decide ((s.size : Int) ≤ 10)) := isName_all h0 (HS.out h0 h0) (fun j h => HA.out j h h)
    have h01 : 1 ≤ (s.size : Int) := by omega
    go_wp2_with fail
    go_ret
    exact ⟨ret_bool HF.out.symm, rfl⟩
   ·have HF : Hid (isName s.data.toList = false) := by
     have : s.data.toList = [] := List.eq_nil_of_length_eq_zero (by rw [len_data]; omega)
     unfold Hid; rw [this]; rfl
    have h01 : ¬ 1 ≤ (s.size : Int) := by omega
    go_wp2_with fail
    go_ret
    exact ⟨ret_bool HF.out.symm, rfl⟩

theorem within_any (n lo hi : Int) (w : World) : Calls Tryz.prog 61 #[.int .i64 n, .int .i64 lo, .int .i64 hi] w fun e w' => e = .returned (.bool (decide (lo ≤ n) && decide (n ≤ hi))) ∧ w = w' := by
 by_cases h : lo ≤ n
 ·have hf : Hid ((decide (lo ≤ n) && decide (n ≤ hi)) = decide (n ≤ hi)) := by unfold Hid; rw [decide_eq_true h, Bool.true_and]
  go_enter Tryz.func61, Tryz.ntmps61
  go_wp2
  go_ret
  exact ⟨ret_bool hf.out.symm, rfl⟩
 ·have hf : Hid ((decide (lo ≤ n) && decide (n ≤ hi)) = false) := by unfold Hid; rw [decide_eq_false h, Bool.false_and]
  go_enter Tryz.func61, Tryz.ntmps61
  go_wp2
  go_ret
  exact ⟨ret_bool hf.out.symm, rfl⟩

theorem index_any (n m : Int) (w : World) (h1 : -9223372036854775807 ≤ m) (h2 : m ≤ 9223372036854775807) : Calls Tryz.prog 63 #[.int .i64 n, .int .i64 m] w fun e w' => e = .returned (.bool (decide (0 ≤ n) && decide (n ≤ m - 1))) ∧ w = w' := by
 go_enter Tryz.func63, Tryz.ntmps63
 go_wp2_with fail
 refine (within_any _ _ _ _).mono ?_
 rintro e w' ⟨rfl, rfl⟩
 go_wp2_with fail
 go_ret
 exact ⟨rfl, rfl⟩

theorem isValue_any (n : Int) (w : World) : Calls Tryz.prog 151 #[.int .i64 n] w fun e w' => e = .returned (.bool (decide (0 ≤ n) && decide (n ≤ 63))) ∧ w = w' := by
 go_enter Tryz.func151, Tryz.ntmps151
 go_wp2_with fail
 refine (within_any _ _ _ _).mono ?_
 rintro e w' ⟨rfl, rfl⟩
 go_wp2_with fail
 go_ret
 exact ⟨rfl, rfl⟩

theorem IsAction_any (s : ByteArray) (w : World) (hs : s.size ≤ 1073741824) : Calls Tryz.prog 133 #[.string s] w fun e w' => e = .returned (.bool (isAction s.data.toList)) ∧ w = w' := by
 have hc : ∃ b, isName s.data.toList = b := ⟨_, rfl⟩
 obtain ⟨b, hb⟩ := hc
 cases b
 ·have HF : Hid (isAction s.data.toList = false) := by unfold Hid isAction; rw [hb]; rfl
  have HB := Lib.hid hb
  clear hb
  go_enter Tryz.func133, Tryz.ntmps133
  go_wp2_with fail
  refine (IsName_any _ _ hs).mono ?_
  rintro e w' ⟨rfl, rfl⟩
  rw [HB.out]
  go_wp2_with fail
  go_ret
  exact ⟨ret_bool HF.out.symm, rfl⟩
 ·have HF : Hid (isAction s.data.toList = !(s.toList == tauL)) := by unfold Hid isAction; rw [hb, Lib.toList_data]; rfl
  have HB := Lib.hid hb
  clear hb
  go_enter Tryz.func133, Tryz.ntmps133
  go_wp2_with fail
  refine (IsName_any _ _ hs).mono ?_
  rintro e w' ⟨rfl, rfl⟩
  rw [HB.out]
  go_wp2_with fail
  go_ret
  exact ⟨ret_bool HF.out.symm, rfl⟩

end Go.Proofs.YtjoacldbgnphkaaGreatDoor
