/-
  A map that holds a set: each key leads to true; ranging over it.
  Pairs of states as keys of a map.
  The library's Concat at two lists of texts.
  ValidLts at a valid system, and at one that is not; boxes.
  What the implementation's follow and step compute at one state of a deterministic system.
  What the implementation's step computes in a deterministic system.
-/
import Derived.Test.YthofaoabgbgbdaaGreatDoorG15
import Derived.Maps.RangeRun
import Derived.Test.YthofaoabgbgbdaaGreatDoorProg
import Derived.DeepKeys4
import Derived.Test.YthofaoabgbgbdaaGreatDoorG6
import Derived.Test.YthofaoabgbgbdaaGreatDoorG1
import Derived.Maps.AppendAt
import Derived.Test.YthofaoabgbgbdaaGreatDoorG12
import Derived.Test.YthofaoabgbgbdaaGreatDoorG8
import Derived.Test.YthofaoabgbgbdaaGreatDoorG5
namespace Go.Proofs.YthofaoabgbgbdaaGreatDoor
open Go Go.RowKit Go.ChangeMaps Go.MapKept
open Go.Maps (Keyed)

def entG (ks : List Value) : Array MapEntry := (ks.mapIdx fun i k => (⟨k, .bool true, i⟩ : MapEntry)).toArray
/-- The block of a map that holds the keys, each with true. -/
def SetMap (w : World) (b : Nat) (ks : List Value) : Prop := w.heap[b]? = some (.map (entG ks) ks.length)
theorem SetMap.made (w : World) : SetMap (w.alloc (.map #[] 0)) w.heap.size [] := (MapKept.heap_alloc w _).1
theorem SetMap.lt {w : World} {b : Nat} {ks : List Value} (h : SetMap w b ks) : b < w.heap.size := (Array.getElem?_eq_some_iff.1 h).1
theorem SetMap.kept {w w' : World} {b : Nat} {ks : List Value} {row : Option Nat} (h : SetMap w b ks) (hg : w.grownBy w' row) (hne : some b ≠ row) : SetMap w' b ks := (hg.block b h.lt hne).trans h
theorem SetMap.below {w w' : World} {b : Nat} {ks : List Value} (h : SetMap w b ks) (hb : Below w.heap.size w w') : SetMap w' b ks := (hb.block b h.lt).trans h
theorem entG_key {ks : List Value} {e : MapEntry} (h : e ∈ (entG ks).toList) : ∃ i, ∃ hi : i < ks.length, e = ⟨ks[i], .bool true, i⟩ := by
 unfold entG at h
 simp only [List.mem_mapIdx] at h
 obtain ⟨i, hi, rfl⟩ := h
 exact ⟨i, hi, rfl⟩
theorem entG_mem {ks : List Value} {e : MapEntry} (h : e ∈ (entG ks).toList) : e.key ∈ ks := by
 obtain ⟨i, hi, rfl⟩ := entG_key h
 exact List.getElem_mem hi
theorem entG_push (ks : List Value) (key : Value) : entG (ks ++ [key]) = (entG ks).push ⟨key, .bool true, ks.length⟩ := by
 unfold entG
 rw [List.mapIdx_append]
 simp

section
variable {P : Program} {k t e : TypeId} {w : World} {b : Nat} {ks : List Value}

theorem SetMap.found (h : SetMap w b ks) (K : Keyed P k) (ht : P.underlying t = some (.map k e)) (hks : ∀ v ∈ ks, ∃ l, keyOf P k v = some l) {key : Value} (hk : key ∈ ks) :
  (Instr.lookup t (.map (some b)) key false).run P w = .ok (.bool true) w := by
 obtain ⟨kl, hkey⟩ := hks _ hk
 rcases K.find w hkey (entG ks).toList (fun x hx => hks _ (entG_mem hx)) with ⟨_, h2⟩ | ⟨j, e0, h1, h2, h3⟩
 ·exfalso
  obtain ⟨i, hi, rfl⟩ := List.mem_iff_getElem.1 hk
  refine h2 ⟨ks[i], .bool true, i⟩ ?_ rfl
  unfold entG
  simp only [List.mem_mapIdx]
  exact ⟨i, hi, rfl⟩
 ·obtain ⟨i, hi, rfl⟩ := entG_key (List.mem_of_getElem? h2)
  have hb : w.heap[b]? = some (.map (entG ks) ks.length) := h
  simp [Instr.lookup, run_underlying ht, MapKept.run_getObj_map hb, K.check w _ hkey, h1, Result.andThen]

theorem SetMap.missing (h : SetMap w b ks) (K : Keyed P k) (ht : P.underlying t = some (.map k e)) (hks : ∀ v ∈ ks, ∃ l, keyOf P k v = some l) (hz : (zeroValue e).run P w = .ok (.bool false) w) {key : Value} {kl : Lit} (hkey : keyOf P k key = some kl) (hn : key ∉ ks) :
  (Instr.lookup t (.map (some b)) key false).run P w = .ok (.bool false) w := by
 rcases K.find w hkey (entG ks).toList (fun x hx => hks _ (entG_mem hx)) with ⟨h1, _⟩ | ⟨j, e0, _, h2, h3⟩
 ·have hb : w.heap[b]? = some (.map (entG ks) ks.length) := h
  simp [Instr.lookup, run_underlying ht, MapKept.run_getObj_map hb, K.check w _ hkey, h1, hz, Result.andThen]
 ·exact absurd (h3 ▸ entG_mem (List.mem_of_getElem? h2)) hn

theorem SetMap.store (h : SetMap w b ks) (K : Keyed P k) (ht : P.underlying t = some (.map k e)) (hks : ∀ v ∈ ks, ∃ l, keyOf P k v = some l) {key : Value} {kl : Lit} (hkey : keyOf P k key = some kl) (hn : key ∉ ks) (hroom : ks.length < maxLen) :
  ∃ w', (Instr.mapUpdate t (.map (some b)) key (.bool true)).run P w = .ok () w' ∧ SetMap w' b (ks ++ [key]) ∧ w.grownBy w' (some b) := by
 have hb : w.heap[b]? = some (.map (entG ks) ks.length) := h
 rcases K.find w hkey (entG ks).toList (fun x hx => hks _ (entG_mem hx)) with ⟨h1, _⟩ | ⟨j, e0, _, h2, h3⟩
 ·refine ⟨setBlock w b (.map ((entG ks).push ⟨key, .bool true, ks.length⟩) (ks.length + 1)), ?_, ?_, ?_⟩
  ·have hr : ks.length < 9223372036854775807 := hroom
   simp [Instr.mapUpdate, run_underlying ht, MapKept.run_getObj_map hb, K.check w false hkey, h1, MapKept.run_setObj_map _ hb, Result.andThen, setBlock]
  ·unfold SetMap
   rw [entG_push, List.length_append, List.length_singleton]
   exact heap_setBlock_same hb _
  ·exact ⟨rfl, rfl, rfl, by simp [setBlock], fun i _ hi => heap_setBlock_other hb _ (fun e => hi (by rw [e]))⟩
 ·exact absurd (h3 ▸ entG_mem (List.mem_of_getElem? h2)) hn

theorem setB_same {r : Nat} {o : Obj} (h : r < w.heap.size) : (setBlock w r o).heap[r]? = some o := by simp [setBlock, h]
theorem setB_other {r i : Nat} {o : Obj} (h : i ≠ r) : (setBlock w r o).heap[i]? = w.heap[i]? := by
 show (w.heap.setIfInBounds r o)[i]? = _
 rw [Array.getElem?_setIfInBounds_ne (Ne.symm h)]
/-- An iterator over a set: the places handed out so far. -/
def IterG (w : World) (r b n : Nat) (seen : Array Nat) : Prop := w.heap[r]? = some (.mapIter (some b) n seen n)
theorem SetMap.range (h : SetMap w b ks) (ht : P.underlying t = some (.map k e)) :
  (Instr.range t (.map (some b))).run P w = .ok (.pointer (some ⟨w.heap.size, 0, none⟩)) (w.alloc (.mapIter (some b) ks.length #[] ks.length)) := run_range_map w t k e b (entG ks) ks.length ht h
theorem IterG.start (w : World) (b n : Nat) : IterG (w.alloc (.mapIter (some b) n #[] n)) w.heap.size b n #[] := heap_alloc_new w _
theorem IterG.lt {r n : Nat} {seen : Array Nat} (h : IterG w r b n seen) : r < w.heap.size := (Array.getElem?_eq_some_iff.1 h).1
theorem IterG.below {w' : World} {r n : Nat} {seen : Array Nat} (h : IterG w r b n seen) (hb : Below w.heap.size w w') : IterG w' r b n seen := (hb.block r h.lt).trans h
theorem IterG.kept {w' : World} {r n : Nat} {seen : Array Nat} {row : Option Nat} (h : IterG w r b n seen) (hg : w.grownBy w' row) (hne : some r ≠ row) : IterG w' r b n seen := (hg.block r h.lt hne).trans h
theorem leftG {ks : List Value} {seen : Array Nat} {x : MapEntry} (h : x ∈ (leftOf (entG ks) seen).toList) : ∃ i, ∃ hi : i < ks.length, x = ⟨ks[i], .bool true, i⟩ ∧ i ∉ seen := by
 unfold leftOf at h
 simp only [Array.toList_filter, List.mem_filter] at h
 obtain ⟨h1, h2⟩ := h
 obtain ⟨i, hi, rfl⟩ := entG_key h1
 exact ⟨i, hi, rfl, by simpa using h2⟩
theorem left_none {ks : List Value} {seen : Array Nat} (h : (leftOf (entG ks) seen).size = 0) : ∀ i, i < ks.length → i ∈ seen := by
 intro i hi
 apply Classical.byContradiction
 intro hn
 have he : leftOf (entG ks) seen = #[] := Array.eq_empty_of_size_eq_zero h
 have hm : (⟨ks[i], .bool true, i⟩ : MapEntry) ∈ leftOf (entG ks) seen := by
  unfold leftOf
  rw [Array.mem_filter]
  refine ⟨?_, by simpa using hn⟩
  unfold entG
  simp only [List.mem_toArray, List.mem_mapIdx]
  exact ⟨i, hi, rfl⟩
 rw [he] at hm
 simp at hm
/-- The next key: none is left, or one that was not handed out. -/
theorem SetMap.next (h : SetMap w b ks) {r : Nat} {seen : Array Nat} (hi : IterG w r b ks.length seen) (ty : TypeId) :
  ((∀ i, i < ks.length → i ∈ seen) ∧ (Instr.next (.pointer (some ⟨r, 0, none⟩)) false ty).run P w = .ok (.tuple #[.bool false]) w) ∨
  ∃ i, ∃ hi : i < ks.length, i ∉ seen ∧ ∃ w' : World, (Instr.next (.pointer (some ⟨r, 0, none⟩)) false ty).run P w = .ok (.tuple #[.bool true, ks[i], .bool true]) w' ∧ IterG w' r b ks.length (seen.push i) ∧ w.grownBy w' (some r) := by
 have hold : ∀ x ∈ (entG ks).toList, x.born < ks.length := fun x hx => by
  obtain ⟨i, hi, rfl⟩ := entG_key hx
  exact hi
 rcases run_next_at (P := P) w ty r b ks.length ks.length seen (entG ks) ks.length hi h hold (Nat.le_refl _) with ⟨h1, h2⟩ | ⟨x, hx, w1, hw, h2⟩
 ·exact .inl ⟨left_none h1, h2⟩
 ·obtain ⟨i, hi', rfl, hn⟩ := leftG hx
  have hr1 : w1.heap[r]? = some (.mapIter (some b) ks.length seen ks.length) := by rcases hw with rfl | rfl <;> exact hi
  refine .inr ⟨i, hi', hn, _, h2, setB_same (Array.getElem?_eq_some_iff.1 hr1).1, ?_⟩
  rcases hw with rfl | rfl <;> exact ⟨rfl, rfl, rfl, (by show _ ≤ (Array.setIfInBounds _ _ _).size; rw [Array.size_setIfInBounds]; exact Nat.le_refl _), fun j _ hj => setB_other (fun e => hj (by rw [e]))⟩

end
end Go.Proofs.YthofaoabgbgbdaaGreatDoor

namespace Go.Proofs.YthofaoabgbgbdaaGreatDoor
open Go Go.RowKit
open Go.Maps (Keyed)

def key2 (q : Int × Int) : Value := .agg #[.int .i64 q.1, .int .i64 q.2]
theorem key2_inj {a b : Int × Int} (h : key2 a = key2 b) : a = b := by
 obtain ⟨x, y⟩ := a
 obtain ⟨u, v⟩ := b
 simpa [key2] using h
theorem underMap2 : Tryz.prog.underlying 112 = some (.map 116 4) := Tryz.underlying112
theorem laidOut2 : laidOutB Tryz.prog = true := by kernel_rfl
theorem row2Ok : (116 : TypeId) < Tryz.prog.types.size := of_decide_eq_true (by kernel_rfl)
theorem wide2 : (match Tryz.prog.underlying 116 with | some (.array _ _) | some (.struct _) => true | _ => false) = true := by rw [Tryz.underlying116]
set_option maxRecDepth 100000 in
theorem law2 : WideMaps.KeyLaw Tryz.prog 116 := deep_law_laid laidOut2 (m := 2) (by omega) row2Ok (by kernel_rfl) wide2
theorem keyed2 : Keyed Tryz.prog 116 := Keyed.of_law law2
theorem cells2Ok : Tryz.prog.cellsOf 116 = 2 := by kernel_rfl
theorem cellsI2 : Tryz.prog.cellsOf 2 = 1 := by kernel_rfl
theorem keyType2 : Tryz.prog.keyType 116 = true := by kernel_rfl
theorem zeroBool2 (w : World) : (zeroValue 4).run Tryz.prog w = .ok (.bool false) w := by kernel_rfl
theorem wf_small2 {n : Int} (h0 : -1 ≤ n) (h1 : n < 1000000) : (Lit.int .i64 n).wf = true := by
 have h2 : IntKind.i64.min = -9223372036854775808 := by decide
 have h3 : IntKind.i64.max = 9223372036854775807 := by decide
 show (decide (IntKind.i64.min ≤ n) && decide (n ≤ IntKind.i64.max)) = true
 rw [h2, h3, decide_eq_true (by omega), decide_eq_true (by omega)]
 rfl
set_option maxRecDepth 100000 in
theorem keyOfP {q : Int × Int} (h : (-1 ≤ q.1 ∧ q.1 < 1000000) ∧ -1 ≤ q.2 ∧ q.2 < 1000000) : ∃ l, keyOf Tryz.prog 116 (key2 q) = some l := by
 obtain ⟨⟨a0, a1⟩, b0, b1⟩ := h
 have wa := wf_small2 a0 a1
 have wb := wf_small2 b0 b1
 obtain ⟨m, hm⟩ : ∃ m, Tryz.prog.types.size = m + 1 := ⟨_, Nat.succ_pred_eq_of_pos (Nat.lt_of_le_of_lt (Nat.zero_le _) row2Ok) |>.symm⟩
 refine ⟨.string (keyBytes [.int .i64 q.1, .int .i64 q.2]), ?_⟩
 unfold keyOf key2
 simp only [Tryz.underlying116]
 rw [if_pos (by simp [keyType2, Value.formed, Tryz.underlying116, cells2Ok]), hm]
 unfold Program.keyLits
 simp only [Tryz.underlying116, Value.cells]
 rw [if_pos (by rw [cells2Ok]; rfl), show List.range 2 = [0, 1] from rfl, List.mapM_cons, List.mapM_cons, List.mapM_nil]
 simp [cellsI2, Program.keyLits, Tryz.underlying2, wa, wb]

end Go.Proofs.YthofaoabgbgbdaaGreatDoor

namespace Go.Proofs.YthofaoabgbgbdaaGreatDoor
open Go Go.RowKit

theorem info_strG : (Tryz.prog.info? 9).map (fun i => (i.zero, i.size, i.bytes)) = some (some (.string ⟨#[]⟩), 1, 16) := by kernel_rfl

theorem GrowS_none (n : Nat) (w : World) (h0 : 0 < n) (h1 : n ≤ 2000) :
  Calls Tryz.prog 112 #[.slice none 0 0, .int .i64 n] w fun e w' => ∃ v, e = .returned v ∧ Below w.heap.size w w' ∧ w'.ownsRow w.heap.size 9 1 v 0 [] := by
 obtain ⟨i0, hi, hz0, hz1, hz2⟩ := info_parts info_strG
 refine (Tryz.slices_Grow_string i0 (.string ⟨#[]⟩) hi hz0 (by omega) none 0 0 n [] w (Nat.le_refl _) (by omega) (by rw [hz2]; omega) (by omega) (by simp) (fun _ => rfl) (fun a h => by cases h)).mono ?_
 rintro e w' ⟨rfl, rfl⟩
 refine ⟨_, rfl, ?_, rfl, .inr ⟨w.heap.size, _, _, rfl, Nat.le_refl _, heap_alloc_new w.drew _, Nat.zero_le _, grownCap_le_maxLen w (0 + n) 0 _ (by simp [maxLen]; omega), ?_, by simp⟩⟩
 ·exact (Below.refl _ w).drew.alloc (Nat.le_refl _) _
 ·have hge := grownCap_ge w (0 + n) 0 9
  simp only [Array.size_append, List.size_toArray, List.length_nil, size_zeroCells, show (Value.string ⟨#[]⟩).cells.size = 1 from rfl]
  omega

theorem src_cells {lo : Nat} {w : World} {a : Option Addr} {xs : List ByteArray} (h : RowK 1 encS lo w a xs) (hp : 0 < xs.length) : ∃ b o, a = some ⟨b, o, none⟩ ∧ b < w.heap.size ∧ ∀ j u, (txts xs)[j]? = some u → w.cell? ((⟨b, o, none⟩ : Addr).add j) = some u := by
 rcases h with h | ⟨b, o, rfl, -, hb, hc⟩
 ·omega
 ·refine ⟨b, o, rfl, hb, fun j u hj => ?_⟩
  unfold txts at hj
  rw [List.getElem?_map] at hj
  obtain ⟨x, hx, rfl⟩ := Option.map_eq_some_iff.1 hj
  obtain ⟨hlt, rfl⟩ := List.getElem?_eq_some_iff.1 hx
  have := hc j hlt 0 (by omega)
  rw [Addr.add_lit]
  simpa [encS] using this
theorem src_below {b o : Nat} {w w' : World} {us : List Value} (hb : b < w.heap.size) (h : ∀ j u, us[j]? = some u → w.cell? ((⟨b, o, none⟩ : Addr).add j) = some u) (hw : Below w.heap.size w w') : ∀ j u, us[j]? = some u → w'.cell? ((⟨b, o, none⟩ : Addr).add j) = some u := fun j u hj => by
 have := h j u hj
 rw [Addr.add_lit] at this ⊢
 exact keeps hw hb this

def upTo2 (xs ys : List ByteArray) (k : Nat) : List ByteArray := if k = 0 then [] else if k = 1 then xs else xs ++ ys

set_option maxRecDepth 100000 in
set_option maxHeartbeats 4000000 in
theorem ConcatS_two (lo : Nat) (lx ly : Value) (xs ys : List ByteArray) (w : World) (hx : SliceK 1 encS lo w lx xs) (hy : SliceK 1 encS lo w ly ys) (hxp : 0 < xs.length) (hyp : 0 < ys.length) (hn : xs.length + ys.length ≤ 1000)
  (b : Nat) (hb : Blk w b [lx, ly] 24) :
  Calls Tryz.prog 70 #[.slice (some ⟨b, 0, none⟩) 2 2] w fun e w' => ∃ v', e = .returned v' ∧ Below w.heap.size w w' ∧ OwnStrs w.heap.size w' v' (xs ++ ys) := by
 obtain ⟨ax, cx, rfl, hxc, hxm, hxr⟩ := hx
 obtain ⟨ay, cy, rfl, hyc, hym, hyr⟩ := hy
 obtain ⟨bx, ox, rfl, hbx, hcx⟩ := src_cells hxr hxp
 obtain ⟨by_, oy, rfl, hby, hcy⟩ := src_cells hyr hyp
 obtain ⟨n1, hn1⟩ : ∃ n1, n1 = xs.length := ⟨_, rfl⟩
 obtain ⟨n2, hn2⟩ : ∃ n2, n2 = ys.length := ⟨_, rfl⟩
 rw [← hn1] at hxp hn hxc hb
 rw [← hn2] at hyp hn hyc hb
 have HG := Lib.hid (fun w' => GrowS_none (n1 + n2) w' (by omega) (by omega))
 have HCX := Lib.hid hcx
 have HCY := Lib.hid hcy
 have HB := Lib.hid hb
 have HN1 := Lib.hid hn1
 have HN2 := Lib.hid hn2
 have c0 := hb.cell 0 rfl
 have c1 := hb.cell 1 rfl
 have hbl := hb.lt
 obtain ⟨i0, hi, hz0, hz1, hz2⟩ := info_parts info_strG
 clear hcx hcy hb hn1 hn2 hxr hyr
 go_enter Tryz.func70, Tryz.ntmps70
 go_wp2_with fail
 go_loopw [3, 11] (fun v3 v11 wr => wr = w ∧ ((v11 = .int .i64 0 ∧ v3 = .int .i64 0) ∨ (v11 = .int .i64 1 ∧ v3 = .int .i64 n1) ∨ (v11 = .int .i64 2 ∧ v3 = .int .i64 ((n1 + n2 : Nat) : Int)))) (fun _ v11 _ => 2 - (intOf v11).toNat)
 case atStart => exact ⟨rfl, .inl ⟨rfl, rfl⟩⟩
 case round =>
  obtain ⟨hww, ⟨rfl, rfl⟩ | ⟨rfl, rfl⟩ | ⟨rfl, rfl⟩⟩ := hrel
  all_goals (have hww2 := hww.symm; subst hww2; clear hww)
  ·go_wp2_with fail
   go_roundw
   case rel => exact ⟨by first | rfl | trivial, .inr (.inl ⟨by go_num, by go_num⟩)⟩
   case measure => simp [intOf]
  ·go_wp2_with fail
   go_roundw
   case rel => exact ⟨by first | rfl | trivial, .inr (.inr ⟨by go_num, by go_num⟩)⟩
   case measure => simp [intOf]
  ·clear c0 c1
   go_wp2_with fail
   refine Calls.mono (HG.out _) ?_
   rintro e w1 ⟨v, rfl, hb1, ho1⟩
   have HB1 := Lib.hid hb1
   have HO1 := Lib.hid ho1
   have hs1 := hb1.size
   clear hb1 ho1
   go_wp2_with fail
   go_loopw [6, 27] (fun v6 v27 wr => ∃ k : Nat, v27 = .int .i64 k ∧ k ≤ 2 ∧ Below w.heap.size w wr ∧ wr.ownsRow w.heap.size 9 1 v6 (upTo2 xs ys k).length (txts (upTo2 xs ys k))) (fun _ v27 _ => 2 - (intOf v27).toNat)
   case atStart => exact ⟨0, rfl, by omega, HB1.out, HO1.out⟩
   case round =>
    obtain ⟨k, rfl, hk, hbr, hor⟩ := hrel
    have HBR := Lib.hid hbr
    have HOR := Lib.hid hor
    have hsr := hbr.size
    rcases (show k = 0 ∨ k = 1 ∨ k = 2 by omega) with rfl | rfl | rfl
    ·have c0 := (HB.out.below hbr).cell 0 rfl
     have hsrc := Lib.hid (src_below hbx HCX.out hbr)
     clear hbr hor
     go_wp2_with (at_builtin; refine wpList_append_own_at _ rfl _ _ 24 rfl w.heap.size 9 i0 (.string ⟨#[]⟩) 1 16 Tryz.underlying24 hi hz0 hz1 hz2 rfl (by decide) _ _ _ rfl HOR.out ⟨bx, ox, none⟩ n1 cx (txts xs) rfl ?c1 hsrc.out ?c2 ?c3 ?c4 ?c5 ?_)
     case c1 => rw [txts_len, HN1.out]; omega
     case c2 => intro u hu; simp only [txts, List.mem_map] at hu; obtain ⟨x, -, rfl⟩ := hu; rfl
     case c3 => simp [upTo2, maxLen]; omega
     case c4 => simp [upTo2]; omega
     case c5 => omega
     intro v' w' ho' hg' _ _
     have HB' : Hid (Below w.heap.size w w') := HBR.out.grown hg' hsr (fun b e => (HOR.out.lt b e).1)
     have HO' : Hid (w'.ownsRow w.heap.size 9 1 v' (upTo2 xs ys 1).length (txts (upTo2 xs ys 1))) := by
      have h := ho'
      simp only [upTo2, if_true, List.length_nil, Nat.zero_add, txts, List.map_nil, List.nil_append] at h ⊢
      rw [HN1.out] at h
      exact h
     clear ho' hg'
     go_wp2
     go_roundw
     case rel => exact ⟨1, by go_num, by omega, HB'.out, HO'.out⟩
     case measure => simp [intOf]
    ·have c1 := (HB.out.below hbr).cell 1 rfl
     have hsrc := Lib.hid (src_below hby HCY.out hbr)
     clear hbr hor
     go_wp2_with (at_builtin; refine wpList_append_own_at _ rfl _ _ 24 rfl w.heap.size 9 i0 (.string ⟨#[]⟩) 1 16 Tryz.underlying24 hi hz0 hz1 hz2 rfl (by decide) _ _ _ rfl HOR.out ⟨by_, oy, none⟩ n2 cy (txts ys) rfl ?c1 hsrc.out ?c2 ?c3 ?c4 ?c5 ?_)
     case c1 => rw [txts_len, HN2.out]; omega
     case c2 => intro u hu; simp only [txts, List.mem_map] at hu; obtain ⟨x, -, rfl⟩ := hu; rfl
     case c3 => simp [upTo2, maxLen]; have := HN1.out; omega
     case c4 => simp [upTo2]; have := HN1.out; omega
     case c5 => omega
     intro v' w' ho' hg' _ _
     have HB' : Hid (Below w.heap.size w w') := HBR.out.grown hg' hsr (fun b e => (HOR.out.lt b e).1)
     have HO' : Hid (w'.ownsRow w.heap.size 9 1 v' (upTo2 xs ys 2).length (txts (upTo2 xs ys 2))) := by
      have h := ho'
      simp only [upTo2, if_true, if_neg (show ¬ (1 : Nat) = 0 by omega), if_neg (show ¬ (2 : Nat) = 0 by omega), if_neg (show ¬ (2 : Nat) = 1 by omega)] at h ⊢
      rw [HN2.out] at h
      unfold Hid
      rw [List.length_append]
      simpa [txts] using h
     clear ho' hg'
     go_wp2
     go_roundw
     case rel => exact ⟨2, by go_num, by omega, HB'.out, HO'.out⟩
     case measure => simp [intOf]
    ·clear hbr hor
     go_wp2
     go_ret
     exact ⟨_, rfl, HBR.out, HOR.out⟩

end Go.Proofs.YthofaoabgbgbdaaGreatDoor

namespace Go.Proofs.YthofaoabgbgbdaaGreatDoor
open Go Go.RowKit

theorem Valid_yes {lo : Nat} {t : Lts} {lv ev : Value} {w : World} (hv : Valid t) (hsh : Short20 t.labels) (hl : SliceK 1 encS lo w lv t.labels) (he : SliceK 3 encE lo w ev t.edges) (g : Glob w) :
  Calls Tryz.prog 15 #[.agg #[.int .i64 t.states, .int .i64 t.initial, lv, ev]] w fun e w' => e = .returned (.bool true) ∧ Below w.heap.size w w' :=
 Decides.yes (ValidLts_any lo t lv ev w hsh hl he g) hv
theorem Valid_no {lo : Nat} {t : Lts} {lv ev : Value} {w : World} (hv : ¬ Valid t) (hsh : Short20 t.labels) (hl : SliceK 1 encS lo w lv t.labels) (he : SliceK 3 encE lo w ev t.edges) (g : Glob w) :
  Calls Tryz.prog 15 #[.agg #[.int .i64 t.states, .int .i64 t.initial, lv, ev]] w fun e w' => e = .returned (.bool false) ∧ Below w.heap.size w w' :=
 Decides.no (ValidLts_any lo t lv ev w hsh hl he g) hv

theorem box_below (w : World) (a : Array Value) (T : TypeId) : Below w.heap.size w (w.alloc (.cells a T)) := (Below.refl _ _).alloc (Nat.le_refl _) _

end Go.Proofs.YthofaoabgbgbdaaGreatDoor

namespace Go.Proofs.YthofaoabgbgbdaaGreatDoor
open Go Go.RowKit

theorem Sort_one (a : Option Addr) (n cap : Nat) (w : World) (hn : n ≤ 1) :
  Calls Tryz.prog 83 #[.slice a n cap] w fun e w' => e = .returned (.tuple #[]) ∧ w = w' := by
 have h0 : (0 : Int) ≤ (n : Int) := by omega
 have h1 : (n : Int) ≤ 18446744073709551615 := by omega
 go_enter Tryz.func83, Tryz.ntmps83
 go_wp2_with fail
 refine (Tryz.bits_Len _ _ h0 h1).mono ?_
 rintro e w' ⟨rfl, rfl⟩
 go_wp2_with fail
 refine (pdq_one _ _ _ _ hn).mono ?_
 rintro e w' ⟨rfl, rfl⟩
 go_wp2_with fail
 go_end0
 exact ⟨rfl, rfl⟩

theorem info_int64x : (Tryz.prog.info? 2).map (fun i => (i.zero, i.size, i.bytes)) = some (some (.int .i64 0), 1, 8) := by kernel_rfl

theorem hit_take {p : Lts} {q : Int} {l : ByteArray} {k : Nat} (h : k < p.edges.length) (g : hitB p q l p.edges[k] = true) :
  ((p.edges.take (k + 1)).filter (hitB p q l)).map Edge.dst = ((p.edges.take k).filter (hitB p q l)).map Edge.dst ++ [p.edges[k].dst] := by
 rw [List.take_succ_eq_append_getElem h, List.filter_append, List.map_append]
 simp [g]
theorem miss_take {p : Lts} {q : Int} {l : ByteArray} {k : Nat} (h : k < p.edges.length) (g : hitB p q l p.edges[k] = false) :
  ((p.edges.take (k + 1)).filter (hitB p q l)).map Edge.dst = ((p.edges.take k).filter (hitB p q l)).map Edge.dst := by
 rw [List.take_succ_eq_append_getElem h, List.filter_append, List.map_append]
 simp [g]

set_option maxRecDepth 100000 in
set_option maxHeartbeats 2000000 in
theorem follow_one (lo lo2 : Nat) (p : Lts) (lv ev sv : Value) (q : Int) (l : ByteArray) (w : World) (hvp : Valid p) (hsp : Single p) (hl : SliceK 1 encS lo w lv p.labels) (he : SliceK 3 encE lo w ev p.edges) (hs : SliceK 1 encI lo2 w sv [q]) :
  Calls Tryz.prog 42 #[.agg #[.int .i64 p.states, .int .i64 p.initial, lv, ev], sv, .string l] w (MadeNums (behind p q l) w) := by
 have HS := Lib.hid hs
 have hone := behind_one hvp hsp q l
 have HE := Lib.hid hvp.edge
 have hmost := hvp.most
 clear hs hvp hsp
 obtain ⟨al, cl, rfl, hln, hlc, hlr⟩ := hl
 obtain ⟨ae, ce, rfl, hen, hec, hrow⟩ := he
 have HLR := Lib.hid hlr
 have HER := Lib.hid hrow
 clear hlr hrow
 obtain ⟨i0, hi, hz0, hz1, hz2⟩ := info_parts info_int64x
 have HB0 : Hid (Below w.heap.size w (w.alloc (.cells #[.int .i64 p.states, .int .i64 p.initial, .slice al p.labels.length cl, .slice ae p.edges.length ce] 27))) := (Below.refl _ _).alloc (Nat.le_refl _) _
 have HQ2 : Hid ((w.alloc (.cells #[.int .i64 p.states, .int .i64 p.initial, .slice al p.labels.length cl, .slice ae p.edges.length ce] 27)).cell? ⟨w.heap.size, 2, none⟩ = some (.slice al p.labels.length cl)) := by unfold Hid; simp
 obtain ⟨wB, hwB⟩ : ∃ wB, wB = w.alloc (.cells #[.int .i64 p.states, .int .i64 p.initial, .slice al p.labels.length cl, .slice ae p.edges.length ce] 27) := ⟨_, rfl⟩
 have hwz : wB.heap.size = w.heap.size + 1 := by rw [hwB]; simp
 rw [← hwB] at HB0 HQ2
 have HWB := Lib.hid hwB
 clear hwB
 go_enter Tryz.func42, Tryz.ntmps42
 go_wp2_with fail
 rw [← HWB.out]
 clear HWB
 go_loopw [7, 13] (fun v i wr => ∃ k : Nat, k ≤ p.edges.length ∧ i = .int .i64 k ∧ Below wB.heap.size wB wr ∧ wr.ownsRow wB.heap.size 2 1 v (((p.edges.take k).filter (hitB p q l)).map Edge.dst).length ((((p.edges.take k).filter (hitB p q l)).map Edge.dst).map (Value.int .i64))) (fun _ i _ => p.edges.length - (intOf i).toNat)
 case atStart => exact ⟨0, Nat.zero_le _, rfl, Below.refl _ _, World.ownsRow_nil _ _ _ _⟩
 case round =>
  obtain ⟨k, hk, rfl, hbl, ho⟩ := hrel
  have HBL := Lib.hid hbl
  have HO := Lib.hid ho
  have hsz := hbl.size
  have q2 := keeps hbl (by omega) HQ2.out
  have hwr : w.heap.size < wr.heap.size := by omega
  have hfl : (((p.edges.take k).filter (hitB p q l)).map Edge.dst).length ≤ k := by rw [List.length_map]; exact Nat.le_trans (List.length_filter_le _ _) (List.length_take_le _ _)
  clear hbl ho
  by_cases hlt : k < p.edges.length
  ·have hbr := HB0.out.trans (HBL.out.mono HB0.out.size)
   obtain ⟨be, oe, rfl, -, hbe, e1, e2, e3⟩ := (HER.out.below hbr).edge hlt
   have hek := HE.out k hlt
   obtain ⟨hll, hla⟩ := labAt_idx hek
   obtain ⟨bl, ol, rfl, -, hbl2, c1⟩ := (HLR.out.below hbr).one hll
   simp only [encS, List.getElem?_cons_zero] at c1
   rw [← hla] at c1
   have hl0 : ((p.edges[k].lab.toNat : Nat) : Int) = p.edges[k].lab := by have := hek.l0; omega
   have hl1 := hek.l1
   have hl2 := hek.l0
   obtain ⟨e, hee⟩ : ∃ e, e = p.edges[k] := ⟨_, rfl⟩
   obtain ⟨m, hm⟩ : ∃ m, m = p.edges[k].lab.toNat := ⟨_, rfl⟩
   rw [← hm] at c1 hl0 hll
   rw [← hee] at e1 e2 e3 c1 hl0 hl1 hl2
   have HEE := Lib.hid hee
   rw [← hl0] at e2
   have HBA : Hid (Below wB.heap.size wB (wr.alloc (.cells #[.int .i64 e.src, .int .i64 m, .int .i64 e.dst] 68))) := HBL.out.alloc hsz _
   have HSA : Hid (SliceK 1 encI lo2 (wr.alloc (.cells #[.int .i64 e.src, .int .i64 m, .int .i64 e.dst] 68)) sv [q]) := HS.out.below (hbr.alloc hbr.size _)
   have HOA : Hid ((wr.alloc (.cells #[.int .i64 e.src, .int .i64 m, .int .i64 e.dst] 68)).ownsRow wB.heap.size 2 1 u7 (((p.edges.take k).filter (hitB p q l)).map Edge.dst).length ((((p.edges.take k).filter (hitB p q l)).map Edge.dst).map (Value.int .i64))) := HO.out.alloc _
   have hml : (m : Int) < (p.labels.length : Int) := by omega
   clear hl0 hl1 hl2 hek hbr hla
   cases g1 : ((labAt p e).toList == l.toList)
   ·have HG : Hid (hitB p q l p.edges[k] = false) := by unfold Hid hitB; rw [← hee, g1, Bool.and_false]
    clear hee hm
    go_wp2_with fail
    go_roundw
    case rel => exact ⟨k + 1, by omega, by go_num, HBA.out, by rw [miss_take hlt HG.out]; exact HOA.out⟩
    case measure => simp [intOf]; omega
   ·cases g2 : (q == e.src)
    ·have HG : Hid (hitB p q l p.edges[k] = false) := by
      unfold Hid hitB
      rw [← hee]
      have : (e.src == q) = false := by rw [beq_eq_false_iff_ne] at g2 ⊢; exact fun h => g2 h.symm
      rw [this, Bool.false_and]
     have HG2 : Hid (([q].any fun y => y == e.src) = false) := by unfold Hid; simp [g2]
     clear hee hm g2
     go_wp2_with fail
     refine (Contains_ints lo2 _ _ [q] _ HSA.out).mono ?_
     rintro e' w' ⟨rfl, rfl⟩
     rw [HG2.out]
     go_wp2_with fail
     go_roundw
     case rel => exact ⟨k + 1, by omega, by go_num, HBA.out, by rw [miss_take hlt HG.out]; exact HOA.out⟩
     case measure => simp [intOf]; omega
    ·have HG : Hid (hitB p q l p.edges[k] = true) := by
      unfold Hid hitB
      rw [← hee]
      have : (e.src == q) = true := by rw [beq_iff_eq] at g2 ⊢; exact g2.symm
      rw [this, g1]; rfl
     have HG2 : Hid (([q].any fun y => y == e.src) = true) := by unfold Hid; simp [g2]
     have HD : Hid (p.edges[k].dst = e.dst) := by unfold Hid; rw [← hee]
     clear hee hm g2
     have hfz := hfl
     generalize hfs : ((p.edges.take k).filter (hitB p q l)).map Edge.dst = fs at *
     have HFS := Lib.hid hfs
     clear hfs
     go_wp2_with fail
     refine (Contains_ints lo2 _ _ [q] _ HSA.out).mono ?_
     rintro e' w' ⟨rfl, rfl⟩
     rw [HG2.out]
     go_wp2_with (at_builtin; refine wpList_append_own _ rfl _ _ 34 rfl wB.heap.size 2 i0 (.int .i64 0) 1 8 Tryz.underlying34 hi hz0 hz1 hz2 rfl (by decide) _ _ _ rfl (HOA.out.alloc _) ⟨wr.heap.size + 1, 0, none⟩ 1 1 [.int .i64 e.dst] rfl rfl ?c1 ?c2 ?c3 ?c4 ?c5 ?_)
     case c1 => have := cell_one_new (wr.alloc (.cells #[.int .i64 e.src, .int .i64 m, .int .i64 e.dst] 68)) (.int .i64 e.dst) 2; simpa using this
     case c2 => intro u hu; simp at hu; subst hu; rfl
     case c3 => simp [maxLen]; omega
     case c4 => omega
     case c5 => simp; omega
     intro v' w3 ho1 hg1 _
     have HO2 : Hid (w3.ownsRow wB.heap.size 2 1 v' (fs ++ [e.dst]).length ((fs ++ [e.dst]).map (Value.int .i64))) := by
      unfold Hid
      rw [List.length_append, List.map_append, hwz]
      exact ho1
     have HB2 : Hid (Below wB.heap.size wB w3) := (HBA.out.alloc (by simp; omega) _).grown hg1 (by simp; omega) (fun b e => (HO.out.lt b e).1)
     clear ho1 hg1
     go_wp2_with fail
     go_roundw
     case rel => exact ⟨k + 1, by omega, by go_num, HB2.out, by rw [hit_take hlt HG.out, HFS.out, HD.out]; exact HO2.out⟩
     case measure => simp [intOf]; omega
  ·obtain rfl : k = p.edges.length := by omega
   have HO2 : Hid (wr.ownsRow wB.heap.size 2 1 u7 (behind p q l).length ((behind p q l).map (Value.int .i64))) := by
    have := HO.out
    rw [List.take_length] at this
    exact this
   obtain ⟨a7, c7, rfl, -, -⟩ := owns_slice HO2.out
   clear HO HER HLR q2
   go_wp2_with fail
   refine (Sort_one _ _ _ _ hone).mono ?_
   rintro e' w' ⟨rfl, rfl⟩
   go_wp2_with fail
   refine (Compact_one _ _ _ _ hone).mono ?_
   rintro e' w' ⟨rfl, rfl⟩
   go_wp2_with fail
   go_ret
   exact ⟨_, rfl, HB0.out.trans (HBL.out.mono HB0.out.size), own_lower HO2.out HB0.out.size⟩

end Go.Proofs.YthofaoabgbgbdaaGreatDoor

namespace Go.Proofs.YthofaoabgbgbdaaGreatDoor
open Go Go.RowKit

set_option maxRecDepth 100000 in
set_option maxHeartbeats 1000000 in
theorem step_any (lo : Nat) (p : Lts) (lv ev : Value) (q : Int) (l : ByteArray) (w : World) (hvp : Valid p) (hsp : Single p) (hl : SliceK 1 encS lo w lv p.labels) (he : SliceK 3 encE lo w ev p.edges) :
  Calls Tryz.prog 80 #[.agg #[.int .i64 p.states, .int .i64 p.initial, lv, ev], .int .i64 q, .string l] w fun e w' => e = .returned (.int .i64 (goTo p q l)) ∧ Below w.heap.size w w' := by
 have HB0 := Lib.hid (box_below w #[.int .i64 p.states, .int .i64 p.initial, lv, ev] 27)
 by_cases hq : q < 0
 ·have HF : Hid (goTo p q l = -1) := by unfold Hid goTo; rw [if_pos hq]
  clear hvp hsp hl he
  go_enter Tryz.func80, Tryz.ntmps80
  go_wp2_with fail
  go_ret
  exact ⟨ret_int HF.out.symm, HB0.out⟩
 ·have hq' : ¬ q < 0 := hq
  have HF := Lib.hid (goTo_behind (p := p) (q := q) (by omega) l)
  have HB1 : Hid (Below w.heap.size w ((w.alloc (.cells #[.int .i64 p.states, .int .i64 p.initial, lv, ev] 27)).alloc (.cells #[.int .i64 q] 2))) := HB0.out.alloc HB0.out.size _
  have HS : Hid (SliceK 1 encI 0 ((w.alloc (.cells #[.int .i64 p.states, .int .i64 p.initial, lv, ev] 27)).alloc (.cells #[.int .i64 q] 2)) (.slice (some ⟨w.heap.size + 1, 0, none⟩) 1 1) [q]) := by
   have := World.ownsRow_lit (base := 0) (e := 2) (size := 1) (w.alloc (.cells #[.int .i64 p.states, .int .i64 p.initial, lv, ev] 27)) #[.int .i64 q] 1 (Nat.zero_le _) (by decide) (by simp)
   have e9 : (w.alloc (.cells #[.int .i64 p.states, .int .i64 p.initial, lv, ev] 27)).heap.size = w.heap.size + 1 := by simp
   rw [e9] at this
   exact SliceK.of_owns (e := 2) encI_len rfl (by rw [flat_encI]; simpa using this)
  have HC := Lib.hid (follow_one lo 0 p lv ev (.slice (some ⟨w.heap.size + 1, 0, none⟩) 1 1) q l _ hvp hsp (hl.below HB1.out) (he.below HB1.out) HS.out)
  clear hvp hsp hl he hq
  go_enter Tryz.func80, Tryz.ntmps80
  go_wp2_with fail
  refine Calls.mono HC.out ?_
  rintro e w1 ⟨v, rfl, hb1, ho1⟩
  have HB2 := Lib.hid (HB1.out.trans (hb1.mono HB1.out.size))
  clear hb1
  obtain ⟨av, cv, rfl, hc1, hc2⟩ := owns_slice ho1
  cases hbh : behind p q l with
  | nil =>
   have HG : Hid (goTo p q l = -1) := by unfold Hid; rw [HF.out, hbh]; rfl
   clear ho1 hc1
   simp only [List.length_nil]
   go_wp2_with fail
   go_ret
   exact ⟨ret_int HG.out.symm, HB2.out⟩
  | cons x r =>
   have HG : Hid (goTo p q l = x) := by unfold Hid; rw [HF.out, hbh]; rfl
   rw [hbh] at ho1
   have hsl : SliceK 1 encI 0 w1 (.slice av (x :: r).length cv) (x :: r) := SliceK.of_owns (e := 2) encI_len rfl (by rw [flat_encI]; exact own_lower ho1 (Nat.zero_le _))
   obtain ⟨a2, c2, e2, h2, h3, hrow⟩ := hsl
   simp only [Value.slice.injEq, true_and] at e2
   obtain ⟨rfl, rfl⟩ := e2
   obtain ⟨b1, o1, rfl, -, hbs, k1⟩ := hrow.one (i := 0) (by simp)
   simp only [encI, List.getElem?_cons_zero, List.getElem_cons_zero, Nat.add_zero] at k1
   have hlen : (0 : Int) < ((x :: r).length : Int) := by simp
   obtain ⟨n, hn⟩ : ∃ n, n = (x :: r).length := ⟨_, rfl⟩
   rw [← hn] at hlen
   simp only [← hn]
   clear ho1 hrow hc1 h2 hn hbh
   go_wp2_with fail
   go_ret
   exact ⟨ret_int HG.out.symm, HB2.out⟩

end Go.Proofs.YthofaoabgbgbdaaGreatDoor
