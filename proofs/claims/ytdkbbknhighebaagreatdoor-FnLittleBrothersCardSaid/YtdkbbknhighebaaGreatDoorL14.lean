/-
  A queue in a slice of the call's own: popped in front (q = q[1:]), pushed behind (q = append(q, x)). Elements of one cell.
  The reference's l02Norm: numbers by first sight.
  The program's distances from one state.
  The library's slices.DeleteFunc at a row of numbers of the call's own, with a function that may lay blocks of its own.
  The program's upTo: the numbers from 0 on.
  The program's reachable.
  The program's normal: numbers by first sight.
-/
import Derived.Test.YtdkbbknhighebaaGreatDoorL1
import Derived.ArgAppend
import Derived.Test.YtdkbbknhighebaaGreatDoorL5
import Derived.Maps.AppendAt
import Derived.Test.YtdkbbknhighebaaGreatDoorL13
import Derived.Test.YtdkbbknhighebaaGreatDoorL4
import Derived.Sort.LoopGhostIn
import Derived.Test.YtdkbbknhighebaaGreatDoorL10
import Derived.Test.YtdkbbknhighebaaGreatDoorL8
namespace Go.Proofs.YtdkbbknhighebaaGreatDoor
open Go Go.RowKit

/-- The slice v holds xs, from some place on of a block of the call's own. -/
def TailRow (w : World) (base : Nat) (e : TypeId) (v : Value) (xs : List Value) : Prop :=
 (v = .slice none 0 0 ∧ xs = []) ∨
 ∃ g o cap cur, v = .slice (some ⟨g, o, none⟩) xs.length cap ∧ base ≤ g ∧ w.heap[g]? = some (.cells cur e (0, 0)) ∧ xs.length ≤ cap ∧ cap ≤ maxLen ∧ o + cap ≤ cur.size ∧ ∀ j (h : j < xs.length), cur[o + j]? = some xs[j]

theorem TailRow.of_owns {w : World} {base : Nat} {e : TypeId} {v : Value} {xs : List Value} (h : w.ownsRow base e 1 v xs.length xs) : TailRow w base e v xs := by
 rcases h.2 with ⟨h1, h2⟩ | ⟨g, cap, cur, h1, h2, h3, h4, h5, h6, h7⟩
 ·exact .inl ⟨h1, List.eq_nil_of_length_eq_zero h2⟩
 ·refine .inr ⟨g, 0, cap, cur, h1, h2, h3, h4, h5, by omega, fun j hj => ?_⟩
  rw [Nat.mul_one] at h7
  have h8 : (cur.toList.take xs.length)[j]? = xs[j]? := by rw [h7]
  rw [List.getElem?_take, if_pos hj, List.getElem?_eq_getElem hj] at h8
  rw [Nat.zero_add]
  simpa using h8

theorem TailRow.nil (w : World) (base : Nat) (e : TypeId) : TailRow w base e (.slice none 0 0) [] := .inl ⟨rfl, rfl⟩

theorem TailRow.kept {w w' : World} {base : Nat} {e : TypeId} {v : Value} {xs : List Value} {row : Option Nat} (h : TailRow w base e v xs) (hg : w.grownBy w' row) (hne : v.ownBlock = none ∨ v.ownBlock ≠ row) : TailRow w' base e v xs := by
 rcases h with h | ⟨g, o, cap, cur, rfl, h2, h3, rest⟩
 ·exact .inl h
 ·refine .inr ⟨g, o, cap, cur, rfl, h2, ?_, rest⟩
  rw [hg.block g (Array.getElem?_eq_some_iff.1 h3).1 (by simpa [Value.ownBlock] using hne)]
  exact h3
theorem TailRow.below {w w' : World} {base : Nat} {e : TypeId} {v : Value} {xs : List Value} (h : TailRow w base e v xs) (hb : Below w.heap.size w w') : TailRow w' base e v xs := by
 rcases h with h | ⟨g, o, cap, cur, rfl, h2, h3, rest⟩
 ·exact .inl h
 ·exact .inr ⟨g, o, cap, cur, rfl, h2, (hb.block g (Array.getElem?_eq_some_iff.1 h3).1).trans h3, rest⟩
theorem TailRow.lt {w : World} {base : Nat} {e : TypeId} {v : Value} {xs : List Value} (h : TailRow w base e v xs) : ∀ k, v.ownBlock = some k → base ≤ k ∧ k < w.heap.size := by
 intro k hk
 rcases h with ⟨rfl, _⟩ | ⟨g, o, cap, cur, rfl, h2, h3, _⟩
 ·simp [Value.ownBlock] at hk
 ·simp [Value.ownBlock] at hk
  subst hk
  exact ⟨h2, (Array.getElem?_eq_some_iff.1 h3).1⟩

/-- The first element's cell, and the slice's form. -/
theorem TailRow.head {w : World} {base : Nat} {e : TypeId} {v : Value} {x : Value} {xs : List Value} (h : TailRow w base e v (x :: xs)) :
  ∃ g o cap, v = .slice (some ⟨g, o, none⟩) (xs.length + 1) cap ∧ base ≤ g ∧ g < w.heap.size ∧ xs.length + 1 ≤ cap ∧ cap ≤ maxLen ∧ w.cell? ⟨g, o, none⟩ = some x := by
 rcases h with ⟨_, h⟩ | ⟨g, o, cap, cur, rfl, h2, h3, h4, h5, h6, h7⟩
 ·cases h
 ·refine ⟨g, o, cap, by simp, h2, (Array.getElem?_eq_some_iff.1 h3).1, by simpa using h4, h5, ?_⟩
  have := h7 0 (by simp)
  rw [cell_of_row w g o cur e (0, 0) h3]
  simpa using this
/-- Popped. -/
theorem TailRow.pop {w : World} {base : Nat} {e : TypeId} {g o cap : Nat} {x : Value} {xs : List Value} (h : TailRow w base e (.slice (some ⟨g, o, none⟩) (xs.length + 1) cap) (x :: xs)) :
  TailRow w base e (.slice (some ⟨g, o + 1, none⟩) xs.length (cap - 1)) xs := by
 rcases h with ⟨_, h⟩ | ⟨g', o', cap', cur, h1, h2, h3, h4, h5, h6, h7⟩
 ·cases h
 ·simp only [Value.slice.injEq, Option.some.injEq, Addr.mk.injEq, and_true, List.length_cons, true_and] at h1
  obtain ⟨⟨rfl, rfl⟩, rfl⟩ := h1
  simp only [List.length_cons] at h4
  refine .inr ⟨g, o + 1, cap - 1, cur, rfl, h2, h3, by omega, by omega, by omega, fun j hj => ?_⟩
  have := h7 (j + 1) (by simpa using hj)
  rw [show o + 1 + j = o + (j + 1) from by omega]
  simpa using this
/-- Popped empty: the slice's address may have stayed. -/
theorem TailRow.empty {w : World} {base : Nat} {e : TypeId} {g o cap : Nat} {xs : List Value} {v : Value} (h : TailRow w base e (.slice (some ⟨g, o, none⟩) xs.length cap) xs) (o' : Nat) (hv : v = .slice (some ⟨g, o', none⟩) 0 0) (ho : o' ≤ o) : TailRow w base e v [] := by
 rcases h with ⟨h, _⟩ | ⟨g', o2, cap', cur, h1, h2, h3, h4, h5, h6, h7⟩
 ·simp at h
 ·simp only [Value.slice.injEq, Option.some.injEq, Addr.mk.injEq, and_true, true_and] at h1
  obtain ⟨⟨rfl, rfl⟩, rfl⟩ := h1
  exact .inr ⟨g, o', 0, cur, hv, h2, h3, by simp, by simp [maxLen], by omega, fun j hj => by simp at hj⟩

theorem setCells_one (w : World) (b o : Nat) (u : Value) : w.setCells b o [u] = w.setCell ⟨b, o, none⟩ u := rfl

theorem wpList_append_tail {P : Program} (w : World) {ops : Array Oper} {rest : List Oper} {o : Oper} {a : Act} {Q : Exit → Act → World → Prop}
  (hg : o.guard = none) (s x : Operand) (t : TypeId) (hop : o.op = Op.call { callee := Callee.builtin Builtin.append, args := #[s, x], argTypes := #[t, t] })
  (base : Nat) (e : TypeId) (i : TypeInfo) (z : Value) (bytes : Nat) (h1 : P.underlying t = some (.slice e)) (h2 : P.info? e = some i) (h3 : i.zero = some z) (h4 : i.size = 1) (h5 : i.bytes = bytes) (h6 : z.cells.size = 1)
  (v : Value) (xs : List Value) (hs : a.eval s = v) (hown : TailRow w base e v xs)
  (ad : Addr) (u : Value) (hx : a.eval x = .slice (some ad) 1 1) (hc : w.cell? ad = some u) (h1c : u.oneCell' = true)
  (b1 : xs.length + 1 ≤ maxLen) (b2 : (xs.length + 1) * bytes ≤ 140737488355328) (hbase : base ≤ w.heap.size)
  (hK : ∀ v' w', TailRow w' base e v' (xs ++ [u]) → w.grownBy w' v.ownBlock → wpList P ops Q rest (a.put o.dst v') w') :
  wpList P ops Q (o :: rest) a w := by
 have hcs : ∀ j u', [u][j]? = some u' → w.cell? (ad.add j) = some u' := by
  intro j u' hj
  match j, hj with
  | 0, hj =>
   simp only [List.getElem?_cons_zero, Option.some.injEq] at hj
   subst hj
   have : ad.add 0 = ad := by cases ad; simp [Addr.add]
   rw [this]; exact hc
  | j + 1, hj => simp at hj
 rcases hown with ⟨rfl, rfl⟩ | ⟨g, off, cap, cur, rfl, k2, k3, k4, k5, k6, k7⟩
 ·refine wpList_append_own w hg s x t hop base e i z 1 bytes h1 h2 h3 h4 h5 h6 (by omega) (.slice none 0 0) 0 [] hs (World.ownsRow_nil w base e 1) ad 1 1 [u] hx rfl hcs (by simpa using h1c) (by simpa using b1) (by simpa using b2) hbase ?_
  intro v' w' r1 r2 _
  exact hK v' w' (TailRow.of_owns r1) r2
 ·have hcell : ∀ j u', xs[j]? = some u' → w.cell? ⟨g, off + j, none⟩ = some u' := by
   intro j u' hj
   obtain ⟨hlt, rfl⟩ := List.getElem?_eq_some_iff.1 hj
   rw [cell_of_row w g (off + j) cur e (0, 0) k3]
   exact k7 j hlt
  refine wpList_append_arg w hg s x t hop e i z 1 bytes h1 h2 h3 h4 h5 h6 (by omega) g off xs.length cap xs hs (by omega) hcell ad 1 1 [u] hx rfl hcs (by simpa using h1c) ?_ b1 b2 ?_ ?_
  ·intro hr j hj
   simp only [List.length_singleton] at hj
   have hlt : off + xs.length * 1 + j < cur.size := by omega
   refine ⟨?_, ?_⟩
   ·rw [cell_of_row w g _ cur e (0, 0) k3, Array.getElem?_eq_getElem hlt]; rfl
   ·simp [World.frozen?, k3]
  ·intro hr
   rw [setCells_one, Nat.mul_one]
   refine hK _ _ (.inr ⟨g, off, cap, cur.setIfInBounds (off + xs.length) u, by simp, k2, ?_, by simpa using hr, k5, by simpa using k6, ?_⟩) (grown_setCell w ⟨g, off + xs.length, none⟩ u)
   ·have hlt := (Array.getElem?_eq_some_iff.1 k3).1
    simp only [World.setCell]
    rw [Array.getElem?_modify, if_pos rfl, k3]
    rfl
   ·intro j hj
    rw [List.length_append, List.length_singleton] at hj
    by_cases e1 : j = xs.length
    ·subst e1
     rw [Array.getElem?_setIfInBounds_self_of_lt (by omega)]
     simp
    ·rw [Array.getElem?_setIfInBounds_ne (by omega), List.getElem_append_left (by omega)]
     exact k7 j (by omega)
  ·intro hlt v' w' r1 r2
   refine hK v' w' (TailRow.of_owns ?_) ⟨r2.os, r2.tape, r2.output, r2.size, fun k hk _ => r2.block k hk (by simp)⟩
   rw [List.length_append, List.length_singleton]
   exact own_lower r1 hbase

end Go.Proofs.YtdkbbknhighebaaGreatDoor

namespace Go.Proofs.YtdkbbknhighebaaGreatDoor
open Go Go.RowKit


theorem info_int64N : (Tryz.prog.info? 2).map (fun i => (i.zero, i.size, i.bytes)) = some (some (.int .i64 0), 1, 8) := by kernel_rfl
end Go.Proofs.YtdkbbknhighebaaGreatDoor

namespace Go.Proofs.YtdkbbknhighebaaGreatDoor
open Go Go.RowKit


theorem tail_lenF {w : World} {base : Nat} {e : TypeId} {v : Value} {xs : List Value} (h : TailRow w base e v xs) : ∃ a c, v = .slice a xs.length c := by
 rcases h with ⟨rfl, rfl⟩ | ⟨g, o, cap, cur, rfl, -⟩
 ·exact ⟨none, 0, rfl⟩
 ·exact ⟨_, _, rfl⟩
/-- Popped, whatever the capacity. -/
theorem TailRow.popF {w : World} {base : Nat} {e : TypeId} {g o cap : Nat} {x : Value} {xs : List Value} (h : TailRow w base e (.slice (some ⟨g, o, none⟩) (xs.length + 1) cap) (x :: xs)) {o2 : Nat} (ho : o2 = if cap = 1 then o else o + 1) :
  TailRow w base e (.slice (some ⟨g, o2, none⟩) xs.length (cap - 1)) xs := by
 by_cases hc : cap = 1
 ·rw [if_pos hc] at ho
  subst ho
  rcases h with ⟨_, h⟩ | ⟨g', o', cap', cur, h1, h2, h3, h4, h5, h6, h7⟩
  ·cases h
  ·simp only [Value.slice.injEq, Option.some.injEq, Addr.mk.injEq, and_true, List.length_cons, true_and] at h1
   obtain ⟨⟨rfl, rfl⟩, rfl⟩ := h1
   simp only [List.length_cons] at h4
   have hx : xs = [] := List.eq_nil_of_length_eq_zero (by omega)
   subst hx
   exact .inr ⟨g, o2, cap - 1, cur, rfl, h2, h3, by simp, by omega, by omega, fun j hj => absurd hj (Nat.not_lt_zero _)⟩
 ·rw [if_neg hc] at ho
  subst ho
  exact h.pop
theorem slice_popF (g o n c : Nat) (hn : 1 ≤ n) (w : World) : (Instr.slice 35 (.slice (some ⟨g, o, none⟩) n c) (some (.int .i64 1)) none none).run Tryz.prog w = .ok (.slice (some ⟨g, if c = 1 then o else o + 1, none⟩) (n - 1) (c - 1)) w := by
 have hel : Tryz.prog.elem 35 = 2 := by simp [Program.elem, Tryz.underlying35]
 have hs : ∀ w, (Go.sizeOf 2).run Tryz.prog w = .ok 1 w := fun w => by kernel_rfl
 rw [run_slice_l w 35 (some ⟨g, o, none⟩) n c (by rw [hel]; exact Tryz.underlying35) .i64 1 (by decide) (by omega), hel, hs]
 simp only [Result.andThen, sliced, Nat.one_mul, Int.toNat_one]
 by_cases h : c = 1
 ·simp [h]
 ·simp [h, Addr.add_lit]
theorem far_own {w : World} {B G S : Nat} {xs : List Int} (h : Blk w G (xs.map (Value.int .i64)) 2) (hB : B ≤ G) (hl : xs.length = S) (hS : S ≤ 1000) : w.ownsRow B 2 1 (.slice (some ⟨G, 0, none⟩) S S) S (xs.map (Value.int .i64)) :=
 ⟨by rw [List.length_map]; omega, .inr ⟨G, S, (xs.map (Value.int .i64)).toArray, rfl, hB, h, Nat.le_refl _, by simp [maxLen]; omega, by simp; omega, by rw [List.toList_toArray]; exact List.take_of_length_le (by rw [List.length_map]; omega)⟩⟩
theorem far_cell {w : World} {B G S : Nat} {far : List Int} (h : w.ownsRow B 2 1 (.slice (some ⟨G, 0, none⟩) S S) S (far.map (Value.int .i64))) (hl : far.length = S) {i : Nat} (hi : i < S) : w.cell? ⟨G, i, none⟩ = some (.int .i64 (far.getD i 0)) := by
 have h1 := h.cellAt i (by omega)
 rw [List.getElem?_map, List.getElem?_eq_getElem (by omega)] at h1
 rw [h1, List.getD_eq_getElem?_getD, List.getElem?_eq_getElem (by omega)]
 rfl

theorem cell_one_newF (w : World) (u : Value) (t : TypeId) : (w.alloc (.cells #[u] t)).cell? ⟨w.heap.size, 0, none⟩ = some u := (Blk.new w [u] t).cell 0 rfl
theorem tail_farne {w : World} {base G : Nat} {e : TypeId} {v : Value} {xs : List Value} (h : TailRow w base e v xs) (hG : G < base) : v.ownBlock = none ∨ v.ownBlock ≠ some G := by
 cases hb : v.ownBlock with
 | none => exact .inl rfl
 | some b =>
  refine .inr fun e => ?_
  simp only [Option.some.injEq] at e
  have := (h.lt b hb).1
  omega

set_option maxRecDepth 100000 in
set_option maxHeartbeats 8000000 in
theorem distances_any (lo fb S : Nat) (t : Lts) (lv ev : Value) (w : World) (hv : Valid t) (hS : (S : Int) = t.states) (hl : ∃ a n c, lv = .slice a n c) (he : SliceK 3 encE lo w ev t.edges) (hf : w.cell? ⟨fb, 0, none⟩ = some (.int .i64 t.initial)) (hfl : fb < w.heap.size) :
  Calls Tryz.prog 38 #[.agg #[.int .i64 t.states, .int .i64 t.initial, lv, ev], .slice (some ⟨fb, 0, none⟩) 1 1, .bool true] w fun e w' => ∃ (G : Nat) (far : List Int), e = .returned (.slice (some ⟨G, 0, none⟩) S S) ∧ Below w.heap.size w w' ∧ w'.ownsRow w.heap.size 2 1 (.slice (some ⟨G, 0, none⟩) S S) S (far.map (Value.int .i64)) ∧ FarInv t S far [] := by
 obtain ⟨i1, hi1, hy0, hy1, hy2⟩ := info_parts info_int64N
 have hst0 := hv.st0
 have hst1 := hv.st1
 have hin0 := hv.in0
 have hin1 := hv.in1
 have hS1 : 1 ≤ S := by omega
 have hS40 : S ≤ 40 := by omega
 have hen3 : t.edges.length ≤ 300 := hv.most
 obtain ⟨ki, hki⟩ : ∃ ki : Nat, (ki : Int) = t.initial := ⟨t.initial.toNat, by omega⟩
 have hkiS : ki < S := by omega
 have hkiI : (ki : Int) < (S : Int) := by omega
 rw [← hki] at hf
 have HSTART := Lib.hid (FarInv.start hv hS)
 rw [← hki, Int.toNat_natCast] at HSTART
 obtain ⟨l1, l2, l3, rfl⟩ := hl
 obtain ⟨ea, ec, rfl, hen, hec, herow⟩ := he
 have HER := Lib.hid herow
 obtain ⟨EN, hEN⟩ : ∃ EN, EN = t.edges.length := ⟨_, rfl⟩
 rw [← hEN] at hen hen3 ⊢
 have HEN := Lib.hid hEN
 obtain ⟨tb, htb⟩ : ∃ tb, tb = w.heap.size := ⟨_, rfl⟩
 obtain ⟨W, hW⟩ : ∃ W, W = (w.alloc (.cells #[.int .i64 S, .int .i64 ki, .slice l1 l2 l3, .slice ea EN ec] 27)).alloc (.cells #[.int .i64 (-1)] 2) := ⟨_, rfl⟩
 obtain ⟨nb, hnb⟩ : ∃ nb, nb = w.heap.size + 1 := ⟨_, rfl⟩
 have hbW : Below w.heap.size w W := by rw [hW]; exact ((Below.refl _ _).alloc (Nat.le_refl _) _).alloc (by simp) _
 have hT : Blk W tb [.int .i64 S, .int .i64 ki, .slice l1 l2 l3, .slice ea EN ec] 27 := by rw [hW, htb]; exact (Blk.new w _ _).alloc _
 have hNB : W.cell? ⟨nb, 0, none⟩ = some (.int .i64 (-1)) := by
  have h := (Blk.new (w.alloc (.cells #[.int .i64 S, .int .i64 ki, .slice l1 l2 l3, .slice ea EN ec] 27)) [.int .i64 (-1)] 2).cell 0 rfl
  rw [World.size_alloc, ← hnb] at h
  rw [hW]
  exact h
 have HREP := Lib.hid (RepeatN_any S nb W hS1 hS40 hNB)
 have hfW := keeps hbW hfl hf
 have HF := Lib.hid hfW
 have hflW : fb < W.heap.size := Nat.lt_of_lt_of_le hfl hbW.size
 have HB := Lib.hid hbW
 have HT := Lib.hid hT
 have HW := Lib.hid hW
 have HTB := Lib.hid htb
 have HNBE := Lib.hid hnb
 have HV := Lib.hid hv
 have HS := Lib.hid hS
 have HKI := Lib.hid hki
 have hsW : w.heap.size ≤ W.heap.size := hbW.size
 have x0 := hT.cell 0 rfl
 rw [hW] at x0
 rw [← hS, ← hki]
 clear hv hS hki herow hEN htb hW hnb hbW hT hNB hf hfW
 go_enter Tryz.func38, Tryz.ntmps38
 go_wp2_with fail
 rw [← HW.out]
 try rw [← HNBE.out]
 try rw [← HTB.out]
 refine Calls.mono HREP.out ?_
 rintro e w1 ⟨rfl, hb1, hB1⟩
 obtain ⟨G, hG⟩ : ∃ G, G = W.heap.size := ⟨_, rfl⟩
 rw [← hG] at hB1
 have hs1 : W.heap.size ≤ w1.heap.size := hb1.size
 have hfar : w1.ownsRow w.heap.size 2 1 (.slice (some ⟨G, 0, none⟩) S S) S ((List.replicate S (-1 : Int)).map (Value.int .i64)) := far_own (by rw [List.map_replicate]; exact hB1) (by omega) (by simp) (by omega)
 have hGl : G < w1.heap.size := hB1.lt
 have HFAR := Lib.hid hfar
 have HB1 := Lib.hid hb1
 have hf1 := keeps hb1 hflW HF.out
 have HCL := Lib.hid (Clone_own 0 (.slice (some ⟨fb, 0, none⟩) 1 1) [(ki : Int)] w1 ⟨_, 1, rfl, Nat.le_refl _, by decide, .inr ⟨fb, 0, rfl, Nat.zero_le _, Nat.lt_of_lt_of_le hflW hs1, fun j hj k hk => by
  have h1 : j = 0 := by simp at hj; omega
  have h2 : k = 0 := by omega
  subst h1 h2
  simpa [encI] using hf1⟩⟩ (by show 1 ≤ 1048576; decide))
 rw [← hG]
 have HGW := Lib.hid hG
 clear hb1 hB1 hfar x0 hG HREP
 go_wp2_with fail
 refine Calls.mono HCL.out ?_
 rintro e w2 ⟨v2, rfl, ho2, hb2⟩
 obtain ⟨a2, c2, rfl, -, -⟩ := owns_slice ho2
 have HTD : Hid (TailRow w2 w1.heap.size 2 (.slice a2 1 c2) ([(ki : Int)].map (Value.int .i64))) := TailRow.of_owns ho2
 have HF2 := Lib.hid (owns_below HFAR.out hb2)
 have hbW2 : Below W.heap.size W w2 := HB1.out.trans (hb2.mono hs1)
 have HBW2 := Lib.hid hbW2
 have hf2 := keeps hb2 (Nat.lt_of_lt_of_le hflW hs1) hf1
 have HFB2 := Lib.hid hf2
 have hs2 : w1.heap.size ≤ w2.heap.size := hb2.size
 clear ho2 hb2 hbW2 hf1 HCL HFAR hf2
 go_wp2_with fail
 go_loopw [24] (fun v24 wr => ∃ i : Int, (i = 0 ∨ i = 1) ∧ v24 = .int .i64 i ∧ wr = (if i = 0 then w2 else w2.setCell ⟨G, ki, none⟩ (.int .i64 0))) (fun v24 _ => 1 - (intOf v24).toNat)
 case atStart => exact ⟨0, .inl rfl, rfl, by rw [if_pos rfl]⟩
 case round =>
  obtain ⟨i, hi, rfl, hwr⟩ := hrel
  rcases hi with rfl | rfl
  ·rw [if_pos rfl] at hwr
   subst hwr
   have c1 := HFB2.out
   have d2 := far_cell HF2.out (by simp) hkiS
   have d3 := HF2.out.frozenAt ki
   go_wp2
   go_roundw
   case rel => exact ⟨1, .inr rfl, rfl, by simp⟩
   case measure => simp [intOf]
  ·rw [if_neg (by omega)] at hwr
   have hst := (HF2.out.stored ki (.int .i64 0)).1
   rw [← List.map_set] at hst
   have hgs := grown_setCell w2 ⟨G, ki, none⟩ (.int .i64 0)
   have HT3 := Lib.hid (HTD.out.kept hgs (tail_farne HTD.out hGl))
   have HB3 : Hid (Below W.heap.size W (w2.setCell ⟨G, ki, none⟩ (.int .i64 0))) := HBW2.out.setCell (by rw [HGW.out]; exact Nat.le_refl _) _
   obtain ⟨w3, hw3⟩ : ∃ w3, w3 = w2.setCell ⟨G, ki, none⟩ (.int .i64 0) := ⟨_, rfl⟩
   rw [← hw3] at hwr hst HT3 HB3
   have hs3 : w1.heap.size ≤ w3.heap.size := by rw [hw3]; simp; exact hs2
   have HFS := Lib.hid hst
   subst hwr
   clear hst hgs hw3 HF2 HTD HBW2 HFB2
   go_wp2_with fail
   go_loopg [8] S (fun gk v8 w5 => ∃ (far todo : List Int), TailRow w5 w1.heap.size 2 v8 (todo.map (Value.int .i64)) ∧ FarInv t S far todo ∧ todo.length + negF far ≤ gk ∧ Below W.heap.size W w5 ∧ w1.heap.size ≤ w5.heap.size ∧ w5.ownsRow w.heap.size 2 1 (.slice (some ⟨G, 0, none⟩) S S) S (far.map (Value.int .i64)))
   case atStart => exact ⟨_, [(ki : Int)], HT3.out, HSTART.out, by have := HSTART.out.size; exact this, HB3.out, hs3, HFS.out⟩
   case round =>
    clear HT3 HB3 HFS hs3
    obtain ⟨far, todo, hT5, hI, hleft, hb5, hs5, hf5⟩ := hrel
    obtain ⟨wC, rfl⟩ : ∃ wC : World, wC = wr := ⟨_, rfl⟩
    have HT5 := Lib.hid hT5
    have HI := Lib.hid hI
    have HLEFT := Lib.hid hleft
    have HB5 := Lib.hid hb5
    have HF5 := Lib.hid hf5
    clear hI hleft
    cases todo with
    | nil =>
     obtain ⟨a9, c9, rfl⟩ := tail_lenF hT5
     have HBW := Lib.hid (HB.out.trans (hb5.mono hsW))
     clear hT5 hb5 hf5
     simp only [List.map_nil, List.length_nil]
     go_wp2_with fail
     go_ret
     exact ⟨G, far, rfl, HBW.out, HF5.out, HI.out⟩
    | cons k rest =>
     rw [List.map_cons] at hT5 HT5
     obtain ⟨g9, o9, cap9, rfl, hg9b, hg9l, hcap1, hcap2, hcell⟩ := hT5.head
     rw [List.length_map] at hcap1 ⊢
     have hn0 : (0 : Int) < ((rest.length + 1 : Nat) : Int) := by omega
     obtain ⟨o2, ho2⟩ : ∃ o2, o2 = if cap9 = 1 then o9 else o9 + 1 := ⟨_, rfl⟩
     have hsl : ∀ w', (Instr.slice 35 (.slice (some ⟨g9, o9, none⟩) (rest.length + 1) cap9) (some (.int .i64 1)) none none).run Tryz.prog w' = .ok (.slice (some ⟨g9, o2, none⟩) rest.length (cap9 - 1)) w' := fun w' => by
      have h := slice_popF g9 o9 (rest.length + 1) cap9 (by omega) w'
      rw [← ho2] at h
      exact h
     have HT2 : Hid (TailRow wC w1.heap.size 2 (.slice (some ⟨g9, o2, none⟩) rest.length (cap9 - 1)) (rest.map (Value.int .i64))) := by
      have h := HT5.out.popF ho2
      rw [List.length_map] at h
      exact h
     have hk := (HI.out.todoF k (by simp)).1
     obtain ⟨kk, rfl⟩ : ∃ kk : Nat, k = (kk : Int) := ⟨k.toNat, by omega⟩
     have hkkS : kk < S := by omega
     have hkkI : (kk : Int) < (S : Int) := by omega
     have HM := Lib.hid HI.out.pop
     have x3 := (HT.out.below hb5).cell 3 rfl
     have HL0 : Hid (rest.length + negF far + 1 ≤ gk) := by have h := HLEFT.out; simp only [List.length_cons] at h; unfold Hid; omega
     clear hT5 hb5 hf5 ho2 hk HT5 HI HLEFT
     go_wp2_with fail
     clear hsl x3 hcell
     go_loopw [8, 43] (fun v8 v43 w7 => ∃ (m : Nat) (far todo : List Int), m ≤ EN ∧ v43 = .int .i64 m ∧ TailRow w7 w1.heap.size 2 v8 (todo.map (Value.int .i64)) ∧ FarMid t S far todo (kk : Int) m ∧ todo.length + negF far + 1 ≤ gk ∧ Below W.heap.size W w7 ∧ w1.heap.size ≤ w7.heap.size ∧ w7.ownsRow w.heap.size 2 1 (.slice (some ⟨G, 0, none⟩) S S) S (far.map (Value.int .i64))) (fun _ v43 _ => EN - (intOf v43).toNat)
     case atStart => exact ⟨0, far, rest, Nat.zero_le _, rfl, HT2.out, HM.out, HL0.out, HB5.out, hs5, HF5.out⟩
     case round =>
      clear HT2 HM HL0 HB5 hs5 HF5
      obtain ⟨m, far7, todo7, hm, rfl, hT7, hM7, hl7, hb7, hs7, hf7⟩ := hrel
      obtain ⟨wD, rfl⟩ : ∃ wD : World, wD = wr := ⟨_, rfl⟩
      obtain ⟨a7, c7, rfl⟩ := tail_lenF hT7
      rw [List.length_map] at hT7 ⊢
      have HT7 := Lib.hid hT7
      have HM7 := Lib.hid hM7
      have HL7 := Lib.hid hl7
      have HB7 := Lib.hid hb7
      have HF7 := Lib.hid hf7
      have hlen7 := hM7.len
      by_cases hlt : m < EN
      ·have hmE : m < t.edges.length := by rw [← HEN.out]; exact hlt
       have hbw7 : Below w.heap.size w wD := HB.out.trans (hb7.mono hsW)
       obtain ⟨be, oe, rfl, -, hbe, e1, e2, e3⟩ := (HER.out.below hbw7).edge hmE
       have hok := HV.out.edge m hmE
       have hok0 := hok.s0
       have hok1 := hok.s1
       have hok2 := hok.d0
       have hok3 := hok.d1
       have hSS := HS.out
       obtain ⟨sm, hsm⟩ : ∃ sm : Nat, (sm : Int) = t.edges[m].src := ⟨t.edges[m].src.toNat, by omega⟩
       obtain ⟨dm, hdm⟩ : ∃ dm : Nat, (dm : Int) = t.edges[m].dst := ⟨t.edges[m].dst.toNat, by omega⟩
       obtain ⟨l, hl⟩ : ∃ l, l = t.edges[m].lab := ⟨_, rfl⟩
       have hdmS : dm < S := by omega
       have hdmI : (dm : Int) < (S : Int) := by omega
       rw [← hsm] at e1
       rw [← hl] at e2
       rw [← hdm] at e3
       have HSM := Lib.hid hsm
       have HDM := Lib.hid hdm
       obtain ⟨W1, hW1⟩ : ∃ W1, W1 = wD.alloc (.cells #[.int .i64 sm, .int .i64 l, .int .i64 dm] 47) := ⟨_, rfl⟩
       have hbW1 : Below wD.heap.size wD W1 := by rw [hW1]; exact (Below.refl _ _).alloc (Nat.le_refl _) _
       have hv1 : Blk W1 wD.heap.size [.int .i64 sm, .int .i64 l, .int .i64 dm] 47 := by rw [hW1]; exact Blk.new wD _ _
       have p0 := later_cell hv1.lt (hv1.cell 0 rfl)
       have p2 := later_cell hv1.lt (hv1.cell 2 rfl)
       have HW1 := Lib.hid hW1
       have HBW1 := Lib.hid hbW1
       obtain ⟨fd, hfd⟩ : ∃ fd, fd = far7.getD dm 0 := ⟨_, rfl⟩
       obtain ⟨fk, hfk⟩ : ∃ fk, fk = far7.getD kk 0 := ⟨_, rfl⟩
       have hkF := hM7.kF.2
       unfold hasF at hkF
       rw [Int.toNat_natCast, ← hfk] at hkF
       have hkh := hM7.high fk (by rw [hfk, List.getD_eq_getElem?_getD, List.getElem?_eq_getElem (by omega)]; exact List.getElem_mem _)
       have HFD := Lib.hid hfd
       have HFK := Lib.hid hfk
       clear hT7 hM7 hl7 hb7 hf7 hbw7 hok hsm hdm hl hW1 hbW1 hv1 hfd hfk hok0 hok1 hok2 hok3 hSS
       go_wp2
       rw [← HW1.out]
       refine wp_region_later (by kernel_rfl) (by kernel_rfl) ?_
       repeat (go_big_quiet_step ((fail)))
       refine wpQuiet_nil ?_
       intro _ hw9
       obtain ⟨nl, hw8⟩ := hw9
       subst hw8
       obtain ⟨wE, hwE⟩ : ∃ wE, wE = nl.w := ⟨_, rfl⟩
       have hbE0 : Below W1.heap.size W1 wE := by rw [hwE]; exact nl.h
       rw [← hwE]
       clear p0 p2 hwE nl
       have hbE : Below wD.heap.size wD wE := HBW1.out.trans (hbE0.mono HBW1.out.size)
       have HTE := Lib.hid (HT7.out.below hbE)
       have HFE := Lib.hid (owns_below HF7.out hbE)
       have hsE0 := hbE.size
       have HBE : Hid (Below W.heap.size W wE) := HB7.out.trans (hbE.mono (by omega))
       have hsE : w1.heap.size ≤ wE.heap.size := by omega
       have cd := far_cell HFE.out hlen7 hdmS
       have ck := far_cell HFE.out hlen7 hkkS
       rw [← HFD.out] at cd
       rw [← HFK.out] at ck
       clear hbE hbE0
       by_cases hsk : sm = kk
       ·subst hsk
        by_cases hneg : fd < 0
        ·have hd := decide_eq_true hneg
         have f3 := HFE.out.frozenAt dm
         have hst := (HFE.out.stored dm (.int .i64 (fk + 1))).1
         rw [← List.map_set] at hst
         have hgs := grown_setCell wE ⟨G, dm, none⟩ (.int .i64 (fk + 1))
         have HT8 := Lib.hid (HTE.out.kept hgs (tail_farne HTE.out hGl))
         have HB8 : Hid (Below W.heap.size W (wE.setCell ⟨G, dm, none⟩ (.int .i64 (fk + 1)))) := HBE.out.setCell (by rw [HGW.out]; exact Nat.le_refl _) _
         obtain ⟨wF, hwF⟩ : ∃ wF, wF = wE.setCell ⟨G, dm, none⟩ (.int .i64 (fk + 1)) := ⟨_, rfl⟩
         rw [← hwF] at hst HT8 HB8
         have HF8 := Lib.hid hst
         have HWF := Lib.hid hwF
         have hszF : wF.heap.size = wE.heap.size := by rw [hwF]; simp
         have hPU := HM7.out.push (d := dm) HV.out HS.out hmE HDM.out (by rw [← HFD.out]; exact hneg)
         rw [Int.toNat_natCast, ← HFK.out] at hPU
         have HPU := Lib.hid hPU
         have hwrap : fk + 1 ≤ 1000 := by omega
         clear hst hgs hwF hPU
         go_wp2_with (at_builtin; rw [← HWF.out]; refine wpList_append_tail _ rfl _ _ 35 rfl w1.heap.size 2 i1 (.int .i64 0) 8 Tryz.underlying35 hi1 hy0 hy1 hy2 rfl _ (todo7.map (Value.int .i64)) rfl (HT8.out.below ((Below.refl _ _).alloc (Nat.le_refl _) _)) ⟨wE.heap.size, 0, none⟩ (.int .i64 dm) rfl ?d1 ?d2 ?d3 ?d4 ?d5 ?_)
         case d1 => have h9 := cell_one_newF wF (.int .i64 dm) 2; rw [hszF] at h9; exact h9
         case d2 => rfl
         case d3 => have := HM7.out.size; first | omega | (simp [maxLen]; omega)
         case d4 => have := HM7.out.size; first | omega | (simp; omega)
         case d5 => first | omega | (simp; omega)
         intro v9 w9 hT9 hg9
         obtain ⟨a9, c9, rfl⟩ := tail_lenF hT9
         obtain ⟨n9, hn9⟩ : ∃ n9, n9 = (todo7.map (Value.int .i64) ++ [Value.int .i64 (dm : Int)]).length := ⟨_, rfl⟩
         rw [← hn9] at hT9 ⊢
         have hal9 : Below wF.heap.size wF (wF.alloc (.cells #[.int .i64 dm] 2)) := (Below.refl _ _).alloc (Nat.le_refl _) _
         have HT9 : Hid (TailRow w9 w1.heap.size 2 (.slice a9 n9 c9) ((todo7 ++ [(dm : Int)]).map (Value.int .i64))) := by unfold Hid; rw [List.map_append]; exact hT9
         have HF9 := Lib.hid ((owns_below HF8.out hal9).kept hg9 (by
          rcases tail_farne HT8.out hGl with h | h
          ·rw [h]; exact .inr (by simp [Value.ownBlock])
          ·exact .inr (fun e => h e.symm)))
         have HB9 : Hid (Below W.heap.size W w9) := (HB8.out.alloc (by omega) _).grown hg9 (by simp; omega) (fun b e => Nat.le_trans hs1 (HT8.out.lt b e).1)
         have hs9 : w1.heap.size ≤ w9.heap.size := by have := hg9.size; simp at this; omega
         have HL9 : Hid ((todo7 ++ [(dm : Int)]).length + negF (far7.set dm (fk + 1)) + 1 ≤ gk) := by
          have h1 := HPU.out.2
          have h2 := HL7.out
          unfold Hid
          rw [List.length_append, List.length_singleton]
          omega
         clear hT9 hg9 hal9 hn9
         go_wp2
         go_roundw
         case rel => exact ⟨m + 1, far7.set dm (fk + 1), todo7 ++ [(dm : Int)], by omega, by go_num, HT9.out, HPU.out.1, HL9.out, HB9.out, hs9, HF9.out⟩
         case measure => simp [intOf]; omega
        ·have hd := decide_eq_false hneg
         have HSK := Lib.hid (HM7.out.skip hmE fun _ => by unfold hasF; rw [← HDM.out, Int.toNat_natCast, ← HFD.out]; omega)
         go_wp2
         go_roundw
         case rel => exact ⟨m + 1, far7, todo7, by omega, by go_num, HTE.out, HSK.out, HL7.out, HBE.out, hsE, HFE.out⟩
         case measure => simp [intOf]; omega
       ·have hne : ((sm : Int) == (kk : Int)) = false := beq_eq_false_iff_ne.2 (by omega)
        have HSK := Lib.hid (HM7.out.skip hmE fun h => absurd h (by rw [← HSM.out]; omega))
        go_wp2
        go_roundw
        case rel => exact ⟨m + 1, far7, todo7, by omega, by go_num, HTE.out, HSK.out, HL7.out, HBE.out, hsE, HFE.out⟩
        case measure => simp [intOf]; omega
      ·have HALL := Lib.hid (HM7.out.all (by rw [← HEN.out]; omega))
       clear hT7 hM7 hl7 hb7 hf7
       go_wp2_with fail
       go_roundg (todo7.length + negF far7)
       case measure => have := HL7.out; omega
       case rel => exact ⟨far7, todo7, HT7.out, HALL.out, Nat.le_refl _, HB7.out, hs7, HF7.out⟩

end Go.Proofs.YtdkbbknhighebaaGreatDoor

namespace Go.Proofs.YtdkbbknhighebaaGreatDoor
open Go Go.RowKit

set_option maxRecDepth 100000 in
set_option maxHeartbeats 2000000 in
theorem DeleteFuncI (B : Nat) (v : Value) (xs : List Int) (fid : Nat) (caps : Array Value) (P : Int → Bool) (w0 w : World) (ho : w.ownsRow B 2 1 v xs.length (xs.map (Value.int .i64))) (hb : Below B w0 w) (hB : B ≤ w.heap.size)
  (eg : ∀ args w, (callFunc fid args).run Tryz.prog w = .ok (.enter fid args) w) (hP : AskI fid caps P xs B w0) :
  Calls Tryz.prog 39 #[v, .func (.func fid) #[] caps] w fun e w' => ∃ v', e = .returned v' ∧ Below B w0 w' ∧ w'.ownsRow B 2 1 v' (xs.filter fun x => !P x).length ((xs.filter fun x => !P x).map (Value.int .i64)) := by
 have HP := Lib.hid hP
 have HB := Lib.hid hb
 have HO := Lib.hid ho
 have HIX := Lib.hid (IndexFuncI B v xs fid caps P w (SliceK.of_owns (e := 2) encI_len rfl (by rw [flat_encI]; exact ho)) eg fun w' hb' x hx => hP w' (hb.trans (hb'.mono hB)) x hx)
 have HHB := Lib.hid hB
 obtain ⟨a, c, rfl, hnc, hcc⟩ := owns_slice ho
 obtain ⟨r, hr⟩ : ∃ r, r = idxI P xs := ⟨_, rfl⟩
 rw [← hr] at HIX
 have HRI := Lib.hid hr
 obtain ⟨nx, hnx⟩ : ∃ nx, nx = xs.length := ⟨_, rfl⟩
 have HNX := Lib.hid hnx
 rw [← hnx] at HIX hnc ⊢
 clear hP hb ho hB hr hnx
 by_cases hneg : r = -1
 ·subst hneg
  have HF : Hid ((xs.filter fun x => !P x) = xs) := by
   unfold Hid
   rw [List.filter_eq_self]
   intro x hx
   rw [idxI_neg.1 HRI.out.symm x hx]
   rfl
  go_enter Tryz.func39, Tryz.ntmps39
  go_wp2_with fail
  refine Calls.mono HIX.out ?_
  rintro e w1 ⟨rfl, hb1⟩
  have HB1 := Lib.hid (HB.out.trans (hb1.mono HHB.out))
  have HO1 := Lib.hid (owns_below HO.out hb1)
  clear hb1 HIX
  go_wp2_with fail
  go_ret
  refine ⟨_, rfl, HB1.out, ?_⟩
  rw [HF.out, ← HNX.out]
  have h := HO1.out
  rw [← HNX.out] at h
  exact h
 ·obtain ⟨k0, hk0, hlt0, hp0, hpl⟩ : ∃ k0 : Nat, r = (k0 : Int) ∧ k0 < nx ∧ (∃ h : k0 < xs.length, P xs[k0] = true) ∧ ∀ j (h : j < xs.length), j < k0 → P xs[j] = false := by
   have h1 := HRI.out
   have h2 := HNX.out
   unfold idxI at h1
   by_cases hf : xs.findIdx P < xs.length
   ·rw [if_pos hf] at h1
    refine ⟨xs.findIdx P, h1, by omega, ⟨hf, List.findIdx_getElem (w := hf)⟩, fun j hj hjk => ?_⟩
    have := List.not_of_lt_findIdx hjk
    simpa using this
   ·rw [if_neg hf] at h1
    exact absurd h1 hneg
  subst hk0
  obtain ⟨g, ha2, hgB⟩ : ∃ g, a = some ⟨g, 0, none⟩ ∧ B ≤ g := by
   rcases HO.out.2 with ⟨e, e2⟩ | ⟨g, cap, cur, e, h1, -⟩
   ·have := HNX.out; omega
   ·simp only [Value.slice.injEq] at e
    exact ⟨g, e.1, h1⟩
  subst ha2
  have HGB := Lib.hid hgB
  have HIN : Hid (KeptIn P xs k0 (k0 + 1) (fun x => ((Value.int .i64) x))  (xs.map (Value.int .i64))) := KeptIn.start (by have := HNX.out; omega) hpl hp0.2
  have hne1 : ((k0 : Int) == -1) = false := beq_eq_false_iff_ne.2 (by omega)
  clear hneg hp0 hpl HRI
  go_enter Tryz.func39, Tryz.ntmps39
  go_wp2_with fail
  refine Calls.mono HIX.out ?_
  rintro e w1 ⟨rfl, hb1⟩
  have HB1 := Lib.hid (HB.out.trans (hb1.mono HHB.out))
  have HO1 : Hid (CellsAt w1 g 2 nx c (xs.map (Value.int .i64))) := CellsAt.of_owns (by have h := owns_below HO.out hb1; rw [← HNX.out] at h; exact h)
  clear hb1 HIX
  go_wp2_with fail
  go_loopw [5, 6, 7] (fun s5 s6 _ wr => ∃ (i j : Nat) (cs : List Value), s5 = .int .i64 i ∧ s6 = .int .i64 j ∧ j ≤ nx ∧ Below B w0 wr ∧ CellsAt wr g 2 nx c cs ∧ KeptIn P xs i j (fun x => (Value.int .i64) x) cs) (fun _ s6 _ _ => nx - (intOf s6).toNat)
  case atStart => exact ⟨k0, k0 + 1, _, rfl, by go_num, by omega, HB1.out, HO1.out, HIN.out⟩
  case round =>
   obtain ⟨i, j, cs, rfl, rfl, hj, hbl, hca, hki⟩ := hrel
   have HBL := Lib.hid hbl
   have HCA := Lib.hid hca
   have HKI := Lib.hid hki
   have hij := hki.lt
   by_cases hlt : j < nx
   ·have hltx : j < xs.length := by have := HNX.out; omega
    obtain ⟨x, hx⟩ : ∃ x, x = xs[j] := ⟨_, rfl⟩
    have HX := Lib.hid hx
    have cj : wr.cell? ⟨g, j, none⟩ = some (.int .i64 x) := by
     have h1 := hca.cell j (by omega)
     have h2 := hki.high j hltx (Nat.le_refl _)
     rw [h1, h2, hx]
    have ci := hca.cell_some i (by omega)
    obtain ⟨old, ci⟩ := ci
    have fi := hca.frozen i
    have hgl := hca.lt
    have HC := Lib.hid (HP.out wr hbl x (by rw [hx]; exact List.getElem_mem _))
    obtain ⟨b, hb⟩ : ∃ b, b = P x := ⟨_, rfl⟩
    rw [← hb] at HC
    have HBP := Lib.hid hb
    clear hb hx hbl hca hki ci fi
    go_wp2_with fail
    refine Calls.mono HC.out ?_
    rintro e w2 ⟨rfl, hb2⟩
    have HBL2 := Lib.hid (HBL.out.trans (hb2.mono (show B ≤ wr.heap.size from by have := HGB.out; omega)))
    have hca2 := HCA.out.below hb2
    have HCA2 := Lib.hid hca2
    obtain ⟨old, ci⟩ := hca2.cell_some i (by omega)
    have fi := hca2.frozen i
    clear hb2 hca2 cj
    cases b
    ·go_wp2_with fail
     go_roundw
     case rel => exact ⟨i + 1, j + 1, cs.set i (.int .i64 x), by go_num, by go_num, by omega, HBL2.out.setCell HGB.out _, HCA2.out.set i (by omega) _, by have h := HKI.out.keep hltx (by rw [← HX.out]; exact HBP.out.symm); rw [← HX.out] at h; exact h⟩
     case measure => simp [intOf]; omega
    ·go_wp2_with fail
     go_roundw
     case rel => exact ⟨i, j + 1, cs, rfl, by go_num, by omega, HBL2.out, HCA2.out, HKI.out.drop hltx (by rw [← HX.out]; exact HBP.out.symm)⟩
     case measure => simp [intOf]; omega
   ·obtain rfl : j = nx := by omega
    have HLEN : Hid ((xs.filter fun x => !P x).length = i ∧ i ≤ j ∧ (xs.filter fun x => !P x).map (Value.int .i64) = cs.take i) := by
     have h := hki.all (by have := HNX.out; omega)
     exact ⟨h.1, by omega, h.2⟩
    have hij2 : i < j := hij
    have hcl : ∀ ty, (Builtin.clear_ #[35] ty #[.slice (some ⟨g, i, none⟩) (j - i) (c - i)]).run Tryz.prog wr = .ok (.tuple #[]) (wr.setCells g i (List.replicate (j - i) (.int .i64 0))) :=
     fun ty => Lib.run_clear_slice wr _ _ ty _ Tryz.underlying35 (fun w => by kernel_rfl) rfl rfl g i _ _ (by omega) (fun t ht => by obtain ⟨o, ho⟩ := hca.cell_some (i + t) (by omega); rw [ho]; rfl) (fun t ht => hca.frozen (i + t))
    have HCAF : Hid (CellsAt (wr.setCells g i (List.replicate (j - i) (.int .i64 0))) g 2 j c (cs.take i ++ List.replicate (j - i) (.int .i64 0))) := hca.clear hij2
    have HBF : Hid (Below B w0 (wr.setCells g i (List.replicate (j - i) (.int .i64 0)))) := below_setCells HGB.out _ _ _ hbl
    clear hbl hca hki hij
    go_wp2_with fail
    go_ret
    refine ⟨_, rfl, HBF.out, ?_⟩
    rw [HLEN.out.1, HLEN.out.2.2]
    exact HCAF.out.owns (by rw [List.take_append_of_le_length (by have := HCAF.out.len; simp at this ⊢; omega), List.take_take]; simp) HLEN.out.2.1 HGB.out hnc hcc

end Go.Proofs.YtdkbbknhighebaaGreatDoor

namespace Go.Proofs.YtdkbbknhighebaaGreatDoor
open Go Go.RowKit


theorem info_intUT : (Tryz.prog.info? 2).map (fun i => (i.zero, i.size, i.bytes)) = some (some (.int .i64 0), 1, 8) := by kernel_rfl
set_option maxRecDepth 100000 in
set_option maxHeartbeats 1000000 in
theorem upToU_any (N : Nat) (w : World) (hN : N ≤ 1000) : Calls Tryz.prog 40 #[.int .i64 N] w (MadeNums (upI N) w) := by
 obtain ⟨i1, hi1, hz10, hz11, hz12⟩ := info_parts info_intUT
 go_enter Tryz.func40, Tryz.ntmps40
 go_wp2
 go_loopw [3, 6] (fun v3 v6 wr => ∃ k : Nat, k ≤ N ∧ v6 = .int .i64 k ∧ Below w.heap.size w wr ∧ wr.ownsRow w.heap.size 2 1 v3 k ((upI k).map (Value.int .i64))) (fun _ v6 _ => N - (intOf v6).toNat)
 case atStart => exact ⟨0, Nat.zero_le _, rfl, Below.refl _ _, World.ownsRow_nil _ _ _ _⟩
 case round =>
  obtain ⟨k, hk, rfl, hbl, ho⟩ := hrel
  have HBL := Lib.hid hbl
  have HO := Lib.hid ho
  have hsz := hbl.size
  obtain ⟨va, vc, rfl, -, -⟩ := owns_slice ho
  by_cases hlt : k < N
  ·have HNX : Hid ((upI (k + 1)).map (Value.int .i64) = (upI k).map (Value.int .i64) ++ [.int .i64 k]) := by unfold Hid; rw [upI_succ, List.map_append]; rfl
   clear hbl ho
   go_wp2_with (at_builtin; refine wpList_append_own _ rfl _ _ 35 rfl w.heap.size 2 i1 (.int .i64 0) 1 8 Tryz.underlying35 hi1 hz10 hz11 hz12 rfl (by decide) _ k _ rfl (HO.out.alloc _) ⟨wr.heap.size, 0, none⟩ 1 1 [.int .i64 k] rfl rfl ?c1 ?c2 ?c3 ?c4 ?c5 ?_)
   case c1 => exact World.news_of_block (cs := #[.int .i64 k]) (t := 2) (fr := (0, 0)) (heap_alloc_new _ _)
   case c2 => intro u hu; simp at hu; subst hu; rfl
   case c3 => simp [maxLen]; omega
   case c4 => omega
   case c5 => first | omega | (simp; omega)
   intro v7 w7 ho7 hg7 _
   have HB7 : Hid (Below w.heap.size w w7) := (HBL.out.alloc hsz _).grown hg7 (by simp; omega) (fun b e => (HO.out.lt b e).1)
   have HO7 : Hid (w7.ownsRow w.heap.size 2 1 v7 (k + 1) ((upI (k + 1)).map (Value.int .i64))) := by unfold Hid; rw [HNX.out]; exact ho7
   clear ho7 hg7
   go_wp2
   go_roundw
   case rel => exact ⟨k + 1, by omega, by go_num, HB7.out, HO7.out⟩
   case measure => simp [intOf]; omega
  ·obtain rfl : k = N := by omega
   clear hbl ho
   go_wp2
   go_ret
   exact ⟨_, rfl, HBL.out, by rw [upI_len]; exact HO.out⟩

end Go.Proofs.YtdkbbknhighebaaGreatDoor

namespace Go.Proofs.YtdkbbknhighebaaGreatDoor
open Go Go.RowKit


set_option maxRecDepth 100000 in
set_option maxHeartbeats 1000000 in
theorem rch1_any (B rb G S k : Nat) (far : List Int) (w : World) (hk : k < S) (hfl : far.length = S) (hf : w.ownsRow B 2 1 (.slice (some ⟨G, 0, none⟩) S S) S (far.map (Value.int .i64))) (hb : Blk w rb [.slice (some ⟨G, 0, none⟩) S S] 35) :
  Calls Tryz.prog 41 #[.int .i64 k, .pointer (some ⟨rb, 0, none⟩)] w fun e w' => e = .returned (.bool (decide (far.getD k 0 < 0))) ∧ Below w.heap.size w w' := by
 have x0 := hb.cell 0 rfl
 have c0 := far_cell hf hfl hk
 have hkI : (k : Int) < (S : Int) := by omega
 obtain ⟨x, hx⟩ : ∃ x, x = far.getD k 0 := ⟨_, rfl⟩
 rw [← hx] at c0 ⊢
 clear hf hb hx
 go_enter Tryz.func41, Tryz.ntmps41
 go_wp2
 go_ret
 exact ⟨rfl, Below.refl _ _⟩

/-- What reachable hands back. -/
def RetRch (t : Lts) (w : World) (e : Ending) (w' : World) : Prop :=
 ∃ (L : List Int) (a : Option Addr) (c : Nat), e = .returned (.slice a L.length c) ∧ Below w.heap.size w w' ∧ w'.ownsRow w.heap.size 2 1 (.slice a L.length c) L.length (L.map (Value.int .i64)) ∧ Closed t L ∧ t.initial ∈ L

set_option maxRecDepth 100000 in
set_option maxHeartbeats 4000000 in
theorem reachable_any (lo S : Nat) (t : Lts) (lv ev : Value) (w : World) (hv : Valid t) (hS : (S : Int) = t.states) (hl : ∃ a n c, lv = .slice a n c) (he : SliceK 3 encE lo w ev t.edges) :
  Calls Tryz.prog 15 #[.agg #[.int .i64 t.states, .int .i64 t.initial, lv, ev]] w (RetRch t w) := by
 have hst0 := hv.st0
 have hst1 := hv.st1
 have hS40 : S ≤ 40 := by omega
 obtain ⟨tb, htb⟩ : ∃ tb, tb = w.heap.size := ⟨_, rfl⟩
 obtain ⟨fb, hfb⟩ : ∃ fb, fb = w.heap.size + 1 := ⟨_, rfl⟩
 obtain ⟨W, hW⟩ : ∃ W, W = (w.alloc (.cells #[.int .i64 S, .int .i64 t.initial, lv, ev] 27)).alloc (.cells #[.int .i64 t.initial] 2) := ⟨_, rfl⟩
 have hbW : Below w.heap.size w W := by rw [hW]; exact ((Below.refl _ _).alloc (Nat.le_refl _) _).alloc (by simp) _
 have hT : Blk W tb [.int .i64 S, .int .i64 t.initial, lv, ev] 27 := by rw [hW, htb]; exact (Blk.new w _ _).alloc _
 have hFB : W.cell? ⟨fb, 0, none⟩ = some (.int .i64 t.initial) := by
  have h := (Blk.new (w.alloc (.cells #[.int .i64 S, .int .i64 t.initial, lv, ev] 27)) [.int .i64 t.initial] 2).cell 0 rfl
  rw [World.size_alloc, ← hfb] at h
  rw [hW]
  exact h
 have hfl : fb < W.heap.size := by rw [hfb, hW]; simp
 have hdi := distances_any lo fb S t lv ev W hv hS hl (he.below hbW) hFB hfl
 rw [← hS] at hdi
 have HDI := Lib.hid hdi
 have HB := Lib.hid hbW
 have HW := Lib.hid hW
 have HT := Lib.hid hT
 have HTB := Lib.hid htb
 have HFBB := Lib.hid hfb
 have HV := Lib.hid hv
 have HS := Lib.hid hS
 have hsW : w.heap.size ≤ W.heap.size := hbW.size
 obtain ⟨l1, l2, l3, rfl⟩ := hl
 obtain ⟨ea, ec, rfl, -, -, -⟩ := he
 have x0 := hT.cell 0 rfl
 have x1 := hT.cell 1 rfl
 have x2 := hT.cell 2 rfl
 have x3 := hT.cell 3 rfl
 rw [hW] at x0 x1 x2 x3
 rw [← hS]
 clear hv hS htb hfb hW hbW hT hFB hdi
 go_enter Tryz.func15, Tryz.ntmps15
 go_wp2_with fail
 rw [← HW.out]
 try rw [← HFBB.out]
 try rw [← HTB.out]
 refine Calls.mono HDI.out ?_
 rintro e w1 ⟨G, far, rfl, hb1, hf1, hI⟩
 obtain ⟨rb, hrb⟩ : ∃ rb, rb = w1.heap.size := ⟨_, rfl⟩
 obtain ⟨W2, hW2⟩ : ∃ W2, W2 = w1.alloc (.cells #[.slice (some ⟨G, 0, none⟩) S S] 35) := ⟨_, rfl⟩
 have hb2 : Below w1.heap.size w1 W2 := by rw [hW2]; exact (Below.refl _ _).alloc (Nat.le_refl _) _
 have hR : Blk W2 rb [.slice (some ⟨G, 0, none⟩) S S] 35 := by rw [hW2, hrb]; exact Blk.new _ _ _
 have hs1 : W.heap.size ≤ w1.heap.size := hb1.size
 have hbW2 : Below W.heap.size W W2 := hb1.trans (hb2.mono hs1)
 have HB2 := Lib.hid hbW2
 have HR := Lib.hid hR
 have HF := Lib.hid (owns_below hf1 hb2)
 have HI := Lib.hid hI
 have HW2 := Lib.hid hW2
 have HRB := Lib.hid hrb
 have HUP := Lib.hid (upToU_any S W2 (by omega))
 have x0 := (HT.out.below hbW2).cell 0 rfl
 rw [hW2] at x0
 clear x1 x2 x3 hb1 hf1 hI hrb hW2 hb2 hR hbW2 HDI
 go_wp2_with fail
 rw [← HW2.out]
 try rw [← HRB.out]
 refine Calls.mono HUP.out ?_
 rintro e w3 ⟨v3, rfl, hb3, ho3⟩
 have hDF := DeleteFuncI W2.heap.size v3 (upI S) 41 #[.pointer (some ⟨rb, 0, none⟩)] (fun k => decide (far.getD k.toNat 0 < 0)) W2 w3 ho3 hb3 hb3.size (fun args w => by kernel_rfl) fun w' hb' x hx => by
  obtain ⟨k, hk, rfl⟩ := List.mem_map.1 hx
  rw [List.mem_range] at hk
  have h := rch1_any W.heap.size rb G S k far w' hk HI.out.len (owns_below HF.out hb') (HR.out.below hb')
  have e : far.getD (k : Int).toNat 0 = far.getD k 0 := by rw [Int.toNat_natCast]
  simp only [e]
  exact h
 obtain ⟨a3, c3, rfl, -, -⟩ := owns_slice ho3
 have HDF := Lib.hid hDF
 clear hb3 ho3 hDF x0 HUP
 go_wp2_with fail
 refine Calls.mono HDF.out ?_
 rintro e w4 ⟨v4, rfl, hb4, ho4⟩
 have hs2 : w.heap.size ≤ W2.heap.size := Nat.le_trans hsW HB2.out.size
 obtain ⟨L, hL⟩ : ∃ L, L = reachL far S := ⟨_, rfl⟩
 have ho5 : w4.ownsRow w.heap.size 2 1 v4 L.length (L.map (Value.int .i64)) := by rw [hL]; exact own_lower ho4 hs2
 obtain ⟨a4, c4, rfl, -, -⟩ := owns_slice ho5
 have hcl := HI.out.closed HV.out HS.out
 rw [← hL] at hcl
 have HR4 : Hid (RetRch t w (.returned (.slice a4 L.length c4)) w4) := ⟨L, a4, c4, rfl, HB.out.trans ((HB2.out.trans (hb4.mono HB2.out.size)).mono hsW), ho5, hcl.1, hcl.2⟩
 clear hb4 ho4 hL ho5 hcl HDF
 go_wp2
 go_ret
 exact HR4.out

end Go.Proofs.YtdkbbknhighebaaGreatDoor

namespace Go.Proofs.YtdkbbknhighebaaGreatDoor
open Go Go.RowKit
open Go.Maps (Keyed)


def I64 (x : Int) : Prop := -9223372036854775808 ≤ x ∧ x ≤ 9223372036854775807
theorem keyedI : Keyed Tryz.prog 2 := Go.Maps.int_keyed Tryz.underlying2
theorem keyOfI {x : Int} (h : I64 x) : ∃ l, keyOf Tryz.prog 2 (.int .i64 x) = some l := ⟨.int .i64 x, by
 have h1 := h.1
 have h2 := h.2
 have hw : (Lit.int .i64 x).wf = true := by
  unfold Lit.wf
  rw [Bool.and_eq_true, decide_eq_true_iff, decide_eq_true_iff]
  exact ⟨h1, h2⟩
 simp [keyOf, mapKey, Tryz.underlying2, hw]⟩
theorem underMapI : Tryz.prog.underlying 95 = some (.map 2 2) := Tryz.underlying95
theorem zeroI64N (w : World) : (zeroValue 2).run Tryz.prog w = .ok (.int .i64 0) w := by kernel_rfl
theorem NumMap.len {P : Program} {k t e : TypeId} {q : IntKind} {w : World} {b : Nat} {ks : List Value} (h : NumMap q w b ks) (ht : P.underlying t = some (.map k e)) (ty : TypeId) : (Builtin.len_ #[t] ty #[.map (some b)]).run P w = .ok (.int .i64 ks.length) w := by
 have hb : w.heap[b]? = some (.map (ks.mapIdx fun i k => (⟨k, .int q i, i⟩ : MapEntry)).toArray ks.length) := h
 simp [Builtin.len_, run_underlying ht, MapKept.run_getObj_map hb, goInt, Result.andThen]
def keysI (D : List Int) : List Value := D.map (Value.int .i64)
theorem keysI_nodup {D : List Int} (h : D.Nodup) : (keysI D).Nodup := by
 unfold keysI
 rw [List.nodup_iff_pairwise_ne, List.pairwise_map]
 exact (List.nodup_iff_pairwise_ne.1 h).imp fun {a b} hne e => hne (by simpa using e)
theorem firsts_nodup (l : List Int) : (firsts l).Nodup := by
 have h : ∀ (m acc : List Int), acc.Nodup → (m.foldl addNew acc).Nodup := by
  intro m
  induction m with
  | nil => exact fun acc h => h
  | cons y m ih =>
   intro acc h
   rw [List.foldl_cons]
   refine ih _ ?_
   unfold addNew
   by_cases hy : y ∈ acc
   ·rw [if_pos hy]; exact h
   ·rw [if_neg hy, List.nodup_append]
    refine ⟨h, by simp, ?_⟩
    intro a ha b hb
    rw [List.mem_singleton] at hb
    subst hb
    exact fun e => hy (e ▸ ha)
 exact h l [] List.nodup_nil

set_option maxRecDepth 100000 in
set_option maxHeartbeats 4000000 in
theorem normal_any (lo : Nat) (v : Value) (xs : List Int) (w : World) (hz : xs.length ≤ 1000000) (h64 : ∀ x ∈ xs, I64 x) (hv : SliceK 1 encI lo w v xs) : Calls Tryz.prog 45 #[v] w (MadeNums (normL xs) w) := by
 obtain ⟨a, cap, rfl, hn, hcap, hrow⟩ := hv
 obtain ⟨Q, hQ⟩ : ∃ Q, Q = normL xs := ⟨_, rfl⟩
 obtain ⟨N, hN⟩ : ∃ N, N = xs.length := ⟨_, rfl⟩
 have hQN : Q.length = N := by rw [hQ, normL_len, hN]
 rw [← hQ]
 rw [← hN] at hz hn ⊢
 have HN := Lib.hid hN
 have HQ := Lib.hid hQ
 have HQN := Lib.hid hQN
 have HR := Lib.hid hrow
 have H64 := Lib.hid h64
 obtain ⟨i1, hi1, hz10, hz11, hz12⟩ := info_parts info_int64N
 obtain ⟨mb, hmb⟩ : ∃ mb, mb = w.heap.size := ⟨_, rfl⟩
 have hMM : NumMap .i64 (w.alloc (.map #[] 0)) mb [] := by rw [hmb]; exact NumMap.made .i64 w
 have hbM : Below w.heap.size w (w.alloc (.map #[] 0)) := (Below.refl _ _).alloc (Nat.le_refl _) _
 have HMM := Lib.hid hMM
 have HBM := Lib.hid hbM
 have HMB := Lib.hid hmb
 have hmm := @run_makeMap Tryz.prog
 have hsm : (w.alloc (.map #[] 0)).heap.size = mb + 1 := by rw [hmb]; simp
 clear hrow hN hQ hQN hMM hbM h64
 go_enter Tryz.func45, Tryz.ntmps45
 go_wp2_with (at_make; refine wpList_make_full _ rfl _ _ 35 rfl (mb + 1) 2 i1 _ 1 Tryz.underlying35 hi1 hz10 hz11 .i64 .i64 _ _ N rfl rfl rfl rfl ?_ ?_ ?_ ?_)
 ·rw [hz12]; omega
 ·simp [maxLen]; omega
 ·simp; omega
 intro w1 ho hg
 rw [toList_madeCells_one] at ho
 try rw [← hmb] at ho
 have HB1 : Hid (Below w.heap.size w w1) := HBM.out.grown hg (by simp) (fun _ h => by cases h)
 have HM1 : Hid (NumMap .i64 w1 mb (keysI [])) := HMM.out.kept hg (by simp)
 have HO : Hid (w1.ownsRow (mb + 1) 2 1 (.slice (some ⟨mb + 1, 0, none⟩) N N) N (List.replicate N (.int .i64 0))) := by
  unfold Hid; simpa using ho
 try rw [hsm]
 try rw [← hmb]
 obtain ⟨G, hG⟩ : ∃ G, G = mb + 1 := ⟨_, rfl⟩
 rw [← hG] at HO
 try rw [← hG]
 have HG := Lib.hid hG
 have hle : w.heap.size ≤ G := by omega
 clear ho hg hi1 hz10 hz11 hz12 HMM HBM hmm hsm hmb hG
 go_wp2
 go_loopw [15] (fun v15 wr => ∃ k : Nat, k ≤ N ∧ v15 = .int .i64 k ∧ Below w.heap.size w wr ∧ NumMap .i64 wr mb (keysI (firsts (xs.take k))) ∧ wr.ownsRow G 2 1 (.slice (some ⟨G, 0, none⟩) N N) N ((Q.take k).map (Value.int .i64) ++ List.replicate (Q.length - k) (.int .i64 0))) (fun v15 _ => N - (intOf v15).toNat)
 case atStart => exact ⟨0, Nat.zero_le _, rfl, HB1.out, HM1.out, by simpa [HQN.out] using HO.out⟩
 case round =>
  clear HO HB1 HM1
  obtain ⟨k, hk, rfl, hbl, hmap, ho⟩ := hrel
  obtain ⟨wC, rfl⟩ : ∃ wC : World, wC = wr := ⟨_, rfl⟩
  have HBL := Lib.hid hbl
  have HO := Lib.hid ho
  have HMP := Lib.hid hmap
  have hszC := hbl.size
  by_cases hlt : k < N
  ·have hltx : k < xs.length := by rw [← HN.out]; exact hlt
   have hltq : k < Q.length := by rw [HQN.out]; exact hlt
   obtain ⟨b, o, rfl, -, hb, c1⟩ := (HR.out.below hbl).one hltx
   simp only [encI, List.getElem?_cons_zero] at c1
   obtain ⟨x, hx⟩ : ∃ x, x = xs[k] := ⟨_, rfl⟩
   rw [← hx] at c1
   obtain ⟨D, hD⟩ : ∃ D, D = firsts (xs.take k) := ⟨_, rfl⟩
   rw [← hD] at HMP hmap
   have hDn : D.Nodup := by rw [hD]; exact firsts_nodup _
   have hDl : D.length ≤ 1000000 := by
    rw [hD]
    have h1 := firsts_len (xs.take k)
    rw [List.length_take] at h1
    omega
   have hks : ∀ v ∈ keysI D, ∃ l, keyOf Tryz.prog 2 v = some l := fun v hv => by
    obtain ⟨y, hy, rfl⟩ := List.mem_map.1 hv
    rw [hD] at hy
    exact keyOfI (H64.out y (List.mem_of_mem_take ((firsts_mem _ _).1 hy)))
   have hQk : Q[k] = (fstIx D x : Int) := by
    have h := normL_at hltx
    rw [← HQ.out, List.getElem?_eq_getElem hltq, ← hD, ← hx] at h
    exact Option.some.inj h
   have hgG := (ho.lt G rfl).2
   by_cases hm : x ∈ D
   ·have hj := fstIx_lt hm
    have hjk : fstIx D x < (keysI D).length := by unfold keysI; rw [List.length_map]; exact hj
    have hfd := hmap.found keyedI underMapI hks (keysI_nodup hDn) hjk
    have hkj : (keysI D)[fstIx D x] = .int .i64 x := by
     have h : (keysI D)[fstIx D x]? = some (.int .i64 x) := by unfold keysI; rw [List.getElem?_map, fstIx_get hm]; rfl
     rw [List.getElem?_eq_getElem hjk] at h
     exact Option.some.inj h
    rw [hkj] at hfd
    obtain ⟨j, hjj⟩ : ∃ j, j = fstIx D x := ⟨_, rfl⟩
    rw [← hjj] at hfd hQk
    have d2 := ho.cellAt k (by omega)
    rw [filled_get _ _ _ _ hltq] at d2
    have d3 := ho.frozenAt k
    have ho4 := (ho.stored k (.int .i64 (j : Int))).1
    have hset := filled_set Q (Value.int .i64) (.int .i64 0) k hltq
    rw [hQk] at hset
    rw [hset] at ho4
    have HO4 := Lib.hid ho4
    have hM4 : NumMap .i64 (wC.setCell ⟨G, k, none⟩ (.int .i64 (j : Int))) mb (keysI (firsts (xs.take (k + 1)))) := by
     have e : firsts (xs.take (k + 1)) = D := by
      rw [List.take_succ_eq_append_getElem hltx, firsts_snoc, ← hD, ← hx]
      unfold addNew
      rw [if_pos hm]
     rw [e]
     exact hmap.kept (grown_setCell wC ⟨G, k, none⟩ _) (by have := HG.out; simp; omega)
    have HM4 := Lib.hid hM4
    clear ho ho4 hset hmap hM4 hkj hjk hj hjj hm hQk hks hDn hDl hD hx hbl
    go_wp2
    go_roundw
    case rel => exact ⟨k + 1, by omega, by go_num, HBL.out.setCell hle _, HM4.out, by simpa using HO4.out⟩
    case measure => simp [intOf]; omega
   ·obtain ⟨kl, hkl⟩ := keyOfI (show I64 x from by rw [hx]; exact H64.out _ (List.getElem_mem hltx))
    have hkn : Value.int .i64 x ∉ keysI D := fun h => by
     obtain ⟨y, hy, e⟩ := List.mem_map.1 h
     rw [show y = x from by simpa using e] at hy
     exact hm hy
    have hmi := hmap.missing keyedI underMapI hks (zeroI64N wC) hkl hkn
    have hln := hmap.len underMapI 3
    obtain ⟨w2, hup, hm2, hg2⟩ := hmap.store keyedI underMapI hks hkl hkn (by unfold keysI; rw [List.length_map]; unfold maxLen; omega)
    have hkl2 : (keysI D).length = D.length := by unfold keysI; rw [List.length_map]
    rw [hkl2] at hln hup
    obtain ⟨M, hM⟩ : ∃ M, M = D.length := ⟨_, rfl⟩
    rw [← hM] at hln hup
    have hQM : Q[k] = (M : Int) := by rw [hQk, fstIx_not hm, hM]
    have hblk : wC.heap[mb]? = some (.map (((keysI D).mapIdx fun i k => (⟨k, .int .i64 i, i⟩ : MapEntry)).toArray) (keysI D).length) := hmap
    have ho2 := ho.kept hg2 (own_map_ne ho hblk)
    have d2 := ho2.cellAt k (by omega)
    rw [filled_get _ _ _ _ hltq] at d2
    have d3 := ho2.frozenAt k
    have ho4 := (ho2.stored k (.int .i64 (M : Int))).1
    have hset := filled_set Q (Value.int .i64) (.int .i64 0) k hltq
    rw [hQM] at hset
    rw [hset] at ho4
    have HO4 := Lib.hid ho4
    have hM4 : NumMap .i64 (w2.setCell ⟨G, k, none⟩ (.int .i64 (M : Int))) mb (keysI (firsts (xs.take (k + 1)))) := by
     have e : firsts (xs.take (k + 1)) = D ++ [x] := by
      rw [List.take_succ_eq_append_getElem hltx, firsts_snoc, ← hD, ← hx]
      unfold addNew
      rw [if_neg hm]
     have e2 : keysI (D ++ [x]) = keysI D ++ [.int .i64 x] := by unfold keysI; rw [List.map_append]; rfl
     rw [e, e2]
     exact hm2.kept (grown_setCell w2 ⟨G, k, none⟩ _) (by have := HG.out; simp; omega)
    have HM4 := Lib.hid hM4
    have HB2 := Lib.hid (HBL.out.grown hg2 hszC (fun b e => by cases e; rw [HMB.out]; exact Nat.le_refl _))
    clear ho ho2 ho4 hset hmap hM4 hm2 hg2 hblk hkl2 hm hQk hQM hks hDn hD hx hbl hkl hkn hM
    go_wp2
    go_roundw
    case rel => exact ⟨k + 1, by omega, by go_num, HB2.out.setCell hle _, HM4.out, by simpa using HO4.out⟩
    case measure => simp [intOf]; omega
  ·obtain rfl : k = N := by omega
   have HF : Hid (wC.ownsRow G 2 1 (.slice (some ⟨G, 0, none⟩) Q.length k) Q.length (Q.map (Value.int .i64))) := by
    have h := HO.out
    unfold Hid
    rw [← HQN.out] at h ⊢
    simpa using h
   clear ho hmap hbl
   go_wp2
   go_ret
   refine ⟨_, rfl, HBL.out, ?_⟩
   have h := HF.out
   rw [HQN.out] at h ⊢
   exact own_lower h hle

end Go.Proofs.YtdkbbknhighebaaGreatDoor
