/-
  Nodes of formulas in memory; the law's helpers for them.
  The reference's l14Covers and l14Lone.
  What the reference's l14Tell goes through, plainly: the first edge that is not met, the formulas of the ends under its label.
  A pile of rows of the call's own, no two in one block; a slice of such rows.
  A system of the call's own: how it lies in memory.
  Marks in nodes of the call's own, and that they still stand.
  A slice of slices of one-celled elements, all in memory of the call's own: a row more, a row that grows.
  The table of the formulas while it is filled; what DistinguishingFormula returns. Plain, and memory notions.
-/
import Derived.Test.YtjoacldbgnphkaaGreatDoorE8
import Derived.Test.YtjoacldbgnphkaaGreatDoorE2
import Derived.Test.YtjoacldbgnphkaaGreatDoorE1
namespace Go.Proofs.YtjoacldbgnphkaaGreatDoor
open Go Go.RowKit


/-- A node with all its fields. -/
structure Nf where
 kind : Int
 var : Int
 label : ByteArray
 neg : Bool
def encF (n : Nf) : List Value := [.int .i64 n.kind, .int .i64 n.var, .string n.label, .bool n.neg]
def encN (n : Nd) : List Value := [.int .i64 n.kind, .int .i64 0, .string n.label, .bool false]
theorem encF_len : ∀ n, (encF n).length = 4 := fun _ => rfl
theorem encN_len : ∀ n, (encN n).length = 4 := fun _ => rfl
theorem RowK.node {α : Type} {enc : α → List Value} {lo : Nat} {w : World} {a : Option Addr} {xs : List α} (h : RowK 4 enc lo w a xs) {i : Nat} (hi : i < xs.length) :
  ∃ b off, a = some ⟨b, off, none⟩ ∧ lo ≤ b ∧ b < w.heap.size ∧ w.cell? ⟨b, off + i * 4, none⟩ = (enc xs[i])[0]? ∧ w.cell? ⟨b, off + i * 4 + 1, none⟩ = (enc xs[i])[1]? ∧ w.cell? ⟨b, off + i * 4 + 2, none⟩ = (enc xs[i])[2]? ∧ w.cell? ⟨b, off + i * 4 + 3, none⟩ = (enc xs[i])[3]? := by
 rcases h with h | ⟨b, off, ha, h1, h2, h3⟩
 ·omega
 ·exact ⟨b, off, ha, h1, h2, by have := h3 i hi 0 (by omega); simpa using this, by have := h3 i hi 1 (by omega); simpa using this, by have := h3 i hi 2 (by omega); simpa using this, by have := h3 i hi 3 (by omega); simpa using this⟩

set_option maxHeartbeats 400000 in
theorem eqNode_same (x y : Int) (s : ByteArray) (z : Bool) (w : World) :
  Calls Tryz.prog 27 #[.agg #[.int .i64 x, .int .i64 y, .string s, .bool z], .agg #[.int .i64 x, .int .i64 y, .string s, .bool z]] w fun e w' => e = .returned (.bool true) ∧ Below w.heap.size w w' := by
 go_enter Tryz.func27, Tryz.ntmps27
 go_wp2
 go_ret
 exact ⟨rfl, ((Below.refl _ _).alloc (Nat.le_refl _) _).alloc (by simp) _⟩

set_option maxHeartbeats 400000 in
theorem eqNodeS_same (va vb : Value) (lo lo' : Nat) (xs : List Nd) (w : World) (hva : SliceK 4 encN lo w va xs) (hvb : SliceK 4 encN lo' w vb xs) :
  Calls Tryz.prog 9 #[va, vb] w fun e w' => e = .returned (.bool true) ∧ Below w.heap.size w w' := by
 obtain ⟨a, ca, rfl, hna, hca, ha⟩ := hva
 obtain ⟨b, cb, rfl, hnb, hcb, hb⟩ := hvb
 go_enter Tryz.func9, Tryz.ntmps9
 go_wp2
 go_loopw [5] (fun i wr => ∃ k : Nat, k ≤ xs.length ∧ i = .int .i64 k ∧ Below w.heap.size w wr) (fun i _ => xs.length - (intOf i).toNat)
 case atStart => exact ⟨0, Nat.zero_le _, rfl, Below.refl _ _⟩
 case round =>
  obtain ⟨k, hk, rfl, hbl⟩ := hrel
  by_cases hlt : k < xs.length
  ·obtain ⟨b1, o1, rfl, -, h1, c0, c1, c2, c3⟩ := (ha.below hbl).node hlt
   obtain ⟨b2, o2, rfl, -, h2, d0, d1, d2, d3⟩ := (hb.below hbl).node hlt
   simp only [encN, List.getElem?_cons_zero, List.getElem?_cons_succ] at c0 c1 c2 c3 d0 d1 d2 d3
   replace c0 := later_cell h1 c0
   replace c1 := later_cell h1 c1
   replace c2 := later_cell h1 c2
   replace c3 := later_cell h1 c3
   replace d0 := later_cell h2 d0
   replace d1 := later_cell h2 d1
   replace d2 := later_cell h2 d2
   replace d3 := later_cell h2 d3
   clear ha hb
   go_wp2
   refine wp_region_later (by kernel_rfl) (by kernel_rfl) ?_
   repeat (go_big_quiet_step ((go_at_call 27; exact later_call (eqNode_same _ _ _ _ _))))
   refine wpQuiet_nil ?_
   intro _ hw9
   obtain ⟨nl, hw8⟩ := hw9
   subst hw8
   go_wp2
   go_roundw
   case rel => exact ⟨k + 1, by omega, by go_num, hbl.trans (nl.h.mono hbl.size)⟩
   case measure => simp [intOf]; omega
  ·clear ha hb
   go_wp2
   go_ret
   exact ⟨rfl, hbl⟩

def mrkN (k : Int) (n : Nat) : List Nf := (List.range n).map fun i => ⟨k + 4 * (i : Nat), k + 4 * (i : Nat) + 1, mtxt (k + 4 * (i : Nat) + 1 + 1), (k + 4 * (i : Nat) + 1 + 1 + 1).tmod 3 == 0⟩
def markedN (k : Int) (cs : List Value) (j : Nat) : List Value := (mrkN k j).flatMap encF ++ cs.drop (j * 4)
theorem mrkN_len (k : Int) (n : Nat) : (mrkN k n).length = n := by simp [mrkN]
theorem flatF_len : ∀ (es : List Nf), (es.flatMap encF).length = es.length * 4
 | [] => rfl
 | x :: es => by rw [List.flatMap_cons, List.length_append, flatF_len es, List.length_cons]; simp [encF]; omega
theorem mrkN_flat (k : Int) (n : Nat) : ((mrkN k n).flatMap encF).length = n * 4 := by rw [flatF_len, mrkN_len]
theorem markedN_zero (k : Int) (cs : List Value) : markedN k cs 0 = cs := by simp [markedN, mrkN]
theorem markedN_all (k : Int) (cs : List Value) (n : Nat) (h : cs.length = n * 4) : markedN k cs n = (mrkN k n).flatMap encF := by simp [markedN, ← h]
theorem markedN_set (k : Int) (cs : List Value) (j : Nat) (h : j * 4 + 3 < cs.length) :
  ((((markedN k cs j).set (j * 4) (.int .i64 (k + 4 * (j : Nat)))).set (j * 4 + 1) (.int .i64 (k + 4 * (j : Nat) + 1))).set (j * 4 + 2) (.string (mtxt (k + 4 * (j : Nat) + 1 + 1)))).set (j * 4 + 3) (.bool ((k + 4 * (j : Nat) + 1 + 1 + 1).tmod 3 == 0)) = markedN k cs (j + 1) := by
 have hl := mrkN_flat k j
 have hm : mrkN k (j + 1) = mrkN k j ++ [⟨k + 4 * (j : Nat), k + 4 * (j : Nat) + 1, mtxt (k + 4 * (j : Nat) + 1 + 1), (k + 4 * (j : Nat) + 1 + 1 + 1).tmod 3 == 0⟩] := by simp [mrkN, List.range_succ]
 unfold markedN
 rw [hm, List.flatMap_append, List.append_assoc, List.drop_eq_getElem_cons (show j * 4 < cs.length by omega), List.drop_eq_getElem_cons (show j * 4 + 1 < cs.length by omega), List.drop_eq_getElem_cons (show j * 4 + 1 + 1 < cs.length by omega), List.drop_eq_getElem_cons (show j * 4 + 1 + 1 + 1 < cs.length by omega)]
 rw [List.set_append_right _ _ (by omega), List.set_append_right _ _ (by omega), List.set_append_right _ _ (by omega), List.set_append_right _ _ (by omega), hl, show j * 4 - j * 4 = 0 from by omega, show j * 4 + 1 - j * 4 = 1 from by omega, show j * 4 + 2 - j * 4 = 2 from by omega, show j * 4 + 3 - j * 4 = 3 from by omega,
  show (j + 1) * 4 = j * 4 + 1 + 1 + 1 + 1 from by omega]
 simp only [List.set_cons_zero, List.set_cons_succ, List.flatMap_cons, List.flatMap_nil, encF, List.append_nil, List.cons_append, List.nil_append]

end Go.Proofs.YtjoacldbgnphkaaGreatDoor

namespace Go.Proofs.YtjoacldbgnphkaaGreatDoor
open Go Go.RowKit


/-- Is an edge met by one of the first k? -/
def metK (t : Lts) (p : List Int) (e : Edge) (b : Int) (k : Nat) : Bool := (t.edges.take k).any fun o => o.src == b && (o.lab == e.lab && p.getD o.dst.toNat 0 == p.getD e.dst.toNat 0)
theorem metK_zero (t : Lts) (p : List Int) (e : Edge) (b : Int) : metK t p e b 0 = false := by simp [metK]
theorem metK_succ {t : Lts} {p : List Int} {e : Edge} {b : Int} {k : Nat} (h : k < t.edges.length) : metK t p e b (k + 1) = (metK t p e b k || (t.edges[k].src == b && (t.edges[k].lab == e.lab && p.getD t.edges[k].dst.toNat 0 == p.getD e.dst.toNat 0))) := by
 unfold metK
 rw [List.take_succ_eq_append_getElem h, List.any_append]
 simp
theorem metK_all (t : Lts) (p : List Int) (e : Edge) (b : Int) : metK t p e b t.edges.length = metB t p e b := by
 unfold metK metB outOf
 rw [List.take_length, List.any_filter]
theorem metK_met {t : Lts} {p : List Int} {e : Edge} {b : Int} {k : Nat} (h : metK t p e b k = true) : metB t p e b = true := by
 rw [← metK_all]
 unfold metK at *
 rw [List.take_length]
 rw [List.any_eq_true] at *
 obtain ⟨o, ho, h1⟩ := h
 exact ⟨o, List.mem_of_mem_take ho, h1⟩
def covK (t : Lts) (p : List Int) (a b : Int) (i : Nat) : Bool := (t.edges.take i).all fun e => !(e.src == a) || metB t p e b
theorem covK_zero (t : Lts) (p : List Int) (a b : Int) : covK t p a b 0 = true := by simp [covK]
theorem covK_succ {t : Lts} {p : List Int} {a b : Int} {i : Nat} (h : i < t.edges.length) : covK t p a b (i + 1) = (covK t p a b i && (!(t.edges[i].src == a) || metB t p t.edges[i] b)) := by
 unfold covK
 rw [List.take_succ_eq_append_getElem h, List.all_append]
 simp
theorem covK_all (t : Lts) (p : List Int) (a b : Int) : covK t p a b t.edges.length = covB t p a b := by
 unfold covK covB outOf
 rw [List.take_length, List.all_filter]
theorem covK_not {t : Lts} {p : List Int} {a b : Int} {i : Nat} (h : i < t.edges.length) (h1 : t.edges[i].src = a) (h2 : metB t p t.edges[i] b = false) : covB t p a b = false := by
 unfold covB
 rw [List.all_eq_false]
 exact ⟨t.edges[i], List.mem_filter.2 ⟨List.getElem_mem h, by simpa using h1⟩, by rw [h2]; simp⟩
theorem part_cell {t : Lts} {p : List Int} (hip : InP t p) {lo : Nat} {w : World} {a : Option Addr} (hr : RowK 1 encI lo w a p) {k : Int} (h0 : 0 ≤ k) (h1 : k < t.states) : ∃ b off, a = some ⟨b, off, none⟩ ∧ b < w.heap.size ∧ w.cell? ⟨b, off + k.toNat, none⟩ = some (.int .i64 (p.getD k.toNat 0)) := by
 have hl : k.toNat < p.length := by rw [hip.1]; omega
 obtain ⟨b, off, ha, -, hb, hc⟩ := hr.one hl
 refine ⟨b, off, ha, hb, ?_⟩
 rw [hc, getD_eq hl]
 rfl

set_option maxRecDepth 100000 in
set_option maxHeartbeats 4000000 in
theorem covers_any (bt lo lo2 S : Nat) (t : Lts) (pv : Value) (p : List Int) (a b : Int) (w : World) (hv : Valid t) (hS : (S : Int) = t.states) (hip : InP t p) (hp : LtsPtr lo w bt t) (hpv : SliceK 1 encI lo2 w pv p) :
  Calls Tryz.prog 57 #[.pointer (some ⟨bt, 0, none⟩), pv, .int .i64 a, .int .i64 b] w fun e w' => e = .returned (.bool (covB t p a b)) ∧ Below w.heap.size w w' := by
 have HV := Lib.hid hv
 have HIP := Lib.hid hip
 obtain ⟨lv, ev, hpl, -, -, -, q3, -, hes⟩ := hp
 obtain ⟨ae, ce, rfl, hen, hec, herow⟩ := hes
 have HER := Lib.hid herow
 obtain ⟨pa, pc, rfl, hpn, hpc, hprow⟩ := hpv
 have HPR := Lib.hid hprow
 have hpS : p.length = S := by have := hip.1; omega
 have hmost := hv.most
 have hs1 := hv.st1
 obtain ⟨E, hE⟩ : ∃ E, E = t.edges.length := ⟨_, rfl⟩
 rw [← hE] at hen hmost q3
 rw [hpS] at hpn ⊢
 have HEE := Lib.hid hE
 have HSS := Lib.hid hS
 have HQ3 := Lib.hid q3
 have hS40 : S ≤ 40 := by omega
 clear hv hip herow hprow hE hS hpS hs1
 go_enter Tryz.func57, Tryz.ntmps57
 go_wp2
 go_loopw [9] (fun i wr => ∃ k : Nat, k ≤ E ∧ i = .int .i64 k ∧ Below w.heap.size w wr ∧ covK t p a b k = true) (fun i _ => E - (intOf i).toNat)
 case atStart => exact ⟨0, Nat.zero_le _, rfl, Below.refl _ _, covK_zero _ _ _ _⟩
 case round =>
  obtain ⟨i, hi, rfl, hbl, hcov⟩ := hrel
  have HBL := Lib.hid hbl
  have HCV := Lib.hid hcov
  have hsz := hbl.size
  have q3 := keeps hbl hpl HQ3.out
  clear hbl hcov
  by_cases hlt : i < E
  ·have hiE : i < t.edges.length := by rw [← HEE.out]; exact hlt
   obtain ⟨be, oe, rfl, -, hbe, e1, e2, e3⟩ := (HER.out.below HBL.out).edge hiE
   have hok := HV.out.edge i hiE
   have HSU := Lib.hid (covK_succ (p := p) (a := a) (b := b) hiE)
   obtain ⟨es, hes⟩ : ∃ es, es = t.edges[i].src := ⟨_, rfl⟩
   obtain ⟨ed, hed⟩ : ∃ ed, ed = t.edges[i] := ⟨_, rfl⟩
   rw [← hes] at e1 HSU
   rw [← hed] at e2 e3 HSU hok
   have HES := Lib.hid hes
   have HED := Lib.hid hed
   have HOK := Lib.hid hok
   clear hok hes hed
   cases g1 : (es == a)
   ·have HCN : Hid (covK t p a b (i + 1) = true) := by unfold Hid; rw [HSU.out, HCV.out, g1]; rfl
    have hne : (es != a) = true := by rw [bne, g1]; rfl
    clear g1
    go_wp2
    go_roundw
    case rel => exact ⟨i + 1, by omega, by go_num, HBL.out, HCN.out⟩
    case measure => simp [intOf]; omega
   ·have hne : (es != a) = false := by rw [bne, g1]; rfl
    have HSA : Hid (t.edges[i].src = a) := by unfold Hid; rw [← HES.out]; exact eq_of_beq g1
    go_wp2
    go_loopw [10, 11] (fun fv kv wr => ∃ k : Nat, k ≤ E ∧ fv = .bool (metK t p ed b k) ∧ kv = .int .i64 k ∧ Below w.heap.size w wr) (fun _ kv _ => E - (intOf kv).toNat)
    case atStart => exact ⟨0, Nat.zero_le _, by rw [metK_zero], rfl, HBL.out⟩
    case round =>
     clear e1 e2 e3 q3
     obtain ⟨k, hk, rfl, rfl, hbl⟩ := hrel
     have HB2 := Lib.hid hbl
     have hsz2 := hbl.size
     have q3 := keeps hbl hpl HQ3.out
     clear hbl
     cases gm : metK t p ed b k
     ·by_cases hlk : k < E
      ·have hkE : k < t.edges.length := by rw [← HEE.out]; exact hlk
       obtain ⟨be1, oe1, hbeq, -, hbe1, e1, e2, e3⟩ := (HER.out.below HB2.out).edge hiE
       obtain ⟨be2, oe2, hbeq2, -, hbe2, f1, f2, f3⟩ := (HER.out.below HB2.out).edge hkE
       simp only [Option.some.injEq, Addr.mk.injEq, and_true] at hbeq hbeq2
       obtain ⟨rfl, rfl⟩ := hbeq
       obtain ⟨rfl, rfl⟩ := hbeq2
       rw [← HED.out] at e1 e2 e3
       have HMS := Lib.hid (metK_succ (p := p) (e := ed) (b := b) hkE)
       have hok2 := HV.out.edge k hkE
       obtain ⟨kd, hkd⟩ : ∃ kd, kd = t.edges[k] := ⟨_, rfl⟩
       rw [← hkd] at f1 f2 f3 HMS hok2
       have hok := HOK.out
       obtain ⟨x, hx⟩ : ∃ x : Nat, (x : Int) = ed.dst := ⟨ed.dst.toNat, by have := hok.d0; omega⟩
       obtain ⟨y, hy⟩ : ∃ y : Nat, (y : Int) = kd.dst := ⟨kd.dst.toNat, by have := hok2.d0; omega⟩
       have hxS : x < S := by have := hok.d1; have := HSS.out; omega
       have hyS : y < S := by have := hok2.d1; have := HSS.out; omega
       obtain ⟨bp, op, rfl, hbp, c1⟩ := part_cell HIP.out (HPR.out.below HB2.out) hok.d0 hok.d1
       obtain ⟨bp2, op2, hbp3, hbp2, c2⟩ := part_cell HIP.out (HPR.out.below HB2.out) hok2.d0 hok2.d1
       simp only [Option.some.injEq, Addr.mk.injEq, and_true] at hbp3
       obtain ⟨rfl, rfl⟩ := hbp3
       have ex : ed.dst.toNat = x := by omega
       have ey : kd.dst.toNat = y := by omega
       rw [ex] at c1 HMS
       rw [ey] at c2 HMS
       rw [← hx] at e3
       rw [← hy] at f3
       obtain ⟨px, hpx⟩ : ∃ px, px = p.getD x 0 := ⟨_, rfl⟩
       obtain ⟨py, hpy⟩ : ∃ py, py = p.getD y 0 := ⟨_, rfl⟩
       rw [← hpx] at c1 HMS
       rw [← hpy] at c2 HMS
       obtain ⟨ks, hks⟩ : ∃ ks, ks = kd.src := ⟨_, rfl⟩
       obtain ⟨kl, hkl⟩ : ∃ kl, kl = kd.lab := ⟨_, rfl⟩
       obtain ⟨el, hel⟩ : ∃ el, el = ed.lab := ⟨_, rfl⟩
       rw [← hks] at f1 HMS
       rw [← hkl] at f2 HMS
       rw [← hel] at e2 HMS
       have hplw : bt < wr.heap.size := Nat.lt_of_lt_of_le hpl hsz2
       have l3 := later_cell hplw q3
       replace e1 := later_cell hbe1 e1
       replace e2 := later_cell hbe1 e2
       replace e3 := later_cell hbe1 e3
       replace f1 := later_cell hbe2 f1
       replace f2 := later_cell hbe2 f2
       replace f3 := later_cell hbe2 f3
       replace c1 := later_cell hbp c1
       replace c2 := later_cell hbp2 c2
       have HGM := Lib.hid gm
       clear hok hok2 hx hy ex ey hpx hpy hks hkl hel hkd
       have HMV : Hid (metK t p ed b (k + 1) = (ks == b && (kl == el && py == px))) := by unfold Hid; rw [HMS.out, HGM.out]; rfl
       clear HMS gm
       cases h1 : (ks == b)
       ·rw [h1] at HMV
        go_wp2
        refine wp_region_later (by kernel_rfl) (by kernel_rfl) ?_
        repeat (go_big_quiet_step ((fail)))
        refine wpQuiet_nil ?_
        intro _ hw9
        obtain ⟨nl, hw8⟩ := hw9
        subst hw8
        go_wp2
        go_roundw
        case rel => exact ⟨k + 1, by omega, by rw [HMV.out]; rfl, by go_num, HB2.out.trans (nl.h.mono hsz2)⟩
        case measure => simp [intOf]; omega
       ·cases h2 : (kl == el)
        ·rw [h1, h2] at HMV
         go_wp2
         refine wp_region_later (by kernel_rfl) (by kernel_rfl) ?_
         repeat (go_big_quiet_step ((fail)))
         refine wpQuiet_nil ?_
         intro _ hw9
         obtain ⟨nl, hw8⟩ := hw9
         subst hw8
         go_wp2
         go_roundw
         case rel => exact ⟨k + 1, by omega, by rw [HMV.out]; rfl, by go_num, HB2.out.trans (nl.h.mono hsz2)⟩
         case measure => simp [intOf]; omega
        ·rw [h1, h2] at HMV
         go_wp2
         refine wp_region_later (by kernel_rfl) (by kernel_rfl) ?_
         repeat (go_big_quiet_step ((fail)))
         refine wpQuiet_nil ?_
         intro _ hw9
         obtain ⟨nl, hw8⟩ := hw9
         subst hw8
         go_wp2
         go_roundw
         case rel => exact ⟨k + 1, by omega, by rw [HMV.out]; simp, by go_num, HB2.out.trans (nl.h.mono hsz2)⟩
         case measure => simp [intOf]; omega
      ·obtain rfl : k = E := by omega
       have HCB : Hid (covB t p a b = false) := by
        have hm := gm
        rw [HEE.out, metK_all, HED.out] at hm
        exact covK_not hiE HSA.out hm
       go_wp2
       go_ret
       exact ⟨by rw [HCB.out]; rfl, HB2.out⟩
     ·have HMT : Hid (covK t p a b (i + 1) = true) := by unfold Hid; rw [HSU.out, HCV.out, metK_met gm]; simp
      by_cases hlk : k < E
      ·go_wp2
       go_roundw
       case rel => exact ⟨i + 1, by omega, by go_num, HB2.out, HMT.out⟩
       case measure => simp [intOf]; omega
      ·go_wp2
       go_roundw
       case rel => exact ⟨i + 1, by omega, by go_num, HB2.out, HMT.out⟩
       case measure => simp [intOf]; omega
  ·have HCB : Hid (covB t p a b = true) := by
    have h1 := HCV.out
    have h2 : i = t.edges.length := by rw [← HEE.out]; omega
    rw [h2, covK_all] at h1
    exact h1
   go_wp2
   go_ret
   exact ⟨by rw [HCB.out]; rfl, HBL.out⟩

end Go.Proofs.YtjoacldbgnphkaaGreatDoor

namespace Go.Proofs.YtjoacldbgnphkaaGreatDoor
open Go Go.RowKit


/-- An edge from a that no edge from b meets. -/
def loneB (t : Lts) (p : List Int) (a b : Int) (e : Edge) : Bool := e.src == a && !metB t p e b
def NoneL (t : Lts) (p : List Int) (a b : Int) (i : Nat) : Prop := ∀ j (h : j < t.edges.length), j < i → loneB t p a b t.edges[j] = false
def FirstL (t : Lts) (p : List Int) (a b : Int) (n : Nat) : Prop := ∃ h : n < t.edges.length, loneB t p a b t.edges[n] = true ∧ NoneL t p a b n
theorem lone_edges (t : Lts) (p : List Int) (a b : Int) : loneE t p a b = t.edges.find? (loneB t p a b) := by
 unfold loneE outOf
 rw [List.find?_filter]
 congr 1
 funext e
 unfold loneB
 cases e.src == a <;> cases metB t p e b <;> rfl
theorem NoneL.all {t : Lts} {p : List Int} {a b : Int} (h : NoneL t p a b t.edges.length) : loneE t p a b = none := by
 rw [lone_edges, List.find?_eq_none]
 intro e he
 obtain ⟨i, hi, rfl⟩ := List.mem_iff_getElem.1 he
 rw [h i hi hi]
 simp
theorem FirstL.lone {t : Lts} {p : List Int} {a b : Int} {n : Nat} (h : FirstL t p a b n) : ∃ hn : n < t.edges.length, loneE t p a b = some t.edges[n] := by
 obtain ⟨hn, h1, h2⟩ := h
 refine ⟨hn, ?_⟩
 rw [lone_edges, List.find?_eq_some_iff_getElem]
 exact ⟨h1, n, hn, rfl, fun j hj => by rw [h2 j (by omega) hj]; rfl⟩
theorem NoneL.succ {t : Lts} {p : List Int} {a b : Int} {i : Nat} (h : NoneL t p a b i) (hi : i < t.edges.length) (h1 : loneB t p a b t.edges[i] = false) : NoneL t p a b (i + 1) := fun j hj hlt => by
 rcases Nat.lt_succ_iff_lt_or_eq.1 hlt with h2 | h2
 ·exact h j hj h2
 ·subst h2
  exact h1
/-- The formulas of the ends among the first i edges. -/
def fsK (t : Lts) (oth lab : Int) (fn : Int → List Nd) (i : Nat) : List (List Nd) := ((t.edges.take i).filter fun o => o.src == oth && o.lab == lab).map fun o => fn o.dst
theorem fsK_zero (t : Lts) (oth lab : Int) (fn : Int → List Nd) : fsK t oth lab fn 0 = [] := by simp [fsK]
theorem fsK_miss {t : Lts} {oth lab : Int} {fn : Int → List Nd} {i : Nat} (hi : i < t.edges.length) (h : (t.edges[i].src == oth && t.edges[i].lab == lab) = false) : fsK t oth lab fn (i + 1) = fsK t oth lab fn i := by
 unfold fsK
 rw [List.take_succ_eq_append_getElem hi, List.filter_append]
 simp [h]
theorem fsK_hit {t : Lts} {oth lab : Int} {fn : Int → List Nd} {i : Nat} (hi : i < t.edges.length) (h : (t.edges[i].src == oth && t.edges[i].lab == lab) = true) : fsK t oth lab fn (i + 1) = fsK t oth lab fn i ++ [fn t.edges[i].dst] := by
 unfold fsK
 rw [List.take_succ_eq_append_getElem hi, List.filter_append, List.map_append]
 simp [h]
theorem fsK_all (t : Lts) (oth lab : Int) (fn : Int → List Nd) : fsK t oth lab fn t.edges.length = (endsG t oth lab).map fn := by
 unfold fsK endsG outOf
 rw [List.take_length, List.filter_filter, List.map_map]
 congr 1
 refine List.filter_congr fun o _ => ?_
 rw [Bool.and_comm]
theorem fsK_len (t : Lts) (oth lab : Int) (fn : Int → List Nd) (i : Nat) : (fsK t oth lab fn i).length ≤ i := by
 unfold fsK
 rw [List.length_map]
 refine Nat.le_trans (List.length_filter_le _ _) ?_
 rw [List.length_take]
 omega
theorem fsK_sub {t : Lts} {oth lab : Int} {fn : Int → List Nd} {i : Nat} {f : List Nd} (h : f ∈ fsK t oth lab fn i) : f ∈ (endsG t oth lab).map fn := by
 rw [← fsK_all]
 unfold fsK at *
 obtain ⟨o, ho, rfl⟩ := List.mem_map.1 h
 rw [List.mem_filter] at ho
 refine List.mem_map.2 ⟨o, List.mem_filter.2 ⟨?_, ho.2⟩, rfl⟩
 rw [List.take_length]
 exact List.mem_of_mem_take ho.1
theorem diffL_len : ∀ (fs : List (List Nd)), (diffL fs).length ≤ fs.length := by
 have h : ∀ (m acc : List (List Nd)), (m.foldl (fun acc f => if f ∈ acc then acc else acc ++ [f]) acc).length ≤ acc.length + m.length := by
  intro m
  induction m with
  | nil => intro acc; simp
  | cons y m ih =>
   intro acc
   rw [List.foldl_cons, List.length_cons]
   refine Nat.le_trans (ih _) ?_
   by_cases h : y ∈ acc
   ·rw [if_pos h]; omega
   ·rw [if_neg h, List.length_append, List.length_singleton]; omega
 intro fs
 have := h fs []
 unfold diffL
 simpa using this

theorem place_inj {S a b x y : Nat} (hb : b < S) (hy : y < S) (h : a * S + b = x * S + y) : a = x ∧ b = y := by
 rcases Nat.lt_trichotomy a x with k | k | k
 ·have := Nat.mul_le_mul_right S (Nat.succ_le_of_lt k)
  rw [Nat.succ_mul] at this
  omega
 ·subst k
  exact ⟨rfl, by omega⟩
 ·have := Nat.mul_le_mul_right S (Nat.succ_le_of_lt k)
  rw [Nat.succ_mul] at this
  omega
theorem place_ltM {S x y : Nat} (hx : x < S) (hy : y < S) : x * S + y < S * S := by
 have := Nat.mul_le_mul_right S (Nat.succ_le_of_lt hx)
 rw [Nat.succ_mul] at this
 omega
/-- The elements of a slice, cell by cell. -/
theorem flat_cells {α : Type} {k : Nat} {enc : α → List Value} (hk : ∀ x, (enc x).length = k) {w : World} {b : Nat} : ∀ (xs : List α) (off : Nat), (∀ i (h : i < xs.length) j, j < k → w.cell? ⟨b, off + i * k + j, none⟩ = (enc xs[i])[j]?) → ∀ j u, (xs.flatMap enc)[j]? = some u → w.cell? ((⟨b, off, none⟩ : Addr).add j) = some u
 | [], _, _, j, u, hu => by simp at hu
 | x :: xs, off, h, j, u, hu => by
  rw [List.flatMap_cons] at hu
  by_cases hj : j < k
  ·rw [List.getElem?_append_left (by rw [hk]; exact hj)] at hu
   have h1 := h 0 (by simp) j hj
   rw [Nat.zero_mul, Nat.add_zero] at h1
   rw [Addr.add_lit]
   exact h1.trans hu
  ·rw [List.getElem?_append_right (by rw [hk]; omega), hk] at hu
   have h2 := flat_cells hk xs (off + k) (fun i hi j hj => by
    have h1 := h (i + 1) (by simpa using hi) j hj
    rw [show off + k + i * k + j = off + (i + 1) * k + j from by rw [Nat.succ_mul]; omega]
    exact h1) (j - k) u hu
   have e : (⟨b, off + k, none⟩ : Addr).add (j - k) = (⟨b, off, none⟩ : Addr).add j := by
    rw [Addr.add_lit, Addr.add_lit, show off + k + (j - k) = off + j from by omega]
   rw [← e]
   exact h2
theorem flatN_len : ∀ (f : List Nd), (f.flatMap encN).length = f.length * 4
 | [] => rfl
 | x :: f => by rw [List.flatMap_cons, List.length_append, flatN_len f, List.length_cons]; simp [encN]; omega
theorem flatN_one : ∀ (f : List Nd), ∀ u ∈ f.flatMap encN, u.oneCell' = true := fun f u hu => by
 obtain ⟨n, -, h⟩ := List.mem_flatMap.1 hu
 simp only [encN, List.mem_cons, List.not_mem_nil, or_false] at h
 rcases h with rfl | rfl | rfl | rfl <;> rfl
/-- A formula that lies in memory, as what an append takes. -/
theorem form_cells {lo : Nat} {w : World} {v : Value} {f : List Nd} (h : SliceK 4 encN lo w v f) (hp : f ≠ []) : ∃ b o c, v = .slice (some ⟨b, o, none⟩) f.length c ∧ lo ≤ b ∧ b < w.heap.size ∧ ∀ j u, (f.flatMap encN)[j]? = some u → w.cell? ((⟨b, o, none⟩ : Addr).add j) = some u := by
 obtain ⟨a, c, rfl, -, -, h0 | ⟨b, o, rfl, h1, h2, h3⟩⟩ := h
 ·exact absurd (List.length_eq_zero_iff.1 h0) hp
 ·exact ⟨b, o, c, rfl, h1, h2, flat_cells encN_len f o h3⟩

/-- Headers of rows that read as formulas. -/
def RowsR (w : World) (hs : List Value) (L : List (List Nd)) : Prop := hs.length = L.length ∧ ∀ (i : Nat) (h : i < hs.length) (h' : i < L.length), SliceK 4 encN 0 w hs[i] L[i]
theorem RowsR.nil (w : World) : RowsR w [] [] := ⟨rfl, fun _ h => absurd h (Nat.not_lt_zero _)⟩
theorem RowsR.snoc {w : World} {hs : List Value} {L : List (List Nd)} (h : RowsR w hs L) {v : Value} {f : List Nd} (hv : SliceK 4 encN 0 w v f) : RowsR w (hs ++ [v]) (L ++ [f]) := by
 refine ⟨by simp [h.1], fun i hi hi' => ?_⟩
 by_cases hlt : i < hs.length
 ·rw [List.getElem_append_left hlt]
  simp only [List.getElem_append_left (show i < L.length by have := h.1; omega)]
  exact h.2 i hlt _
 ·have e : i = hs.length := by simp at hi; omega
  subst e
  have e1 : (L ++ [f])[hs.length] = f := by simp [h.1]
  rw [e1]
  simpa using hv
/-- The table of the formulas, as far as pairs part in the first d rounds. -/
def TabR (w : World) (tv : Value) (S : Nat) (t : Lts) (d : Nat) : Prop :=
 ∃ (ta : Nat) (tc : Nat) (hs : List Value), tv = .slice (some ⟨ta, 0, none⟩) (S * S) tc ∧ ta < w.heap.size ∧ hs.length = S * S ∧ (∀ k (h : k < hs.length), w.cell? ⟨ta, k, none⟩ = some hs[k]) ∧
  ∀ (x y : Nat) (_ : x < S) (_ : y < S) (h : x * S + y < hs.length), 0 < sepR t x y → sepR t x y ≤ d → SliceK 4 encN 0 w hs[x * S + y] (tellT t x y)
theorem TabR.at {w : World} {ta SS tc S d : Nat} {t : Lts} (h : TabR w (.slice (some ⟨ta, 0, none⟩) SS tc) S t d) (hS : S ≤ 40) {x y : Int} (hx : 0 ≤ x ∧ x < S) (hy : 0 ≤ y ∧ y < S) (h0 : 0 < sepR t x y) (h1 : sepR t x y ≤ d) :
  ∃ (xn yn P : Nat) (v : Value), (xn : Int) = x ∧ (yn : Int) = y ∧ xn < S ∧ yn < S ∧ (xn : Int) * (S : Int) = (P : Int) ∧ P ≤ 1600 ∧ P + yn < SS ∧ ta < w.heap.size ∧ w.cell? ⟨ta, P + yn, none⟩ = some v ∧ SliceK 4 encN 0 w v (tellT t x y) := by
 obtain ⟨ta', tc', hs, he, hlt, hlen, hcell, hrow⟩ := h
 simp only [Value.slice.injEq, Option.some.injEq, Addr.mk.injEq, and_true] at he
 obtain ⟨rfl, rfl, rfl⟩ := he
 obtain ⟨xn, rfl⟩ : ∃ xn : Nat, (xn : Int) = x := ⟨x.toNat, by omega⟩
 obtain ⟨yn, rfl⟩ : ∃ yn : Nat, (yn : Int) = y := ⟨y.toNat, by omega⟩
 have hx2 : xn < S := by omega
 have hy2 : yn < S := by omega
 have hp := place_ltM hx2 hy2
 have hl : xn * S + yn < hs.length := by omega
 exact ⟨xn, yn, xn * S, hs[xn * S + yn], rfl, rfl, hx2, hy2, by simp, Nat.le_trans (Nat.mul_le_mul (show xn ≤ 40 by omega) hS) (by decide), hp, hlt, hcell _ hl, hrow xn yn hx2 hy2 hl h0 h1⟩
theorem sumN_le : ∀ {D : List (List Nd)}, (∀ f ∈ D, f.length ≤ 200) → sumN D ≤ 201 * D.length
 | [], _ => by simp [sumN]
 | f :: D, h => by
  have h1 := h f (List.mem_cons_self ..)
  have h2 := sumN_le (D := D) fun x hx => h x (List.mem_cons_of_mem _ hx)
  unfold sumN at *
  simp only [List.map_cons, List.sum_cons, List.length_cons]
  omega
/-- A source of cells, later. -/
theorem news_below {B b o : Nat} {w w' : World} {us : List Value} (hb : b < B) (h : ∀ j u, us[j]? = some u → w.cell? ((⟨b, o, none⟩ : Addr).add j) = some u) (hw : Below B w w') : ∀ j u, us[j]? = some u → w'.cell? ((⟨b, o, none⟩ : Addr).add j) = some u :=
 fun j u hu => by
  have h1 := h j u hu
  rw [Addr.add_lit] at h1 ⊢
  exact keeps hw hb h1
theorem Blk.keptM {w w' : World} {b : Nat} {cs : List Value} {t : TypeId} {row : Option Nat} (h : Blk w b cs t) (hg : w.grownBy w' row) (hne : row ≠ some b) : Blk w' b cs t := (hg.block b h.lt (fun e => hne e.symm)).trans h
theorem own_farM {w : World} {base e size n : Nat} {v : Value} {xs : List Value} (h : w.ownsRow base e size v n xs) {b : Nat} {cs : List Value} {t : TypeId} (hb : Blk w b cs t) (he : e ≠ t) : v.ownBlock ≠ some b := by
 rcases h.2 with ⟨rfl, -⟩ | ⟨g, c, u, rfl, -, hg, -⟩
 ·simp [Value.ownBlock]
 ·intro e1
  simp only [Value.ownBlock, Option.some.injEq] at e1
  subst e1
  unfold Blk at hb
  rw [hb] at hg
  simp only [Option.some.injEq, Obj.cells.injEq] at hg
  exact he hg.2.1.symm
theorem mem_takeM {D : List (List Nd)} {F : List Nd} {m : Nat} (h : m < D.length) : decide (F ∈ D.take (m + 1)) = (decide (F ∈ D.take m) || decide (D[m] = F)) := by
 rw [List.take_succ_eq_append_getElem h, Bool.eq_iff_iff, Bool.or_eq_true, decide_eq_true_iff, decide_eq_true_iff, decide_eq_true_iff, List.mem_append, List.mem_singleton]
 exact ⟨fun h => h.elim .inl fun e => .inr e.symm, fun h => h.elim .inl fun e => .inr e.symm⟩
/-- The formula up to part j. -/
def joinT (kind : Int) (D : List (List Nd)) (j : Nat) : List Nd := if j < D.length then joinP kind (D.take j) else joinD kind D
theorem joinT_zero {kind : Int} {D : List (List Nd)} (h : 0 < D.length) : joinT kind D 0 = [] := by
 unfold joinT
 rw [if_pos h, List.take_zero]
 rfl
theorem joinT_mid {kind : Int} {D : List (List Nd)} {j : Nat} (h : j + 1 < D.length) : joinT kind D (j + 1) = joinT kind D j ++ [⟨kind, ByteArray.empty⟩] ++ D[j] := by
 unfold joinT
 rw [if_pos h, if_pos (by omega), List.take_succ_eq_append_getElem (by omega), joinP_snoc, List.append_assoc]
 rfl
theorem joinT_last {kind : Int} {D : List (List Nd)} {j : Nat} (hj : j < D.length) (h : j + 1 = D.length) : joinT kind D (j + 1) = joinT kind D j ++ D[j] := by
 unfold joinT
 rw [if_neg (by omega), if_pos hj, ← joinD_snoc]
 congr 1
 rw [← List.take_succ_eq_append_getElem hj, List.take_of_length_le (by omega)]
theorem joinT_all {kind : Int} {D : List (List Nd)} : joinT kind D D.length = joinD kind D := by unfold joinT; rw [if_neg (by omega)]
theorem sumN_take (D : List (List Nd)) (j : Nat) : sumN (D.take j) ≤ sumN D := by
 have h : sumN D = sumN (D.take j) + sumN (D.drop j) := by
  unfold sumN
  rw [← List.sum_append, ← List.map_append, List.take_append_drop]
 omega
theorem joinT_len (kind : Int) (D : List (List Nd)) (j : Nat) : (joinT kind D j).length ≤ sumN D := by
 unfold joinT
 by_cases h : j < D.length
 ·rw [if_pos h, joinP_len]
  exact sumN_take D j
 ·rw [if_neg h]
  by_cases h0 : D = []
  ·subst h0; simp [joinD]
  ·have := joinD_len kind h0
   omega
theorem joinT_len2 {kind : Int} {D : List (List Nd)} {j : Nat} (h : j < D.length) : (joinT kind D j).length + D[j].length + 1 ≤ sumN D := by
 unfold joinT
 rw [if_pos h, joinP_len]
 have h1 := sumN_take D (j + 1)
 rw [List.take_succ_eq_append_getElem h, sumN_snoc] at h1
 omega
/-- A formula of the call's own. -/
def FormO (base : Nat) (w : World) (v : Value) (f : List Nd) : Prop := w.ownsRow base 55 4 v f.length (f.flatMap encN)
theorem FormO.at {base : Nat} {w : World} {v : Value} {f : List Nd} (h : FormO base w v f) : SliceK 4 encN base w v f := SliceK.of_owns (e := 55) encN_len rfl h

end Go.Proofs.YtjoacldbgnphkaaGreatDoor

namespace Go.Proofs.YtjoacldbgnphkaaGreatDoor
open Go Go.RowKit

theorem own_type_far {w : World} {base e size n b : Nat} {v : Value} {xs : List Value} (ho : w.ownsRow base e size v n xs) {a : Array Value} {t : TypeId} {fr : Nat × Nat} (hb : w.heap[b]? = some (.cells a t fr)) (he : e ≠ t) : v.ownBlock = none ∨ v.ownBlock ≠ some b := by
 rcases ho.2 with ⟨rfl, -⟩ | ⟨g, c, u, rfl, -, hg, -⟩
 ·exact .inl rfl
 ·refine .inr fun e2 => ?_
  simp only [Value.ownBlock, Option.some.injEq] at e2
  subst e2
  rw [hg] at hb
  simp only [Option.some.injEq, Obj.cells.injEq] at hb
  exact he hb.2.1
/-- Blocks of types other than these are as they were. -/
def Only (Ts : List TypeId) (w w' : World) : Prop := ∀ (b : Nat) (a : Array Value) (T : TypeId) (fr : Nat × Nat), w.heap[b]? = some (.cells a T fr) → T ∉ Ts → w'.heap[b]? = some (.cells a T fr)
theorem Only.refl (Ts : List TypeId) (w : World) : Only Ts w w := fun _ _ _ _ h _ => h
theorem Only.trans {Ts Us : List TypeId} {a b c : World} (h : Only Ts a b) (k : Only Us b c) : Only (Ts ++ Us) a c := fun x y T fr hx hT => by
 rw [List.mem_append] at hT
 exact k x y T fr (h x y T fr hx (fun e => hT (.inl e))) (fun e => hT (.inr e))
theorem Only.step {Ts : List TypeId} {a b c : World} (h : Only Ts a b) (k : Only Ts b c) : Only Ts a c := fun x y T fr hx hT => k x y T fr (h x y T fr hx hT) hT
theorem Only.below {w w' : World} (Ts : List TypeId) (hb : Below w.heap.size w w') : Only Ts w w' := fun b _ _ _ h _ => (hb.block b (Array.getElem?_eq_some_iff.1 h).1).trans h
theorem Only.grown {base e size n : Nat} {w w' : World} {v : Value} {xs : List Value} (ho : w.ownsRow base e size v n xs) (hg : w.grownBy w' v.ownBlock) : Only [e] w w' := fun b a T fr h hT => by
 refine (hg.block b (Array.getElem?_eq_some_iff.1 h).1 ?_).trans h
 intro e2
 rcases own_type_far ho h (fun e3 => hT (by rw [e3]; simp)) with h1 | h1
 ·rw [h1] at e2; cases e2
 ·exact h1 e2.symm
theorem Only.own {Ts : List TypeId} {w w' : World} (h : Only Ts w w') {base e size n : Nat} {v : Value} {xs : List Value} (ho : w.ownsRow base e size v n xs) (he : e ∉ Ts) : w'.ownsRow base e size v n xs := by
 refine ⟨ho.1, ?_⟩
 rcases ho.2 with hn | ⟨g, cap, cur, rfl, hb, hgg, rest⟩
 ·exact .inl hn
 ·exact .inr ⟨g, cap, cur, rfl, hb, h g _ _ _ hgg he, rest⟩
theorem Only.mono {Ts Us : List TypeId} {w w' : World} (h : Only Ts w w') (hs : ∀ T ∈ Ts, T ∈ Us) : Only Us w w' := fun b a T fr hb hT => h b a T fr hb (fun e => hT (hs T e))
end Go.Proofs.YtjoacldbgnphkaaGreatDoor

namespace Go.Proofs.YtjoacldbgnphkaaGreatDoor
open Go Go.RowKit

/-- A system of the call's own. -/
def OwnLts (lo : Nat) (w : World) (lv ev : Value) (t : Lts) : Prop := w.ownsRow lo 9 1 lv t.labels.length (t.labels.map .string) ∧ w.ownsRow lo 66 3 ev t.edges.length (t.edges.flatMap encE)
theorem OwnLts.below {lo : Nat} {w w' : World} {lv ev : Value} {t : Lts} (h : OwnLts lo w lv ev t) (hb : Below w.heap.size w w') : OwnLts lo w' lv ev t := ⟨owns_below h.1 hb, owns_below h.2 hb⟩
theorem OwnLts.lower {lo lo' : Nat} {w : World} {lv ev : Value} {t : Lts} (h : OwnLts lo w lv ev t) (hl : lo' ≤ lo) : OwnLts lo' w lv ev t := ⟨own_lower h.1 hl, own_lower h.2 hl⟩
theorem OwnLts.turns {base lo hi : Nat} {w w' : World} {lv ev : Value} {t : Lts} (h : OwnLts base w lv ev t) (ht : Turns lo hi w w') (hb : hi ≤ base) : OwnLts base w' lv ev t :=
 ⟨owns_turns h.1 ht (fun b e => .inr (Nat.le_trans hb (h.1.lt b e).1)), owns_turns h.2 ht (fun b e => .inr (Nat.le_trans hb (h.2.lt b e).1))⟩
theorem OwnLts.at {lo : Nat} {w : World} {lv ev : Value} {t : Lts} (h : OwnLts lo w lv ev t) : LtsAt lo w (.agg #[.int .i64 t.states, .int .i64 t.initial, lv, ev]) t :=
 ⟨lv, ev, rfl, SliceK.of_owns (e := 9) encS_len rfl (by rw [flat_encS]; exact h.1), SliceK.of_owns (e := 66) encE_len rfl h.2⟩

end Go.Proofs.YtjoacldbgnphkaaGreatDoor

namespace Go.Proofs.YtjoacldbgnphkaaGreatDoor
open Go Go.RowKit


def OwnF (lo : Nat) (w : World) (v : Value) (fs : List Nf) : Prop := w.ownsRow lo 55 4 v fs.length (fs.flatMap encF)
theorem OwnF.below {lo : Nat} {w w' : World} {v : Value} {fs : List Nf} (h : OwnF lo w v fs) (hb : Below w.heap.size w w') : OwnF lo w' v fs := owns_below h hb
theorem OwnF.turns {base lo hi : Nat} {w w' : World} {v : Value} {fs : List Nf} (h : OwnF base w v fs) (ht : Turns lo hi w w') (hb : hi ≤ base) : OwnF base w' v fs := owns_turns h ht (fun b e => .inr (Nat.le_trans hb (World.ownsRow.lt h b e).1))
theorem FormO.below {lo : Nat} {w w' : World} {v : Value} {f : List Nd} (h : FormO lo w v f) (hb : Below w.heap.size w w') : FormO lo w' v f := owns_below h hb
theorem FormO.lower {lo lo' : Nat} {w : World} {v : Value} {f : List Nd} (h : FormO lo w v f) (hl : lo' ≤ lo) : FormO lo' w v f := own_lower h hl
theorem FormO.turns {base lo hi : Nat} {w w' : World} {v : Value} {f : List Nd} (h : FormO base w v f) (ht : Turns lo hi w w') (hb : hi ≤ base) : FormO base w' v f := owns_turns h ht (fun b e => .inr (Nat.le_trans hb (World.ownsRow.lt h b e).1))
theorem FormO.slice {base : Nat} {w : World} {v : Value} {f : List Nd} (h : FormO base w v f) : ∃ a c, v = .slice a f.length c := by
 obtain ⟨a, c, e, -, -⟩ := owns_slice h
 exact ⟨a, c, e⟩

set_option maxRecDepth 100000 in
set_option maxHeartbeats 1000000 in
theorem markNodeS_is (lo : Nat) (v : Value) (n : Nat) (cs : List Value) (k : Int) (w : World) (h1 : 0 ≤ k) (h2 : k + 4 * n ≤ 1000000000) (hv : w.ownsRow lo 55 4 v n cs) :
  Calls Tryz.prog 12 #[v, .int .i64 k] w (Marked w v (k + 4 * n) (fun w' => w'.ownsRow lo 55 4 v n ((mrkN k n).flatMap encF))) := by
 have HV := Lib.hid hv
 have hcl := hv.1
 rcases hv.2 with ⟨rfl, rfl⟩ | ⟨b, cap, cur, rfl, -, -, hcap, hm, -⟩
 ·clear hv
  have hcs : cs = [] := List.eq_nil_of_length_eq_zero (by omega)
  subst hcs
  go_enter Tryz.func12, Tryz.ntmps12
  go_wp2
  go_loop [1, 5] (fun q i => q = .int .i64 k ∧ i = .int .i64 0) (fun _ _ => 0)
  case atStart => exact ⟨rfl, rfl⟩
  case round =>
   obtain ⟨rfl, rfl⟩ := hrel
   go_wp2
   go_ret
   exact ⟨ret_int (by simp), grown_refl _ _, HV.out⟩
 ·clear hv
  have HCL := Lib.hid hcl
  clear hcl
  go_enter Tryz.func12, Tryz.ntmps12
  go_wp2
  go_loopw [1, 5] (fun q i wr => ∃ j : Nat, j ≤ n ∧ q = .int .i64 (k + 4 * j) ∧ i = .int .i64 j ∧ w.grownBy wr (some b) ∧ wr.ownsRow lo 55 4 (.slice (some ⟨b, 0, none⟩) n cap) n (markedN k cs j)) (fun _ i _ => n - (intOf i).toNat)
  case atStart => exact ⟨0, Nat.zero_le _, by simp, rfl, grown_refl _ _, by rw [markedN_zero]; exact HV.out⟩
  case round =>
   obtain ⟨j, hj, rfl, rfl, hg, ho⟩ := hrel
   have HG := Lib.hid hg
   clear hg HV
   by_cases hlt : j < n
   ·obtain ⟨xc0, c0⟩ := own_cell ho (j * 4) (by omega)
    have s0 := ho.stored (j * 4) (.int .i64 (k + 4 * j))
    obtain ⟨xc1, c1⟩ := own_cell ho (j * 4 + 1) (by omega)
    have s1 := s0.1.stored (j * 4 + 1) (.int .i64 (k + 4 * j + 1))
    have f0 := ho.frozenAt (j * 4)
    have f1 := ho.frozenAt (j * 4 + 1)
    have HS1 := Lib.hid s1.1
    have HG1 := Lib.hid (grown_trans (grown_trans HG.out s0.2) s1.2)
    clear ho s0 s1
    go_wp2_with fail
    refine (markText_is _ _ (by omega) (by omega)).mono ?_
    rintro e w1 ⟨rfl, hb⟩
    clear c0 c1 f0 f1
    have ho1 := owns_below HS1.out hb
    obtain ⟨xc2, c2⟩ := own_cell ho1 (j * 4 + 2) (by omega)
    obtain ⟨xc3, c3⟩ := own_cell ho1 (j * 4 + 3) (by omega)
    have f2 := ho1.frozenAt (j * 4 + 2)
    have f3 := ho1.frozenAt (j * 4 + 3)
    have s2 := ho1.stored (j * 4 + 2) (.string (mtxt (k + 4 * j + 1 + 1)))
    have s3 := s2.1.stored (j * 4 + 3) (.bool ((k + 4 * j + 1 + 1 + 1).tmod 3 == 0))
    rw [markedN_set k cs j (by have := HCL.out; omega), Int.tmod_eq_emod_of_nonneg (by omega)] at s3
    have HO := Lib.hid s3.1
    have HGG := Lib.hid (grown_trans (grown_trans (grown_trans HG1.out (grown_below hb (some b))) s2.2) s3.2)
    clear ho1 s2 s3 hb
    go_wp2
    go_roundw
    case rel => exact ⟨j + 1, by omega, by go_num, by go_num, HGG.out, HO.out⟩
    case measure => simp [intOf]; omega
   ·go_wp2
    go_ret
    obtain rfl : j = n := by omega
    refine ⟨rfl, HG.out, ?_⟩
    rw [markedN_all k cs j HCL.out] at ho
    exact ho

set_option maxRecDepth 100000 in
set_option maxHeartbeats 1000000 in
theorem heldNodeS_is (v : Value) (lo n : Nat) (k : Int) (w : World) (h1 : 0 ≤ k) (h2 : k + 4 * n ≤ 1000000000) (hv : SliceK 4 encF lo w v (mrkN k n)) :
  Calls Tryz.prog 13 #[v, .int .i64 k] w fun e w' => e = .returned (.int .i64 (k + 4 * n)) ∧ Below w.heap.size w w' := by
 obtain ⟨a, cap, rfl, hn, hcap, hr⟩ := hv
 have hl := mrkN_len k n
 rw [hl] at hn ⊢
 have HL := Lib.hid hl
 have HR := Lib.hid hr
 clear hl hr
 go_enter Tryz.func13, Tryz.ntmps13
 go_wp2
 go_loopw [1, 5] (fun q i wr => ∃ j : Nat, j ≤ n ∧ q = .int .i64 (k + 4 * j) ∧ i = .int .i64 j ∧ Below w.heap.size w wr) (fun _ i _ => n - (intOf i).toNat)
 case atStart => exact ⟨0, Nat.zero_le _, by simp, rfl, Below.refl _ _⟩
 case round =>
  obtain ⟨j, hj, rfl, rfl, hb⟩ := hrel
  have HB := Lib.hid hb
  by_cases hlt : j < n
  ·obtain ⟨b, off, rfl, -, hbl, c0, c1, c2, c3⟩ := (HR.out.below hb).node (i := j) (by rw [HL.out]; exact hlt)
   simp only [encF, List.getElem?_cons_zero, List.getElem?_cons_succ, mrkN, List.getElem_map, List.getElem_range] at c0 c1 c2 c3
   rw [Int.tmod_eq_emod_of_nonneg (by omega)] at c3
   have l2 := later_cell hbl c2
   have HM := Lib.hid (fun w' => markText_is (k + 4 * j + 1 + 1) w' (by omega) (by omega))
   clear hb
   go_wp2
   refine wp_region_later (by kernel_rfl) (by kernel_rfl) ?_
   repeat (go_big_quiet_step (((go_at_call 32; refine later_call (HM.out _)))))
   refine wpQuiet_nil ?_
   intro _ hw9
   obtain ⟨nl, hw8⟩ := hw9
   subst hw8
   have HB2 := Lib.hid (HB.out.trans (nl.h.mono HB.out.size))
   have c3' := keeps nl.h hbl c3
   clear l2 c0 c1 c2 c3
   go_wp2
   go_roundw
   case rel => exact ⟨j + 1, by omega, by go_num, by go_num, HB2.out⟩
   case measure => simp [intOf]; omega
  ·clear hb
   go_wp2
   go_ret
   obtain rfl : j = n := by omega
   exact ⟨rfl, HB.out⟩

theorem markForm_is (lo : Nat) (v : Value) (f : List Nd) (k : Int) (w : World) (h1 : 0 ≤ k) (h2 : k + 4 * (f.length : Int) ≤ 1000000000) (hlo : lo ≤ w.heap.size) (hv : FormO lo w v f) :
  Calls Tryz.prog 12 #[v, .int .i64 k] w fun e w' => e = .returned (.int .i64 (k + 4 * (f.length : Int))) ∧ Below lo w w' ∧ OwnF lo w' v (mrkN k f.length) ∧ Only [55] w w' := by
 refine (markNodeS_is lo v f.length _ k w h1 h2 hv).mono ?_
 rintro e w' ⟨rfl, hg, ho⟩
 refine ⟨rfl, below_grown hg hlo (fun b e => (World.ownsRow.lt hv b e).1), ?_, Only.grown hv hg⟩
 unfold OwnF
 rw [mrkN_len]
 exact ho
theorem OwnF.at {lo : Nat} {w : World} {v : Value} {fs : List Nf} (h : OwnF lo w v fs) : SliceK 4 encF lo w v fs := SliceK.of_owns (e := 55) encF_len rfl h
theorem heldForm_is (lo : Nat) (v : Value) (f : List Nd) (k : Int) (w : World) (h1 : 0 ≤ k) (h2 : k + 4 * (f.length : Int) ≤ 1000000000) (hv : OwnF lo w v (mrkN k f.length)) :
  Calls Tryz.prog 13 #[v, .int .i64 k] w fun e w' => e = .returned (.int .i64 (k + 4 * (f.length : Int))) ∧ Below w.heap.size w w' :=
 heldNodeS_is v lo f.length k w h1 h2 hv.at

end Go.Proofs.YtjoacldbgnphkaaGreatDoor

namespace Go.Proofs.YtjoacldbgnphkaaGreatDoor
open Go Go.RowKit

def OwnRows (eo ei lo : Nat) (w : World) (v : Value) (vs : List Value) (xss : List (List Value)) : Prop :=
 vs.length = xss.length ∧ w.ownsRow lo eo 1 v vs.length vs ∧ (∀ (i : Nat) (h : i < vs.length) (h' : i < xss.length), w.ownsRow lo ei 1 vs[i] xss[i].length xss[i])
  ∧ (∀ (i j : Nat) (h : i < vs.length) (h' : j < vs.length), i ≠ j → vs[i].ownBlock = none ∨ vs[i].ownBlock ≠ vs[j].ownBlock)

theorem OwnRows.nil (eo ei lo : Nat) (w : World) : OwnRows eo ei lo w (.slice none 0 0) [] [] := ⟨rfl, World.ownsRow_nil w lo eo 1, fun i h => by simp at h, fun i j h => by simp at h⟩

theorem OwnRows.below {eo ei lo : Nat} {w w' : World} {v : Value} {vs : List Value} {xss : List (List Value)} (h : OwnRows eo ei lo w v vs xss) (hb : Below w.heap.size w w') : OwnRows eo ei lo w' v vs xss := by
 obtain ⟨h1, h2, h3, h4⟩ := h
 exact ⟨h1, owns_below h2 hb, fun i hi hi' => owns_below (h3 i hi hi') hb, h4⟩

/-- A block elsewhere is written. -/
theorem OwnRows.kept {eo ei lo : Nat} {w w' : World} {v : Value} {vs : List Value} {xss : List (List Value)} {row : Option Nat} (h : OwnRows eo ei lo w v vs xss) (hg : w.grownBy w' row) (h0 : v.ownBlock = none ∨ v.ownBlock ≠ row)
  (hr : ∀ (i : Nat) (h : i < vs.length), vs[i].ownBlock = none ∨ vs[i].ownBlock ≠ row) : OwnRows eo ei lo w' v vs xss := by
 obtain ⟨h1, h2, h3, h4⟩ := h
 exact ⟨h1, h2.kept hg h0, fun i hi hi' => (h3 i hi hi').kept hg (hr i hi), h4⟩

/-- The rows lie in blocks of another type than t. -/
theorem own_type_ne {w : World} {base e size n : Nat} {v : Value} {xs : List Value} (h : w.ownsRow base e size v n xs) {b : Nat} {cs : Array Value} {t : TypeId} {f : Nat × Nat} (hb : w.heap[b]? = some (.cells cs t f)) (he : e ≠ t) : v.ownBlock = none ∨ v.ownBlock ≠ some b := by
 rcases h.2 with ⟨rfl, -⟩ | ⟨g, c, u, rfl, -, hg, -⟩
 ·exact .inl rfl
 ·refine .inr fun e1 => ?_
  simp only [Value.ownBlock, Option.some.injEq] at e1
  subst e1
  rw [hb] at hg
  simp only [Option.some.injEq, Obj.cells.injEq] at hg
  exact he hg.2.1.symm
theorem own_map_ne {w : World} {base e size n : Nat} {v : Value} {xs : List Value} (h : w.ownsRow base e size v n xs) {b : Nat} {es : Array MapEntry} {c : Nat} (hb : w.heap[b]? = some (.map es c)) : v.ownBlock = none ∨ v.ownBlock ≠ some b := by
 rcases h.2 with ⟨rfl, -⟩ | ⟨g, c, u, rfl, -, hg, -⟩
 ·exact .inl rfl
 ·refine .inr fun e1 => ?_
  simp only [Value.ownBlock, Option.some.injEq] at e1
  subst e1
  rw [hb] at hg
  cases hg

/-- An empty row more. -/
theorem OwnRows.push {eo ei lo : Nat} {w w' : World} {v v' : Value} {vs : List Value} {xss : List (List Value)} (he : eo ≠ ei) (h : OwnRows eo ei lo w v vs xss)
  (hg : w.grownBy w' v.ownBlock) (hv : w'.ownsRow lo eo 1 v' (vs.length + 1) (vs ++ [.slice none 0 0])) : OwnRows eo ei lo w' v' (vs ++ [.slice none 0 0]) (xss ++ [[]]) := by
 obtain ⟨h1, h2, h3, h4⟩ := h
 refine ⟨by simp [h1], by simpa using hv, fun i hi hi' => ?_, fun i j hi hj hij => ?_⟩
 ·by_cases hlt : i < vs.length
  ·rw [List.getElem_append_left hlt]
   simp only [List.getElem_append_left (show i < xss.length by omega)]
   exact (h3 i hlt (by omega)).kept hg (own_types (h3 i hlt (by omega)) h2 (fun e => he e.symm))
  ·have e : i = vs.length := by simp at hi; omega
   subst e
   simp only [List.getElem_concat_length]
   have : (xss ++ [[]])[vs.length] = [] := by simp [h1]
   rw [this]
   exact World.ownsRow_nil w' lo ei 1
 ·by_cases h1' : i < vs.length
  ·by_cases h2' : j < vs.length
   ·rw [List.getElem_append_left h1', List.getElem_append_left h2']
    exact h4 i j h1' h2' hij
   ·have e : j = vs.length := by simp at hj; omega
    subst e
    rw [List.getElem_append_left h1', List.getElem_concat_length rfl]
    cases hb1 : vs[i].ownBlock with
    | none => exact .inl rfl
    | some b => exact .inr (by simp [Value.ownBlock])
  ·have e : i = vs.length := by simp at hi; omega
   subst e
   rw [List.getElem_concat_length rfl]
   exact .inl rfl

/-- A row grows: its new value is written to its place. -/
theorem OwnRows.grow {eo ei lo : Nat} {w w1 w2 : World} {v v' : Value} {vs : List Value} {xss : List (List Value)} {ys : List Value} (he : eo ≠ ei) (h : OwnRows eo ei lo w v vs xss) (j : Nat) (hj : j < vs.length)
  (hg : w.grownBy w1 vs[j].ownBlock) (ho : w1.ownsRow lo ei 1 v' ys.length ys) (hb : ∀ b, v'.ownBlock = some b → vs[j].ownBlock = some b ∨ w.heap.size ≤ b)
  (hg2 : w1.grownBy w2 v.ownBlock) (hv : w2.ownsRow lo eo 1 v vs.length (vs.set j v')) : OwnRows eo ei lo w2 v (vs.set j v') (xss.set j ys) := by
 obtain ⟨h1, h2, h3, h4⟩ := h
 have h2' : w1.ownsRow lo eo 1 v vs.length vs := h2.kept hg (own_types h2 (h3 j hj (by omega)) he)
 have hnew : w2.ownsRow lo ei 1 v' ys.length ys := ho.kept hg2 (own_types ho h2' (fun e => he e.symm))
 have hne : ∀ (i : Nat) (hi : i < vs.length), i ≠ j → vs[i].ownBlock = none ∨ vs[i].ownBlock ≠ v'.ownBlock := by
  intro i hi hij
  cases hb1 : vs[i].ownBlock with
  | none => exact .inl rfl
  | some b =>
   refine .inr fun e => ?_
   rcases hb b e.symm with h | h
   ·rcases h4 i j hi hj hij with k | k
    ·rw [hb1] at k; cases k
    ·exact k (hb1.trans h.symm)
   ·have := ((h3 i hi (by omega)).lt b hb1).2
    omega
 refine ⟨by simpa using h1, by simpa using hv, fun i hi hi' => ?_, fun i k hi hk hik => ?_⟩
 ·by_cases hij : j = i
  ·subst hij
   simpa using hnew
  ·rw [List.getElem_set_ne hij, List.getElem_set_ne hij]
   simp only [List.length_set] at hi hi'
   have k1 := (h3 i hi hi').kept hg (h4 i j hi hj (fun e => hij e.symm))
   exact k1.kept hg2 (own_types k1 h2' (fun e => he e.symm))
 ·simp only [List.length_set] at hi hk
  by_cases e1 : j = i
  ·subst e1
   rw [List.getElem_set_self, List.getElem_set_ne hik]
   rcases hne k hk (fun e => hik e.symm) with h | h
   ·cases hb2 : v'.ownBlock with
    | none => exact .inl rfl
    | some b => exact .inr (by rw [h]; simp)
   ·exact .inr (fun e => h e.symm)
  ·by_cases e2 : j = k
   ·subst e2
    rw [List.getElem_set_self, List.getElem_set_ne e1]
    exact hne i hi hik
   ·rw [List.getElem_set_ne e1, List.getElem_set_ne e2]
    exact h4 i k hi hk hik

end Go.Proofs.YtjoacldbgnphkaaGreatDoor

namespace Go.Proofs.YtjoacldbgnphkaaGreatDoor
open Go Go.RowKit


/-- The pairs whose formulas stand in the table: those that part earlier, and those of this round that were placed before. -/
def Placed (t : Lts) (k a b x y : Nat) : Prop := 0 < sepR t x y ∧ (sepR t x y < k ∨ (sepR t x y = k ∧ (x < a ∨ (x = a ∧ y < b))))
structure TabO (B : Nat) (w : World) (ta S N : Nat) (t : Lts) (k a b : Nat) (hs : List Value) : Prop where
 sq : N = S * S
 own : w.ownsRow B 27 1 (.slice (some ⟨ta, 0, none⟩) N N) N hs
 row : ∀ x y, x < S → y < S → ∀ h : x * S + y < hs.length, Placed t k a b x y → SliceK 4 encN (ta + 1) w hs[x * S + y] (tellT t x y)
variable {B ta S N : Nat} {t : Lts} {k a b : Nat} {hs : List Value} {w w' : World}
theorem TabO.len (h : TabO B w ta S N t k a b hs) : hs.length = N := by have := h.own.1; omega
theorem TabO.below (h : TabO B w ta S N t k a b hs) (hb : Below w.heap.size w w') : TabO B w' ta S N t k a b hs := ⟨h.sq, owns_below h.own hb, fun x y hx hy hl hp => (h.row x y hx hy hl hp).below hb⟩
theorem TabO.weak {k' a' b' : Nat} (h : TabO B w ta S N t k a b hs) (hi : ∀ x y, x < S → y < S → Placed t k' a' b' x y → Placed t k a b x y) : TabO B w ta S N t k' a' b' hs := ⟨h.sq, h.own, fun x y hx hy hl hp => h.row x y hx hy hl (hi x y hx hy hp)⟩
theorem TabO.skip (h : TabO B w ta S N t k a b hs) (hn : sepR t a b ≠ k) : TabO B w ta S N t k a (b + 1) hs := h.weak fun x y _ _ hp => ⟨hp.1, hp.2.elim .inl fun h2 => by
 rcases h2 with ⟨e, h3 | ⟨rfl, h3⟩⟩
 ·exact .inr ⟨e, .inl h3⟩
 ·by_cases hy : y = b
  ·subst hy; exact absurd e hn
  ·exact .inr ⟨e, .inr ⟨rfl, by omega⟩⟩⟩
theorem TabO.nextA (h : TabO B w ta S N t k a S hs) : TabO B w ta S N t k (a + 1) 0 hs := h.weak fun x y _ hy hp => ⟨hp.1, hp.2.elim .inl fun h2 => .inr ⟨h2.1, by
 rcases h2.2 with h3 | h3
 ·by_cases hx : x = a
  ·exact .inr ⟨hx, hy⟩
  ·exact .inl (by omega)
 ·omega⟩⟩
theorem TabO.nextK (h : TabO B w ta S N t k S 0 hs) : TabO B w ta S N t (k + 1) 0 0 hs := h.weak fun x y hx _ hp => ⟨hp.1, by
 rcases hp.2 with h2 | h2
 ·by_cases e : sepR t x y = k
  ·exact .inr ⟨e, .inl hx⟩
  ·exact .inl (by omega)
 ·have := h2.2; omega⟩
theorem TabO.start {B : Nat} {w : World} {ta S N : Nat} {t : Lts} (hN : N = S * S) (h : w.ownsRow B 27 1 (.slice (some ⟨ta, 0, none⟩) N N) N (List.replicate N (.slice none 0 0))) : TabO B w ta S N t 1 0 0 (List.replicate N (.slice none 0 0)) :=
 ⟨hN, h, fun x y _ _ _ hp => by have := hp.1; have := hp.2; omega⟩
theorem TabO.put (h : TabO B w ta S N t k a b hs) (hb : Below w.heap.size w w') (haS : a < S) (hbS : b < S) {v : Value} (hv : SliceK 4 encN (ta + 1) w' v (tellT t a b)) {i : Nat} (hi : i = a * S + b) :
  TabO B (w'.setCell ⟨ta, i, none⟩ v) ta S N t k a (b + 1) (hs.set i v) := by
 subst hi
 have hp := place_ltM haS hbS
 have hl := h.len
 have hq := h.sq
 have h1 := (owns_below h.own hb).stored (a * S + b) v
 refine ⟨h.sq, h1.1, fun x y hx hy hl2 hp2 => ?_⟩
 have hne : ∀ k, some ta = some k → k < ta + 1 := fun k e => by cases e; omega
 by_cases he : a * S + b = x * S + y
 ·obtain ⟨rfl, rfl⟩ := place_inj hbS hy he
  rw [List.getElem_set_self]
  exact hv.grown h1.2 hne
 ·rw [List.getElem_set_ne he]
  have hl3 : x * S + y < hs.length := by simpa using hl2
  refine ((h.row x y hx hy hl3 ⟨hp2.1, hp2.2.elim .inl fun h2 => .inr ⟨h2.1, ?_⟩⟩).below hb).grown h1.2 hne
  rcases h2.2 with h3 | ⟨rfl, h3⟩
  ·exact .inl h3
  ·refine .inr ⟨rfl, ?_⟩
   have : y ≠ b := fun e => he (by rw [e])
   omega
theorem TabO.cell (h : TabO B w ta S N t k a b hs) {i : Nat} (hi : i < hs.length) : w.cell? ⟨ta, i, none⟩ = some hs[i] := by
 have h1 := h.own.cellAt i (by have := h.len; omega)
 rw [h1, List.getElem?_eq_getElem hi]
theorem TabO.tab (h : TabO B w ta S N t (k + 1) a b hs) (hlt : ta < w.heap.size) : TabR w (.slice (some ⟨ta, 0, none⟩) N N) S t k := by
 obtain rfl := h.sq
 exact ⟨ta, S * S, hs, rfl, hlt, h.len, fun i hi => h.cell hi, fun x y hx hy hl h0 h1 => (h.row x y hx hy hl ⟨h0, .inl (by omega)⟩).mono (Nat.zero_le _)⟩

/-- Of what DistinguishingFormula returns. -/
def DfIs (t : Lts) (a b : Int) (f : List Nd) (code : Int) : Prop :=
 (¬ Valid t ∧ f = [] ∧ code = 1) ∨ (Valid t ∧ ¬ ((0 ≤ a ∧ a < t.states) ∧ (0 ≤ b ∧ b < t.states)) ∧ f = [] ∧ code = 2) ∨
 (Valid t ∧ ((0 ≤ a ∧ a < t.states) ∧ (0 ≤ b ∧ b < t.states)) ∧ ((sepR t a b = 0 ∧ f = [] ∧ code = 3) ∨ (0 < sepR t a b ∧ tellT t a b = [] ∧ f = [] ∧ code = 5) ∨ (0 < sepR t a b ∧ tellT t a b ≠ [] ∧ f = tellT t a b ∧ code = 0)))
theorem DfIs.unique {t : Lts} {a b : Int} {f f' : List Nd} {code code' : Int} (h : DfIs t a b f code) (h' : DfIs t a b f' code') : f = f' ∧ code = code' := by
 rcases h with ⟨h1, rfl, rfl⟩ | ⟨h1, h2, rfl, rfl⟩ | ⟨h1, h2, h3⟩
 ·rcases h' with ⟨k1, rfl, rfl⟩ | ⟨k1, -⟩ | ⟨k1, -⟩
  ·exact ⟨rfl, rfl⟩
  ·exact absurd k1 h1
  ·exact absurd k1 h1
 ·rcases h' with ⟨k1, -⟩ | ⟨k1, k2, rfl, rfl⟩ | ⟨k1, k2, -⟩
  ·exact absurd h1 k1
  ·exact ⟨rfl, rfl⟩
  ·exact absurd k2 h2
 ·rcases h' with ⟨k1, -⟩ | ⟨k1, k2, -⟩ | ⟨k1, k2, k3⟩
  ·exact absurd h1 k1
  ·exact absurd h2 k2
  ·rcases h3 with ⟨e1, rfl, rfl⟩ | ⟨e1, e2, rfl, rfl⟩ | ⟨e1, e2, rfl, rfl⟩
   ·rcases k3 with ⟨g1, rfl, rfl⟩ | ⟨g1, -⟩ | ⟨g1, -⟩
    ·exact ⟨rfl, rfl⟩
    ·omega
    ·omega
   ·rcases k3 with ⟨g1, -⟩ | ⟨g1, g2, rfl, rfl⟩ | ⟨g1, g2, -⟩
    ·omega
    ·exact ⟨rfl, rfl⟩
    ·exact absurd e2 g2
   ·rcases k3 with ⟨g1, -⟩ | ⟨g1, g2, -⟩ | ⟨g1, g2, rfl, rfl⟩
    ·omega
    ·exact absurd g2 e2
    ·exact ⟨rfl, rfl⟩
theorem DfIs.few {t : Lts} {a b : Int} {f : List Nd} {code : Int} (h : DfIs t a b f code) : f.length ≤ 200 := by
 rcases h with ⟨-, rfl, -⟩ | ⟨-, -, rfl, -⟩ | ⟨-, -, ⟨-, rfl, -⟩ | ⟨-, -, rfl, -⟩ | ⟨-, -, rfl, -⟩⟩
 ·simp
 ·simp
 ·simp
 ·simp
 ·exact tellT_short t a b
def RetDf (t : Lts) (a b : Int) (w : World) (e : Ending) (w' : World) : Prop :=
 Below w.heap.size w w' ∧ ∃ (f : List Nd) (code : Int) (v : Value), e = .returned (.tuple #[v, .int .i64 code]) ∧ DfIs t a b f code ∧ FormO w.heap.size w' v f
theorem df_none {t : Lts} {a b : Int} {code : Int} {w w' : World} (hb : Below w.heap.size w w') (h : DfIs t a b [] code) : RetDf t a b w (.returned (.tuple #[.slice none 0 0, .int .i64 code])) w' :=
 ⟨hb, [], code, _, rfl, h, World.ownsRow_nil _ _ _ _⟩

end Go.Proofs.YtjoacldbgnphkaaGreatDoor
