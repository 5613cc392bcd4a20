/-
  The program's below and littleBrothers, with the closures.
  The library's slices.Equal at edges.
  The library's slices.Compact at edges; the program's tidy: sorted edges, each once.
  The program's tidy: edges sorted, equal ones made one.
  The library's slices.Max at numbers; the program's blockCount.
-/
import Derived.Test.YtdkbbknhighebaaGreatDoorL11
import Derived.Test.YtdkbbknhighebaaGreatDoorL9
import Derived.Test.YtdkbbknhighebaaGreatDoorL4
import Derived.Test.YtdkbbknhighebaaGreatDoorL5
import Derived.Test.YtdkbbknhighebaaGreatDoorProg
import Derived.Test.YtdkbbknhighebaaGreatDoorL1
namespace Go.Proofs.YtdkbbknhighebaaGreatDoor
open Go Go.RowKit


theorem box_belowL (w : World) (a : Array Value) (T : TypeId) : Below w.heap.size w (w.alloc (.cells a T)) := (Below.refl _ _).alloc (Nat.le_refl _) _

set_option maxRecDepth 100000 in
set_option maxHeartbeats 1000000 in
theorem below_any (lo : Nat) (t : Lts) (lv ev : Value) (w : World) (hv : Valid t) (hl : SliceK 1 encS lo w lv t.labels) (he : SliceK 3 encE lo w ev t.edges) :
  Calls Tryz.prog 44 #[.agg #[.int .i64 t.states, .int .i64 t.initial, lv, ev]] w fun e w' => ∃ (mb : Nat) (ps : List (Int × Int)), e = .returned (.map (some mb)) ∧ Below w.heap.size w w' ∧ PairMap w' mb ps ∧ Great t t (allG t t) (setOf ps) := by
 obtain ⟨tb, htb⟩ : ∃ tb, tb = w.heap.size := ⟨_, rfl⟩
 obtain ⟨W, hW⟩ : ∃ W, W = w.alloc (.cells #[.int .i64 t.states, .int .i64 t.initial, lv, ev] 27) := ⟨_, rfl⟩
 have hb : Below w.heap.size w W := by rw [hW]; exact box_belowL _ _ _
 have hT : Blk W tb [.int .i64 t.states, .int .i64 t.initial, lv, ev] 27 := by rw [hW, htb]; exact Blk.new w _ _
 have h0 := hv.st0
 have HSI := Lib.hid (simulation_any lo t.states.toNat t.states.toNat 0 (ansG t t) t t lv ev lv ev W (by decide) (ansG_monoA t t) hv hv (by omega) (by omega) (hl.below hb) (he.below hb) (hl.below hb) (he.below hb) (fun caps N w' hw' hH x y _ =>
  simulated_plain lo 72 caps N t t lv ev lv ev x y w' hv hv ((hl.below hb).below hw') ((he.below hb).below hw') ((hl.below hb).below hw') ((he.below hb).below hw') (fun args w => by kernel_rfl) hH))
 have HB := Lib.hid hb
 have HW := Lib.hid hW
 have HTB := Lib.hid htb
 have hsW : w.heap.size ≤ W.heap.size := hb.size
 have t0 := hT.cell 0 rfl
 have t1 := hT.cell 1 rfl
 have t2 := hT.cell 2 rfl
 have t3 := hT.cell 3 rfl
 rw [hW, htb] at t0 t1 t2 t3
 clear hv hl he h0 hb hW htb hT
 go_enter Tryz.func44, Tryz.ntmps44
 go_wp2_with fail
 rw [← HW.out]
 try rw [← HTB.out]
 refine Calls.mono HSI.out ?_
 rintro e w1 ⟨mb, ps, m, rfl, hb1, hm, hg, -⟩
 have HB1 := Lib.hid (HB.out.trans (hb1.mono hsW))
 have HM := Lib.hid hm
 have HG := Lib.hid hg.great
 clear hb1 hm hg t0 t1 t2 t3 HSI
 go_wp2
 go_ret
 exact ⟨mb, ps, rfl, HB1.out, HM.out, HG.out⟩

set_option maxRecDepth 100000 in
set_option maxHeartbeats 1000000 in
theorem lb11_any (eb nb mb : Nat) (ps : List (Int × Int)) (es el ed os ol od : Int) (w : World) (he : Blk w eb [.int .i64 es, .int .i64 el, .int .i64 ed] 47) (hn : Blk w nb [.map (some mb)] 73) (hp : PairMap w mb ps) (h1 : Small2 (ed, od)) :
  Calls Tryz.prog 52 #[.agg #[.int .i64 os, .int .i64 ol, .int .i64 od], .pointer (some ⟨eb, 0, none⟩), .pointer (some ⟨nb, 0, none⟩)] w fun e w' => e = .returned (.bool (os == es && ol == el && setOf ps ed od && !(setOf ps od ed))) ∧ Below w.heap.size w w' := by
 have hb := box_belowL w #[.int .i64 os, .int .i64 ol, .int .i64 od] 47
 have HB := Lib.hid hb
 have l1 := (hp.below hb).lookLit h1
 have l2 := (hp.below hb).lookLit (x := od) (y := ed) ⟨h1.2, h1.1⟩
 have e0 := he.cell 0 rfl
 have e1 := he.cell 1 rfl
 have e2 := he.cell 2 rfl
 have n0 := hn.cell 0 rfl
 have hel := he.lt
 have hnl := hn.lt
 have HS1 : Hid (setOf ps ed od = decide ((ed, od) ∈ ps)) := rfl
 have HS2 : Hid (setOf ps od ed = decide ((od, ed) ∈ ps)) := rfl
 obtain ⟨c1, hc1⟩ : ∃ c, c = decide ((ed, od) ∈ ps) := ⟨_, rfl⟩
 obtain ⟨c2, hc2⟩ : ∃ c, c = decide ((od, ed) ∈ ps) := ⟨_, rfl⟩
 rw [← hc1] at l1 HS1
 rw [← hc2] at l2 HS2
 obtain ⟨R, hR⟩ : ∃ R, R = (os == es && ol == el && setOf ps ed od && !(setOf ps od ed)) := ⟨_, rfl⟩
 rw [← hR]
 have HR : Hid (R = (os == es && ol == el && c1 && !c2)) := by unfold Hid; rw [hR, HS1.out, HS2.out]
 clear he hn hp h1 hb HS1 HS2 hc1 hc2 hR
 go_enter Tryz.func52, Tryz.ntmps52
 cases g1 : (os == es)
 ·have HQ : Hid (R = false) := by rw [HR.out, g1]; rfl
  go_wp2
  go_ret
  exact ⟨ret_bool HQ.out.symm, HB.out⟩
 ·cases g2 : (ol == el)
  ·have HQ : Hid (R = false) := by rw [HR.out, g1, g2]; rfl
   go_wp2
   go_ret
   exact ⟨ret_bool HQ.out.symm, HB.out⟩
  ·cases c1
   ·have HQ : Hid (R = false) := by rw [HR.out, g1, g2]; rfl
    go_wp2
    go_ret
    exact ⟨ret_bool HQ.out.symm, HB.out⟩
   ·cases c2
    ·have HQ : Hid (R = true) := by rw [HR.out, g1, g2]; rfl
     go_wp2
     go_ret
     exact ⟨ret_bool HQ.out.symm, HB.out⟩
    ·have HQ : Hid (R = false) := by rw [HR.out, g1, g2]; rfl
     go_wp2
     go_ret
     exact ⟨ret_bool HQ.out.symm, HB.out⟩

theorem edge_small {t : Lts} (hv : Valid t) {e o : Edge} (he : e ∈ t.edges) (ho : o ∈ t.edges) : Small2 (e.dst, o.dst) := by
 obtain ⟨i, hi, rfl⟩ := List.mem_iff_getElem.1 he
 obtain ⟨j, hj, rfl⟩ := List.mem_iff_getElem.1 ho
 have h1 := hv.edge i hi
 have h2 := hv.edge j hj
 have h3 := hv.st1
 exact ⟨⟨h1.d0, by have := h1.d1; show t.edges[i].dst < 40; omega⟩, h2.d0, by have := h2.d1; show t.edges[j].dst < 40; omega⟩

set_option maxRecDepth 100000 in
set_option maxHeartbeats 1000000 in
theorem lb1_any (lo tb nb mb : Nat) (t : Lts) (lv ev : Value) (ps : List (Int × Int)) (e : Edge) (w : World) (hv : Valid t) (he : SliceK 3 encE lo w ev t.edges) (hT : Blk w tb [.int .i64 t.states, .int .i64 t.initial, lv, ev] 27) (hn : Blk w nb [.map (some mb)] 73) (hp : PairMap w mb ps) (hm : e ∈ t.edges) :
  Calls Tryz.prog 50 #[.agg #[.int .i64 e.src, .int .i64 e.lab, .int .i64 e.dst], .pointer (some ⟨tb, 0, none⟩), .pointer (some ⟨nb, 0, none⟩)] w fun r w' => r = .returned (.bool (brother t (setOf ps) e)) ∧ Below w.heap.size w w' := by
 obtain ⟨eb, heb⟩ : ∃ eb, eb = w.heap.size := ⟨_, rfl⟩
 obtain ⟨W, hW⟩ : ∃ W, W = w.alloc (.cells #[.int .i64 e.src, .int .i64 e.lab, .int .i64 e.dst] 47) := ⟨_, rfl⟩
 have hb : Below w.heap.size w W := by rw [hW]; exact box_belowL _ _ _
 have hE : Blk W eb [.int .i64 e.src, .int .i64 e.lab, .int .i64 e.dst] 47 := by rw [hW, heb]; exact Blk.new w _ _
 have HCF := Lib.hid (ContainsFuncE lo ev t.edges 52 #[.pointer (some ⟨eb, 0, none⟩), .pointer (some ⟨nb, 0, none⟩)] (fun o => o.src == e.src && o.lab == e.lab && setOf ps e.dst o.dst && !(setOf ps o.dst e.dst)) W (he.below hb) (fun args w => by kernel_rfl)
  fun w' hb' o ho => lb11_any eb nb mb ps e.src e.lab e.dst o.src o.lab o.dst w' (hE.below hb') ((hn.below hb).below hb') ((hp.below hb).below hb') (edge_small hv hm ho))
 have HBR : Hid (brother t (setOf ps) e = t.edges.any fun o => o.src == e.src && o.lab == e.lab && setOf ps e.dst o.dst && !(setOf ps o.dst e.dst)) := rfl
 obtain ⟨c, hc⟩ : ∃ c, c = t.edges.any fun o => o.src == e.src && o.lab == e.lab && setOf ps e.dst o.dst && !(setOf ps o.dst e.dst) := ⟨_, rfl⟩
 rw [← hc] at HCF HBR
 have HB := Lib.hid hb
 have HW := Lib.hid hW
 have HEB := Lib.hid heb
 have hsW : w.heap.size ≤ W.heap.size := hb.size
 have t3 := hT.cell 3 rfl
 have htl := hT.lt
 clear hv he hT hn hp hm hb hE hW heb hc
 go_enter Tryz.func50, Tryz.ntmps50
 go_wp2_with fail
 rw [← HW.out]
 try rw [← HEB.out]
 refine Calls.mono HCF.out ?_
 rintro r w1 ⟨rfl, hb1⟩
 have HB1 := Lib.hid (HB.out.trans (hb1.mono hsW))
 clear hb1 HCF t3
 go_wp2
 go_ret
 exact ⟨ret_bool HBR.out.symm, HB1.out⟩

set_option maxRecDepth 100000 in
set_option maxHeartbeats 1000000 in
theorem littleBrothers_any (lo : Nat) (t : Lts) (lv ev : Value) (w : World) (hv : Valid t) (hl : SliceK 1 encS lo w lv t.labels) (he : SliceK 3 encE lo w ev t.edges) :
  Calls Tryz.prog 23 #[.agg #[.int .i64 t.states, .int .i64 t.initial, lv, ev]] w fun e w' => ∃ (tb nb mb : Nat) (ps : List (Int × Int)), e = .returned (.func (.func 50) #[] #[.pointer (some ⟨tb, 0, none⟩), .pointer (some ⟨nb, 0, none⟩)]) ∧ Below w.heap.size w w'
   ∧ Blk w' tb [.int .i64 t.states, .int .i64 t.initial, lv, ev] 27 ∧ Blk w' nb [.map (some mb)] 73 ∧ PairMap w' mb ps ∧ Great t t (allG t t) (setOf ps) := by
 obtain ⟨tb, htb⟩ : ∃ tb, tb = w.heap.size := ⟨_, rfl⟩
 obtain ⟨W, hW⟩ : ∃ W, W = w.alloc (.cells #[.int .i64 t.states, .int .i64 t.initial, lv, ev] 27) := ⟨_, rfl⟩
 have hb : Below w.heap.size w W := by rw [hW]; exact box_belowL _ _ _
 have hT : Blk W tb [.int .i64 t.states, .int .i64 t.initial, lv, ev] 27 := by rw [hW, htb]; exact Blk.new w _ _
 have HBE := Lib.hid (below_any lo t lv ev W hv (hl.below hb) (he.below hb))
 have HB := Lib.hid hb
 have HT := Lib.hid hT
 have HW := Lib.hid hW
 have HTB := Lib.hid htb
 have hsW : w.heap.size ≤ W.heap.size := hb.size
 have t0 := hT.cell 0 rfl
 have t1 := hT.cell 1 rfl
 have t2 := hT.cell 2 rfl
 have t3 := hT.cell 3 rfl
 rw [hW, htb] at t0 t1 t2 t3
 clear hv hl he hb hT hW htb
 go_enter Tryz.func23, Tryz.ntmps23
 go_wp2_with fail
 rw [← HW.out]
 try rw [← HTB.out]
 refine Calls.mono HBE.out ?_
 rintro e w1 ⟨mb, ps, rfl, hb1, hm, hg⟩
 have hb2 := box_belowL w1 #[.map (some mb)] 73
 have HB1 := Lib.hid (HB.out.trans ((hb1.trans (hb2.mono hb1.size)).mono hsW))
 have HT1 := Lib.hid ((HT.out.below hb1).below hb2)
 have HN1 := Lib.hid (Blk.new w1 [.map (some mb)] 73)
 have HM := Lib.hid (hm.below hb2)
 have HG := Lib.hid hg
 clear hb1 hb2 hm hg t0 t1 t2 t3 HBE
 go_wp2
 go_ret
 exact ⟨tb, _, mb, ps, rfl, HB1.out, HT1.out, HN1.out, HM.out, HG.out⟩

end Go.Proofs.YtdkbbknhighebaaGreatDoor

namespace Go.Proofs.YtdkbbknhighebaaGreatDoor
open Go Go.RowKit


theorem eqEd (x y : Edge) (w : World) : (binOp .eql 47 (.agg #[.int .i64 x.src, .int .i64 x.lab, .int .i64 x.dst]) (.agg #[.int .i64 y.src, .int .i64 y.lab, .int .i64 y.dst])).run Tryz.prog w = .ok (.bool (decide (x = y))) w := by
 have u3 := Tryz.underlying2
 have hS : Tryz.prog.underlying 47 = some (.struct (Tryz.prog.fieldsOf 47)) := by kernel_rfl
 have hp : Tryz.prog.stoodInHeld 47 = false := by kernel_rfl
 rw [run_eql_struct, show (10000 : Nat) = 9999 + 1 from rfl, run_equalIn_agg w 9999 47 _ _ hS hp]
 simp only [Program.fieldsOf, Tryz.underlying47]
 go_simp
 cases x with | mk a b c => cases y with | mk a' b' c' =>
 by_cases h1 : a = a' <;> by_cases h2 : b = b' <;> by_cases h3 : c = c' <;> simp [h1, h2, h3]
theorem neEd (x y : Edge) (w : World) : (binOp .neq 47 (.agg #[.int .i64 x.src, .int .i64 x.lab, .int .i64 x.dst]) (.agg #[.int .i64 y.src, .int .i64 y.lab, .int .i64 y.dst])).run Tryz.prog w = .ok (.bool (!decide (x = y))) w := by
 have h := eqEd x y w
 rw [run_eql_struct] at h
 rw [run_neq_struct]
 cases hr : (Op.equalIn 10000 47 (.agg #[.int .i64 x.src, .int .i64 x.lab, .int .i64 x.dst]) (.agg #[.int .i64 y.src, .int .i64 y.lab, .int .i64 y.dst])).run Tryz.prog w with
 | ok b w' =>
  rw [hr] at h
  simp only [Result.andThen, Result.ok.injEq, Value.bool.injEq] at h ⊢
  exact ⟨by rw [h.1], h.2⟩
 | halt _ _ => rw [hr] at h; cases h
theorem guardEd (op : BinOp) (a b : Operand) (xs ys : Array Value) (w : World) : (eqGuard op 47 a b (.agg xs) (.agg ys)).run Tryz.prog w = .ok () w := run_eqGuard_agg w op 47 a b xs ys (by kernel_rfl)

end Go.Proofs.YtdkbbknhighebaaGreatDoor

namespace Go.Proofs.YtdkbbknhighebaaGreatDoor
open Go Go.RowKit


/-- The first j elements are looked at; i of them are kept and lie in front; behind, all is as it was. -/
structure KeptF {α β : Type} (P : α → Bool) (xs : List α) (i j : Nat) (con : α → β) (cs : List β) : Prop where
 lt : i < j
 len : cs.length = xs.length
 kept : cs.take i = ((xs.take j).filter fun x => !P x).map con
 num : ((xs.take j).filter fun x => !P x).length = i
 high : ∀ k (h : k < xs.length), j ≤ k → cs[k]? = some (con xs[k])
theorem KeptF.start {α β : Type} {P : α → Bool} {xs : List α} {con : α → β} {k : Nat} (hk : k < xs.length) (hl : ∀ j (h : j < xs.length), j < k → P xs[j] = false) (hp : P xs[k] = true) : KeptF P xs k (k + 1) con (xs.map con) := by
 have h1 : (xs.take (k + 1)).filter (fun x => !P x) = xs.take k := by
  rw [List.take_succ_eq_append_getElem hk, List.filter_append]
  have h2 : (xs.take k).filter (fun x => !P x) = xs.take k := by
   rw [List.filter_eq_self]
   intro x hx
   obtain ⟨j, hj, rfl⟩ := List.mem_iff_getElem.1 hx
   rw [List.length_take] at hj
   rw [List.getElem_take, hl j (by omega) (by omega)]
   rfl
  rw [h2, List.filter_cons, hp]
  simp
 refine ⟨by omega, by simp, ?_, ?_, fun j hj _ => by rw [List.getElem?_map, List.getElem?_eq_getElem hj]; rfl⟩
 ·rw [h1, List.map_take]
 ·rw [h1, List.length_take]; omega
theorem KeptF.keep {α β : Type} {P : α → Bool} {xs : List α} {con : α → β} {i j : Nat} {cs : List β} (h : KeptF P xs i j con cs) (hj : j < xs.length) (hp : P xs[j] = false) : KeptF P xs (i + 1) (j + 1) con (cs.set i (con xs[j])) := by
 have hl := h.len
 have hi := h.lt
 have e : (xs.take (j + 1)).filter (fun x => !P x) = (xs.take j).filter (fun x => !P x) ++ [xs[j]] := by
  rw [List.take_succ_eq_append_getElem hj, List.filter_append, List.filter_cons, hp]
  simp
 refine ⟨by omega, by rw [List.length_set]; exact hl, ?_, ?_, fun k hk hjk => ?_⟩
 ·rw [e, List.map_append, ← h.kept, List.take_succ_eq_append_getElem (by rw [List.length_set]; omega), List.getElem_set_self, List.take_set_of_le (Nat.le_refl _)]
  rfl
 ·rw [e, List.length_append, h.num]
  rfl
 ·rw [List.getElem?_set_ne (by omega)]
  exact h.high k hk (by omega)
theorem KeptF.drop {α β : Type} {P : α → Bool} {xs : List α} {con : α → β} {i j : Nat} {cs : List β} (h : KeptF P xs i j con cs) (hj : j < xs.length) (hp : P xs[j] = true) : KeptF P xs i (j + 1) con cs := by
 have hi := h.lt
 have e : (xs.take (j + 1)).filter (fun x => !P x) = (xs.take j).filter (fun x => !P x) := by
  rw [List.take_succ_eq_append_getElem hj, List.filter_append, List.filter_cons, hp]
  simp
 exact ⟨by omega, h.len, by rw [e]; exact h.kept, by rw [e]; exact h.num, fun k hk hjk => h.high k hk (by omega)⟩
theorem KeptF.all {α β : Type} {P : α → Bool} {xs : List α} {con : α → β} {i j : Nat} {cs : List β} (h : KeptF P xs i j con cs) (hj : xs.length ≤ j) : (xs.filter fun x => !P x).length = i ∧ (xs.filter fun x => !P x).map con = cs.take i := by
 have e : xs.take j = xs := List.take_of_length_le hj
 have h1 := h.kept
 have h2 := h.num
 rw [e] at h1 h2
 exact ⟨h2, h1.symm⟩

theorem flat_takeC : ∀ (E : List Edge) (k : Nat), (E.flatMap encE).take (k * 3) = (E.take k).flatMap encE
 | [], k => by simp
 | _ :: _, 0 => by simp
 | x :: E, k + 1 => by
  have ih := flat_takeC E k
  rw [show (k + 1) * 3 = k * 3 + 3 by omega]
  simp only [List.flatMap_cons, encE, List.cons_append, List.nil_append, List.take_succ_cons]
  exact congrArg _ (congrArg _ (congrArg _ ih))
theorem flat_setC : ∀ (E : List Edge) (k : Nat) (x : Edge), (((E.flatMap encE).set (k * 3) (.int .i64 x.src)).set (k * 3 + 1) (.int .i64 x.lab)).set (k * 3 + 2) (.int .i64 x.dst) = if k < E.length then (E.set k x).flatMap encE else E.flatMap encE
 | [], k, x => by simp
 | e :: E, 0, x => by simp [encE]
 | e :: E, k + 1, x => by
  have ih := flat_setC E k x
  rw [show (k + 1) * 3 = k * 3 + 3 by omega]
  simp only [List.flatMap_cons, encE, List.cons_append, List.nil_append, List.set_cons_succ, List.length_cons, Nat.add_lt_add_iff_right, show k * 3 + 3 + 1 = k * 3 + 1 + 3 by omega, show k * 3 + 3 + 2 = k * 3 + 2 + 3 by omega]
  rw [ih]
  split <;> simp
/-- A block of edges, the first n of them fs. -/
structure EdAt (w : World) (g n c : Nat) (fs : List Edge) : Prop where
 cells : CellsAt w g 47 (n * 3) (c * 3) (fs.flatMap encE)
 len : fs.length = n
theorem EdAt.below {w w' : World} {g n c : Nat} {fs : List Edge} (h : EdAt w g n c fs) (hb : Below w.heap.size w w') : EdAt w' g n c fs := ⟨h.cells.below hb, h.len⟩
theorem EdAt.lt {w : World} {g n c : Nat} {fs : List Edge} (h : EdAt w g n c fs) : g < w.heap.size := h.cells.lt
theorem EdAt.at {w : World} {g n c : Nat} {fs : List Edge} (h : EdAt w g n c fs) {i : Nat} (hi : i < n) {x : Edge} (hx : fs[i]? = some x) : w.cell? ⟨g, i * 3, none⟩ = some (.int .i64 x.src) ∧ w.cell? ⟨g, i * 3 + 1, none⟩ = some (.int .i64 x.lab) ∧ w.cell? ⟨g, i * 3 + 2, none⟩ = some (.int .i64 x.dst) := by
 have hl := h.len
 obtain ⟨hi2, rfl⟩ := List.getElem?_eq_some_iff.1 hx
 obtain ⟨a, b, d⟩ := flat_get fs i hi2
 exact ⟨(h.cells.cell _ (by omega)).trans a, (h.cells.cell _ (by omega)).trans b, (h.cells.cell _ (by omega)).trans d⟩
theorem EdAt.set {w : World} {g n c : Nat} {fs : List Edge} (h : EdAt w g n c fs) {i : Nat} (hi : i < n) (x : Edge) : EdAt (((w.setCell ⟨g, i * 3, none⟩ (.int .i64 x.src)).setCell ⟨g, i * 3 + 1, none⟩ (.int .i64 x.lab)).setCell ⟨g, i * 3 + 2, none⟩ (.int .i64 x.dst)) g n c (fs.set i x) := by
 have hl := h.len
 refine ⟨?_, by rw [List.length_set]; exact hl⟩
 have h1 := ((h.cells.set (i * 3) (by omega) (.int .i64 x.src)).set (i * 3 + 1) (by omega) (.int .i64 x.lab)).set (i * 3 + 2) (by omega) (.int .i64 x.dst)
 rw [flat_setC, if_pos (by omega)] at h1
 exact h1
theorem EdAt.of_owns {w : World} {B g n c : Nat} {fs : List Edge} (h : w.ownsRow B 47 3 (.slice (some ⟨g, 0, none⟩) n c) n (fs.flatMap encE)) (hl : fs.length = n) : EdAt w g n c fs := by
 obtain ⟨h0, ⟨h, -⟩ | ⟨g', cap, cur, e, -, hg, hc, -, hs, ht⟩⟩ := h
 ·cases h
 ·simp only [Value.slice.injEq, Option.some.injEq, Addr.mk.injEq, and_true, true_and] at e
  obtain ⟨rfl, rfl⟩ := e
  refine ⟨⟨⟨cur.toList.drop (n * 3), ?_, ?_⟩, h0⟩, hl⟩
  ·unfold Blk
   rw [← ht, List.take_append_drop]
   simpa using hg
  ·rw [List.length_drop, h0, Array.length_toList, hs]
   have := Nat.mul_le_mul_right 3 hc
   omega
theorem EdAt.owns {w : World} {B g n c m : Nat} {fs xs : List Edge} (h : CellsAt w g 47 (n * 3) (c * 3) (fs.flatMap encE)) (hx : fs.take m = xs) (hxl : xs.length = m) (hm : m ≤ n) (hB : B ≤ g) (hn : n ≤ c) (hc : c ≤ 9223372036854775807) : w.ownsRow B 47 3 (.slice (some ⟨g, 0, none⟩) m c) m (xs.flatMap encE) := by
 obtain ⟨r, hr, hl⟩ := h.blk
 have hlen := h.len
 refine ⟨by rw [flat_len, hxl], .inr ⟨g, c, (fs.flatMap encE ++ r).toArray, rfl, hB, hr, by omega, by simpa [maxLen] using hc, by rw [List.size_toArray, List.length_append]; omega, ?_⟩⟩
 rw [List.toList_toArray, List.take_append_of_le_length (by have := Nat.mul_le_mul_right 3 hm; omega), flat_takeC, hx]
theorem run_clear_edges (w : World) (ty : TypeId) (b o n c : Nat) (hn : 0 < n) (hc : ∀ j, j < n * 3 → (w.cell? ⟨b, o + j, none⟩).isSome = true) (hf : ∀ j, j < n * 3 → w.frozen? ⟨b, o + j, none⟩ = false) :
  (Builtin.clear_ #[25] ty #[.slice (some ⟨b, o, none⟩) n c]).run Tryz.prog w = .ok (.tuple #[]) (w.setCells b o (List.replicate (n * 3) (.int .i64 0))) := by
 have hv : ∀ w, (zeroValue 47).run Tryz.prog w = .ok (.agg #[.int .i64 0, .int .i64 0, .int .i64 0]) w := fun w => by kernel_rfl
 have hzc : (Builtin.zeroCells (Value.agg #[.int .i64 0, .int .i64 0, .int .i64 0]).cells n).toList = List.replicate (n * 3) (.int .i64 0) := by
  simp only [Value.cells, Builtin.zeroCells]
  apply List.ext_getElem
  ·simp
  ·intro i h1 h2
   have h3 : i % 3 = 0 ∨ i % 3 = 1 ∨ i % 3 = 2 := by omega
   rcases h3 with h3 | h3 | h3 <;> simp [h3]
 have hst := run_storeCells_cells (P := Tryz.prog) b o (List.replicate (n * 3) (.int .i64 0)) 0 w (by simpa using hc) (by simpa using hf) (by intro v hv'; rw [List.eq_of_mem_replicate hv']; rfl)
 simp only [Nat.add_zero] at hst
 obtain ⟨m, rfl⟩ : ∃ m, n = m + 1 := ⟨n - 1, by omega⟩
 simp [Builtin.clear_, run_underlying Tryz.underlying25, hv, hzc, hst]
/-- The place holds the edge that stands ahead of it. -/
def sameE (es : List Edge) (p : Nat) : Bool := !(p == 0) && decide (es.getD p ⟨0, 0, 0⟩ = es.getD (p - 1) ⟨0, 0, 0⟩)
def keptE (es : List Edge) : List Edge := ((List.range es.length).filter fun p => !sameE es p).map fun p => es.getD p ⟨0, 0, 0⟩
theorem getD_ltE {es : List Edge} {p : Nat} (h : p < es.length) : es.getD p ⟨0, 0, 0⟩ = es[p] := by rw [List.getD_eq_getElem?_getD, List.getElem?_eq_getElem h]; rfl
theorem range_getDE (es : List Edge) : (List.range es.length).map (fun p => es.getD p ⟨0, 0, 0⟩) = es := by
 apply List.ext_getElem (by simp)
 intro i h1 h2
 simp only [List.getElem_map, List.getElem_range]
 exact getD_ltE h2
theorem keptE_upto (es : List Edge) : ∀ m, m ≤ es.length → (((List.range m).filter fun p => !sameE es p).map fun p => es.getD p ⟨0, 0, 0⟩) = Lib.compactUpTo es.toArray m
 | 0, _ => by simp [Lib.compactUpTo]
 | m + 1, hm => by
  have ih := keptE_upto es m (by omega)
  have hg : ∀ i, i < es.length → es.toArray[i]! = es.getD i ⟨0, 0, 0⟩ := fun i h => by
   rw [getElem!_pos es.toArray i (by simpa using h), getD_ltE h]
   simp
  rw [List.range_succ, List.filter_append, List.map_append, ih, Lib.compactUpTo_succ]
  congr 1
  have hk : Lib.keeps es.toArray m = !sameE es m := by
   unfold Lib.keeps sameE
   rw [hg m (by omega)]
   by_cases h0 : m = 0
   ·subst h0; simp
   ·rw [hg (m - 1) (by omega)]
    rw [Bool.eq_iff_iff, decide_eq_true_eq]
    simp [h0]
  rw [hk, hg m (by omega)]
  cases hq : sameE es m <;> simp [hq]
theorem keptE_compact (es : List Edge) : keptE es = Lib.compact es := by
 unfold keptE Lib.compact
 rw [keptE_upto es es.length (Nat.le_refl _)]
theorem slice_fromC (w : World) (g n c k : Nat) (hk : k < n) (hn : n ≤ c) (_hz : n ≤ 1000000) : (Instr.slice 25 (.slice (some ⟨g, 0, none⟩) n c) (some (.int .i64 (k : Int))) none none).run Tryz.prog w = .ok (.slice (some ⟨g, k * 3, none⟩) (n - k) (c - k)) w := by
 have hel : Tryz.prog.elem 25 = 47 := by simp [Program.elem, Tryz.underlying25]
 rw [run_slice_l w 25 (some ⟨g, 0, none⟩) n c (by rw [hel]; exact Tryz.underlying25) .i64 (k : Int) (by omega) (by omega), hel, sizeOfE]
 have hck : ¬ c = k := by omega
 simp [Result.andThen, sliced, hck, Addr.add_lit]

theorem grown_setCellsC (g : Nat) : ∀ (vs : List Value) (o : Nat) (w : World), w.grownBy (w.setCells g o vs) (some g)
 | [], o, w => grown_refl _ _
 | v :: vs, o, w => by
  rw [World.setCells]
  exact grown_trans (grown_setCell w ⟨g, o, none⟩ v) (grown_setCellsC g vs (o + 1) _)

set_option maxRecDepth 100000 in
set_option maxHeartbeats 4000000 in
theorem CompactEd_own (B : Nat) (v : Value) (es : List Edge) (w0 w : World) (hb : Below B w0 w) (hB : B ≤ w.heap.size) (ho : w.ownsRow B 47 3 v es.length (es.flatMap encE)) (hz : es.length ≤ 1000000) :
  Calls Tryz.prog 68 #[v] w fun e w' => ∃ v', e = .returned v' ∧ Below B w0 w' ∧ w'.ownsRow B 47 3 v' (keptE es).length ((keptE es).flatMap encE) ∧ w.grownBy w' v.ownBlock := by
 have HB := Lib.hid hb
 have HO := Lib.hid ho
 have HHB := Lib.hid hB
 obtain ⟨a, c, rfl, hnc, hcc⟩ := owns_slice ho
 obtain ⟨n, hn⟩ : ∃ n, n = es.length := ⟨_, rfl⟩
 have HN := Lib.hid hn
 rw [← hn] at HO hnc hz ⊢
 have HALL : Hid ((∀ p, p < n → sameE es p = false) → keptE es = es) := fun h => by
  unfold keptE
  rw [List.filter_eq_self.2 fun p hp => by rw [h p (by rw [HN.out]; exact List.mem_range.1 hp)]; rfl]
  exact range_getDE es
 clear hb ho hB hn
 by_cases h2 : n < 2
 ·have HF : Hid (keptE es = es) := HALL.out fun p hp => by
   unfold sameE
   by_cases h0 : p = 0
   ·subst h0; rfl
   ·have : p = 1 ∨ 2 ≤ p := by omega
    omega
  go_enter Tryz.func68, Tryz.ntmps68
  go_wp2
  go_ret
  refine ⟨_, rfl, HB.out, ?_, grown_refl _ _⟩
  rw [HF.out, ← HN.out]
  exact HO.out
 ·obtain ⟨g, ha2, hgB⟩ : ∃ g, a = some ⟨g, 0, none⟩ ∧ B ≤ g := by
   rcases HO.out.2 with ⟨e, e2⟩ | ⟨g, cap, cur, e, h1, -⟩
   ·omega
   ·simp only [Value.slice.injEq] at e
    exact ⟨g, e.1, h1⟩
  subst ha2
  have HGB := Lib.hid hgB
  have HED0 := Lib.hid (EdAt.of_owns HO.out HN.out.symm)
  have hwg : g < w.heap.size := HED0.out.lt
  go_enter Tryz.func68, Tryz.ntmps68
  go_wp2
  go_loopw [3] (fun s1 wr => ∃ k : Nat, 1 ≤ k ∧ k ≤ n ∧ s1 = .int .i64 k ∧ Below w.heap.size w wr ∧ ∀ p, p < k → sameE es p = false) (fun s1 _ => n - (intOf s1).toNat)
  case atStart => exact ⟨1, Nat.le_refl _, by omega, rfl, Below.refl _ _, fun p h => by (obtain rfl : p = 0 := (by omega)); rfl⟩
  case round =>
   obtain ⟨k, hk1, hkn, rfl, hbl, hno⟩ := hrel
   obtain ⟨wC, rfl⟩ : ∃ wC : World, wC = wr := ⟨_, rfl⟩
   have HNO := Lib.hid hno
   have HBL := Lib.hid hbl
   have hszC := hbl.size
   have HEC := Lib.hid (HED0.out.below hbl)
   clear hno
   by_cases hlt : k < n
   ·obtain ⟨m, rfl⟩ : ∃ m, k = m + 1 := ⟨k - 1, by omega⟩
    have hm1 : m + 1 < es.length := by rw [← HN.out]; exact hlt
    obtain ⟨c0, c1, c2⟩ := HEC.out.at (i := m + 1) (by omega) (List.getElem?_eq_getElem hm1)
    obtain ⟨d0, d1, d2⟩ := HEC.out.at (i := m) (by omega) (List.getElem?_eq_getElem (show m < es.length by omega))
    have hgw : g < wC.heap.size := HEC.out.lt
    have hsm : sameE es (m + 1) = decide (es[m + 1] = es[m]) := by
     unfold sameE
     rw [getD_ltE hm1, Nat.add_sub_cancel, getD_ltE (show m < es.length by omega)]
     simp
    obtain ⟨x, hx⟩ : ∃ x, x = es[m + 1] := ⟨_, rfl⟩
    obtain ⟨y, hy⟩ : ∃ y, y = es[m] := ⟨_, rfl⟩
    rw [← hx] at c0 c1 c2 hsm
    rw [← hy] at d0 d1 d2 hsm
    have hE := fun w' => eqEd x y w'
    rw [← hsm] at hE
    have hG := fun (op : BinOp) (a b : Operand) (w : World) => guardEd op a b #[.int .i64 x.src, .int .i64 x.lab, .int .i64 x.dst] #[.int .i64 y.src, .int .i64 y.lab, .int .i64 y.dst] w
    obtain ⟨sb, hsb⟩ : ∃ sb, sb = sameE es (m + 1) := ⟨_, rfl⟩
    rw [← hsb] at hE
    have HSB := Lib.hid hsb
    have HX := Lib.hid hx
    replace c0 := later_cell hgw c0
    replace c1 := later_cell hgw c1
    replace c2 := later_cell hgw c2
    replace d0 := later_cell hgw d0
    replace d1 := later_cell hgw d1
    replace d2 := later_cell hgw d2
    have hpi : ((m + 1 : Nat) : Int) - 1 = (m : Int) := by omega
    clear hbl hsm hx hy hsb
    cases sb
    ·go_wp2
     refine wp_region_later (by kernel_rfl) (by kernel_rfl) ?_
     repeat (go_big_quiet_step ((fail)))
     refine wpQuiet_nil ?_
     intro _ hw9
     obtain ⟨nl, hw8⟩ := hw9
     subst hw8
     have HBN := Lib.hid (HBL.out.trans (nl.h.mono hszC))
     clear c0 c1 c2 d0 d1 d2
     go_wp2
     go_roundw
     case rel => exact ⟨m + 1 + 1, by omega, by omega, by go_num, HBN.out, fun p h => by
      by_cases e : p = m + 1
      ·subst e; exact HSB.out.symm
      ·exact HNO.out p (by omega)⟩
     case measure => simp [intOf]; omega
    ·go_wp2
     refine wp_region_later (by kernel_rfl) (by kernel_rfl) ?_
     repeat (go_big_quiet_step ((fail)))
     refine wpQuiet_nil ?_
     intro _ hw9
     obtain ⟨nl, hw8⟩ := hw9
     subst hw8
     obtain ⟨wD, hwD⟩ : ∃ wD, wD = nl.w := ⟨_, rfl⟩
     have hbD : Below wC.heap.size wC wD := by rw [hwD]; exact nl.h
     rw [← hwD]
     have HBD : Hid (Below B w0 wD) := HB.out.trans ((HBL.out.trans (hbD.mono hszC)).mono HHB.out)
     have HGD : Hid (w.grownBy wD (some g)) := grown_below (HBL.out.trans (hbD.mono hszC)) _
     have HCD := Lib.hid (HEC.out.below hbD)
     have HIN : Hid (KeptF (sameE es) (List.range n) (m + 1) (m + 1 + 1) (fun p => es.getD p ⟨0, 0, 0⟩) es) := by
      have h := KeptF.start (P := sameE es) (xs := List.range n) (con := fun p => es.getD p ⟨0, 0, 0⟩) (k := m + 1) (by simpa using hlt) (fun j h hj => by rw [List.getElem_range]; exact HNO.out j hj) (by rw [List.getElem_range]; exact HSB.out.symm)
      have e : (List.range n).map (fun p => es.getD p ⟨0, 0, 0⟩) = es := by rw [HN.out]; exact range_getDE es
      rw [e] at h
      exact h
     have HPRE : Hid (es[m + 1]? = some (es.getD (m + 1) ⟨0, 0, 0⟩)) := by
      unfold Hid
      rw [List.getElem?_eq_getElem hm1, getD_ltE hm1]
     obtain ⟨NL, hNL⟩ : ∃ NL, NL = n - (m + 1) := ⟨_, rfl⟩
     obtain ⟨o3, ho3⟩ : ∃ o3, o3 = (m + 1) * 3 := ⟨_, rfl⟩
     have hNL2 : m + 1 + NL = n := by omega
     have hcm : m + 1 ≤ c := by omega
     have hsl : ∀ w', (Instr.slice 25 (.slice (some ⟨g, 0, none⟩) n c) (some (.int .i64 ((m : Int) + 1))) none none).run Tryz.prog w' = .ok (.slice (some ⟨g, o3, none⟩) NL (c - (m + 1))) w' := fun w' => by
      have h := slice_fromC w' g n c (m + 1) hlt hnc (by omega)
      rw [hNL, ho3]
      exact h
     have HO3 := Lib.hid ho3
     clear c0 c1 c2 d0 d1 d2 hbD hwD nl hE hNL ho3
     go_wp2
     clear hsl
     go_loopw [3, 5] (fun s5 s7 wr => ∃ (i q : Nat) (fs : List Edge), s5 = .int .i64 i ∧ s7 = .int .i64 q ∧ 1 ≤ q ∧ q ≤ NL ∧ Below B w0 wr ∧ w.grownBy wr (some g) ∧ EdAt wr g n c fs ∧ KeptF (sameE es) (List.range n) i (m + 1 + q) (fun p => es.getD p ⟨0, 0, 0⟩) fs ∧ fs[m + q]? = some (es.getD (m + q) ⟨0, 0, 0⟩)) (fun _ s7 _ => NL - (intOf s7).toNat)
     case atStart => exact ⟨m + 1, 1, es, by go_num, rfl, Nat.le_refl _, by omega, HBD.out, HGD.out, HCD.out, HIN.out, HPRE.out⟩
     case round =>
      clear HBD HCD HIN HPRE HGD
      obtain ⟨i, q, fs, rfl, rfl, hq1, hqN, hb5, hgr, hca, hki, hpre⟩ := hrel
      obtain ⟨w5, rfl⟩ : ∃ w5 : World, w5 = wr := ⟨_, rfl⟩
      have HB5 := Lib.hid hb5
      have HCA := Lib.hid hca
      have HKI := Lib.hid hki
      have HGR := Lib.hid hgr
      have hij := hki.lt
      by_cases hltq : q < NL
      ·obtain ⟨r, rfl⟩ : ∃ r, q = r + 1 := ⟨q - 1, by omega⟩
       have hjr : m + 1 + (r + 1) < (List.range n).length := by rw [List.length_range]; omega
       have e1 : m + (r + 1) = m + 1 + r := by omega
       rw [e1] at hpre
       have hhigh := hki.high _ hjr (Nat.le_refl _)
       simp only [List.getElem_range] at hhigh
       obtain ⟨c0, c1, c2⟩ := hca.at (i := m + 1 + (r + 1)) (by omega) hhigh
       obtain ⟨d0, d1, d2⟩ := hca.at (i := m + 1 + r) (by omega) hpre
       have hgl := hca.lt
       have hsm : sameE es (m + 1 + (r + 1)) = decide (es.getD (m + 1 + (r + 1)) ⟨0, 0, 0⟩ = es.getD (m + 1 + r) ⟨0, 0, 0⟩) := by
        unfold sameE
        have e2 : m + 1 + (r + 1) - 1 = m + 1 + r := by omega
        rw [e2]
        simp
       obtain ⟨x, hx⟩ : ∃ x, x = es.getD (m + 1 + (r + 1)) ⟨0, 0, 0⟩ := ⟨_, rfl⟩
       obtain ⟨y, hy⟩ : ∃ y, y = es.getD (m + 1 + r) ⟨0, 0, 0⟩ := ⟨_, rfl⟩
       rw [← hx] at c0 c1 c2 hsm
       rw [← hy] at d0 d1 d2 hsm
       have e3 : (m + 1 + (r + 1)) * 3 = o3 + (r + 1) * 3 := by have := HO3.out; omega
       have e4 : (m + 1 + r) * 3 = o3 + r * 3 := by have := HO3.out; omega
       rw [e3] at c0 c1 c2
       rw [e4] at d0 d1 d2
       have hE := fun w' => neEd x y w'
       rw [← hsm] at hE
       have hG := fun (op : BinOp) (a b : Operand) (w : World) => guardEd op a b #[.int .i64 x.src, .int .i64 x.lab, .int .i64 x.dst] #[.int .i64 y.src, .int .i64 y.lab, .int .i64 y.dst] w
       obtain ⟨sb, hsb⟩ : ∃ sb, sb = sameE es (m + 1 + (r + 1)) := ⟨_, rfl⟩
       rw [← hsb] at hE
       have HSB2 := Lib.hid hsb
       have HX2 := Lib.hid hx
       have C0 := Lib.hid c0
       have C1 := Lib.hid c1
       have C2 := Lib.hid c2
       replace c0 := later_cell hgl c0
       replace c1 := later_cell hgl c1
       replace c2 := later_cell hgl c2
       replace d0 := later_cell hgl d0
       replace d1 := later_cell hgl d1
       replace d2 := later_cell hgl d2
       have hpi : ((r + 1 : Nat) : Int) - 1 = (r : Int) := by omega
       clear hb5 hca hki hpre hsm hx hy hsb hgr hhigh e3 e4
       cases sb
       ·go_wp2
        refine wp_region_later (by kernel_rfl) (by kernel_rfl) ?_
        repeat (go_big_quiet_step ((fail)))
        refine wpQuiet_nil ?_
        intro _ hw9
        obtain ⟨nl, hw8⟩ := hw9
        subst hw8
        obtain ⟨w6, hw6⟩ : ∃ w6, w6 = nl.w := ⟨_, rfl⟩
        have hb6 : Below w5.heap.size w5 w6 := by rw [hw6]; exact nl.h
        rw [← hw6]
        have hca6 := HCA.out.below hb6
        have HCA6 := Lib.hid hca6
        clear c0 c1 c2 d0 d1 d2
        have c0 := keeps hb6 hgl C0.out
        have c1 := keeps hb6 hgl C1.out
        have c2 := keeps hb6 hgl C2.out
        have hin : i < n := by omega
        obtain ⟨o0, i0⟩ := hca6.cells.cell_some (i * 3) (by omega)
        obtain ⟨o1, i1⟩ := hca6.cells.cell_some (i * 3 + 1) (by omega)
        obtain ⟨o2, i2⟩ := hca6.cells.cell_some (i * 3 + 2) (by omega)
        have f0 := hca6.cells.frozen (i * 3)
        have f1 := hca6.cells.frozen (i * 3 + 1)
        have f2 := hca6.cells.frozen (i * 3 + 2)
        have hg6 := hca6.lt
        have HB6 := Lib.hid (HB5.out.trans (hb6.mono (show B ≤ w5.heap.size from by have := HGB.out; omega)))
        have HG6 : Hid (w.grownBy w6 (some g)) := grown_trans HGR.out (grown_below hb6 _)
        have HS6 := Lib.hid (hca6.set hin x)
        clear hb6 hw6 nl hE hG hca6
        go_wp2
        go_roundw
        case rel => exact ⟨i + 1, r + 1 + 1, fs.set i x, by go_num, by go_num, by omega, by omega, ((HB6.out.setCell HGB.out _).setCell HGB.out _).setCell HGB.out _, grown_trans HG6.out (grown_trans (grown_setCell w6 ⟨g, i * 3, none⟩ _) (grown_trans (grown_setCell _ ⟨g, i * 3 + 1, none⟩ _) (grown_setCell _ ⟨g, i * 3 + 2, none⟩ _))), HS6.out, by have h := HKI.out.keep hjr (by rw [List.getElem_range]; exact HSB2.out.symm); simp only [List.getElem_range] at h; rw [← HX2.out] at h; exact h, by rw [List.getElem?_set_ne (by omega), show m + (r + 1 + 1) = m + 1 + (r + 1) from by omega, HKI.out.high _ hjr (Nat.le_refl _)]; simp only [List.getElem_range]⟩
        case measure => simp [intOf]; omega
       ·go_wp2
        refine wp_region_later (by kernel_rfl) (by kernel_rfl) ?_
        repeat (go_big_quiet_step ((fail)))
        refine wpQuiet_nil ?_
        intro _ hw9
        obtain ⟨nl, hw8⟩ := hw9
        subst hw8
        obtain ⟨w6, hw6⟩ : ∃ w6, w6 = nl.w := ⟨_, rfl⟩
        have hb6 : Below w5.heap.size w5 w6 := by rw [hw6]; exact nl.h
        rw [← hw6]
        have HCA6 := Lib.hid (HCA.out.below hb6)
        have HB6 := Lib.hid (HB5.out.trans (hb6.mono (show B ≤ w5.heap.size from by have := HGB.out; omega)))
        have HG6 : Hid (w.grownBy w6 (some g)) := grown_trans HGR.out (grown_below hb6 _)
        clear c0 c1 c2 d0 d1 d2 hb6 hw6 nl hE hG
        go_wp2
        go_roundw
        case rel => exact ⟨i, r + 1 + 1, fs, rfl, by go_num, by omega, by omega, HB6.out, HG6.out, HCA6.out, HKI.out.drop hjr (by rw [List.getElem_range]; exact HSB2.out.symm), by rw [show m + (r + 1 + 1) = m + 1 + (r + 1) from by omega, HKI.out.high _ hjr (Nat.le_refl _)]; simp only [List.getElem_range]⟩
        case measure => simp [intOf]; omega
      ·obtain rfl : q = NL := by omega
       have HLEN : Hid ((keptE es).length = i ∧ keptE es = fs.take i) := by
        have h := hki.all (by rw [List.length_range]; omega)
        unfold keptE
        rw [List.length_map, ← HN.out]
        exact ⟨h.1, h.2⟩
       have hij2 : i < n := by omega
       have hsl : ∀ w', (Instr.slice 25 (.slice (some ⟨g, 0, none⟩) n c) (some (.int .i64 (i : Int))) none none).run Tryz.prog w' = .ok (.slice (some ⟨g, i * 3, none⟩) (n - i) (c - i)) w' := fun w' => slice_fromC w' g n c i hij2 hnc (by omega)
       have hcl : ∀ ty, (Builtin.clear_ #[25] ty #[.slice (some ⟨g, i * 3, none⟩) (n - i) (c - i)]).run Tryz.prog w5 = .ok (.tuple #[]) (w5.setCells g (i * 3) (List.replicate ((n - i) * 3) (.int .i64 0))) :=
        fun ty => run_clear_edges w5 ty g (i * 3) (n - i) (c - i) (by omega) (fun t ht => by obtain ⟨o, ho⟩ := hca.cells.cell_some (i * 3 + t) (by omega); rw [ho]; rfl) (fun t ht => hca.cells.frozen (i * 3 + t))
       have hclr := hca.cells.clear (z := .int .i64 0) (i := i * 3) (by omega)
       rw [show n * 3 - i * 3 = (n - i) * 3 by omega] at hclr
       have HBF : Hid (Below B w0 (w5.setCells g (i * 3) (List.replicate ((n - i) * 3) (.int .i64 0)))) := below_setCells HGB.out _ _ _ hb5
       have HGF : Hid (w.grownBy (w5.setCells g (i * 3) (List.replicate ((n - i) * 3) (.int .i64 0))) (some g)) := grown_trans hgr (grown_setCellsC g _ _ _)
       have HOF : Hid ((w5.setCells g (i * 3) (List.replicate ((n - i) * 3) (.int .i64 0))).ownsRow B 47 3 (.slice (some ⟨g, 0, none⟩) i c) i ((fs.take i).flatMap encE)) := by
        have hfl := hca.len
        have e5 : ((fs.take i ++ List.replicate (n - i) (⟨0, 0, 0⟩ : Edge)).flatMap encE) = (fs.flatMap encE).take (i * 3) ++ List.replicate ((n - i) * 3) (.int .i64 0) := by
         rw [List.flatMap_append, flat_takeC]
         congr 1
         generalize n - i = z
         induction z with
         | zero => rfl
         | succ z ih => rw [List.replicate_succ, List.flatMap_cons, ih, show (z + 1) * 3 = z * 3 + 3 by omega, Nat.add_comm, ← List.replicate_append_replicate]; rfl
        rw [← e5] at hclr
        exact EdAt.owns hclr (by rw [List.take_append_of_le_length (by rw [List.length_take]; omega), List.take_take, Nat.min_self]) (by rw [List.length_take]; omega) (by omega) HGB.out hnc hcc
       clear hb5 hca hki hij hpre hgr hclr
       go_wp2_with fail
       go_ret
       refine ⟨_, rfl, HBF.out, ?_, HGF.out⟩
       rw [HLEN.out.1, HLEN.out.2]
       exact HOF.out
   ·obtain rfl : k = n := by omega
    have HF : Hid (keptE es = es) := HALL.out HNO.out
    have HBN := Lib.hid (HB.out.trans (HBL.out.mono HHB.out))
    have HOC := Lib.hid (owns_below HO.out hbl)
    have HGR := Lib.hid (grown_below hbl (Value.slice (some ⟨g, 0, none⟩) k c).ownBlock)
    clear hbl
    go_wp2
    go_ret
    refine ⟨_, rfl, HBN.out, ?_, HGR.out⟩
    rw [HF.out, ← HN.out]
    exact HOC.out

end Go.Proofs.YtdkbbknhighebaaGreatDoor

namespace Go.Proofs.YtdkbbknhighebaaGreatDoor
open Go Go.RowKit


set_option maxRecDepth 100000 in
set_option maxHeartbeats 2000000 in
theorem tidy_any (B tb : Nat) (v0 v1 v2 ev : Value) (es : List Edge) (w0 w : World) (hb : Below B w0 w) (hB : B ≤ w.heap.size) (ht : Blk w tb [v0, v1, v2, ev] 27) (ho : w.ownsRow B 47 3 ev es.length (es.flatMap encE)) (hz : es.length ≤ 1000000) :
  Calls Tryz.prog 43 #[.pointer (some ⟨tb, 0, none⟩)] w fun e w' => e = .returned (.tuple #[]) ∧ ∃ (w2 : World) (ev' : Value), w' = w2.setCell ⟨tb, 3, none⟩ ev' ∧ w.grownBy w2 ev.ownBlock ∧ Below B w0 w2 ∧ w2.ownsRow B 47 3 ev' (Lib.compact (sortEs es)).length ((Lib.compact (sortEs es)).flatMap encE) := by
 have HS := Lib.hid (SortEs_own B ev es w ho (by omega))
 have HB := Lib.hid hb
 have HT := Lib.hid ht
 have HO := Lib.hid ho
 have HNE : Hid (some tb ≠ ev.ownBlock) := blk_own_neL ht ho (by decide)
 obtain ⟨pe, ce, rfl, -, -⟩ := owns_slice ho
 have x3 := ht.cell 3 rfl
 obtain ⟨N, hN⟩ : ∃ N, N = es.length := ⟨_, rfl⟩
 rw [← hN] at HS HT HO HNE x3 hz ⊢
 have HN := Lib.hid hN
 have HBS := Lib.hid hB
 clear hb ht ho hN hB
 go_enter Tryz.func43, Tryz.ntmps43
 go_wp2_with fail
 refine Calls.mono HS.out ?_
 rintro e w1 ⟨rfl, ho1, hg1⟩
 have HB1 : Hid (Below B w0 w1) := HB.out.grown hg1 HBS.out (fun b e => (HO.out.lt b e).1)
 have HT1 : Hid (Blk w1 tb [v0, v1, v2, .slice pe N ce] 27) := (hg1.block tb HT.out.lt HNE.out).trans HT.out
 have hsl : (sortEs es).length = N := by rw [sortEs_len, HN.out]
 have hs1 : B ≤ w1.heap.size := Nat.le_trans HBS.out hg1.size
 have HC := Lib.hid (CompactEd_own B (.slice pe N ce) (sortEs es) w0 w1 HB1.out hs1 (by rw [hsl]; exact ho1) (by rw [hsl]; exact hz))
 have y3 := HT1.out.cell 3 rfl
 have HG1 := Lib.hid hg1
 clear ho1 hg1 hsl hs1 x3 HS
 go_wp2_with fail
 refine Calls.mono HC.out ?_
 rintro e w2 ⟨v', rfl, hb2, ho2, hg2⟩
 rw [keptE_compact] at ho2
 obtain ⟨p', c', rfl, -, -⟩ := owns_slice ho2
 have HR : Hid (∃ (w3 : World) (ev' : Value), w2.setCell ⟨tb, 3, none⟩ (.slice p' (Lib.compact (sortEs es)).length c') = w3.setCell ⟨tb, 3, none⟩ ev' ∧ w.grownBy w3 (Value.slice pe N ce).ownBlock ∧ Below B w0 w3 ∧ w3.ownsRow B 47 3 ev' (Lib.compact (sortEs es)).length ((Lib.compact (sortEs es)).flatMap encE)) := ⟨w2, _, rfl, grown_trans HG1.out hg2, hb2, ho2⟩
 have hT2 : Blk w2 tb [v0, v1, v2, .slice pe N ce] 27 := (hg2.block tb HT1.out.lt HNE.out).trans HT1.out
 have z3 := hT2.cell 3 rfl
 have f3 := hT2.frozen 3
 clear hb2 ho2 hg2 y3 HC hT2
 go_wp2
 go_end0
 exact ⟨rfl, HR.out⟩

end Go.Proofs.YtdkbbknhighebaaGreatDoor

namespace Go.Proofs.YtdkbbknhighebaaGreatDoor
open Go Go.RowKit

set_option maxRecDepth 100000 in
set_option maxHeartbeats 1000000 in
theorem MaxI_any (lo : Nat) (v : Value) (xs : List Int) (w : World) (hv : SliceK 1 encI lo w v xs) (h0 : 0 < xs.length) :
  Calls Tryz.prog 67 #[v] w fun e w' => (∃ m, e = .returned (.int .i64 m) ∧ m ∈ xs ∧ ∀ x ∈ xs, x ≤ m) ∧ w = w' := by
 obtain ⟨a, c, rfl, hcn, hcc, hrow⟩ := hv
 have HR := Lib.hid hrow
 obtain ⟨b1, o1, rfl, -, hbs, c0⟩ := hrow.one h0
 simp only [encI, List.getElem?_cons_zero, Nat.add_zero] at c0
 have h1 : ¬ (xs.length : Int) < 1 := by omega
 have h00 : (0 : Int) < (xs.length : Int) := by omega
 obtain ⟨y0, hy0⟩ : ∃ y0, y0 = xs[0] := ⟨_, rfl⟩
 rw [← hy0] at c0
 have HY0 : Hid (y0 ∈ xs ∧ ∀ j (h : j < xs.length), j < 1 → xs[j] ≤ y0) := ⟨by rw [hy0]; exact List.getElem_mem _, fun j h hj => by
  have : j = 0 := by omega
  subst this
  rw [hy0]
  exact Int.le_refl _⟩
 clear hrow hy0
 go_enter Tryz.func67, Tryz.ntmps67
 go_wp2_with fail
 go_loopw [3, 4] (fun v3 i wr => ∃ (k : Nat) (m : Int), 1 ≤ k ∧ k ≤ xs.length ∧ v3 = .int .i64 m ∧ i = .int .i64 k ∧ wr = w ∧ m ∈ xs ∧ ∀ j (h : j < xs.length), j < k → xs[j] ≤ m) (fun _ i _ => xs.length - (intOf i).toNat)
 case atStart => exact ⟨1, y0, Nat.le_refl _, by omega, rfl, rfl, rfl, HY0.out.1, HY0.out.2⟩
 case round =>
  clear HY0 c0
  obtain ⟨k, m, hk1, hk, rfl, rfl, rfl, hm, ha⟩ := hrel
  have HA := Lib.hid ha
  have HM := Lib.hid hm
  clear ha hm
  by_cases hlt : k < xs.length
  ·obtain ⟨b2, o2, e2, -, -, c1⟩ := HR.out.one hlt
   simp only [Option.some.injEq, Addr.mk.injEq, and_true] at e2
   obtain ⟨rfl, rfl⟩ := e2
   simp only [encI, List.getElem?_cons_zero] at c1
   obtain ⟨y, hy⟩ : ∃ y, y = xs[k] := ⟨_, rfl⟩
   rw [← hy] at c1
   have HY := Lib.hid hy
   have HYM : Hid (y ∈ xs) := by unfold Hid; rw [hy]; exact List.getElem_mem _
   clear hy
   go_wp2_with fail
   go_roundw
   case rel => exact ⟨k + 1, if m < y then y else m, by omega, by omega, by first | rfl | (congr 1; omega), by go_num, (by first | rfl | trivial), by
    split
    ·exact HYM.out
    ·exact HM.out, fun j h hj => by
    by_cases e : j = k
    ·subst e
     rw [← HY.out]
     split <;> omega
    ·have := HA.out j h (by omega)
     split <;> omega⟩
   case measure => simp [intOf]; omega
  ·have HB : Hid (∀ x ∈ xs, x ≤ m) := fun x hx => by
    obtain ⟨j, hj, rfl⟩ := List.mem_iff_getElem.1 hx
    exact HA.out j hj (by omega)
   go_wp2_with fail
   go_ret
   exact ⟨⟨m, rfl, HM.out, HB.out⟩, rfl⟩

set_option maxRecDepth 100000 in
set_option maxHeartbeats 1000000 in
theorem blockCount_any (lo : Nat) (v : Value) (xs : List Int) (w : World) (hv : SliceK 1 encI lo w v xs) (h0 : 0 < xs.length) (hlow : ∀ x ∈ xs, 0 ≤ x ∧ x ≤ 1000) :
  Calls Tryz.prog 42 #[v] w fun e w' => (∃ n, e = .returned (.int .i64 n) ∧ (∃ x ∈ xs, n = x + 1) ∧ ∀ x ∈ xs, x < n) ∧ w = w' := by
 have HM := Lib.hid (MaxI_any lo v xs w hv h0)
 have HL := Lib.hid hlow
 clear hv hlow
 go_enter Tryz.func42, Tryz.ntmps42
 go_wp2_with fail
 refine Calls.mono HM.out ?_
 rintro e w1 ⟨⟨m, rfl, hm, hall⟩, rfl⟩
 have hm1 := (HL.out m hm).1
 have hm2 := (HL.out m hm).2
 have HM1 := Lib.hid hm
 have HAL := Lib.hid hall
 clear hm hall HM
 go_wp2_with fail
 go_ret
 exact ⟨⟨m + 1, rfl, ⟨m, HM1.out, rfl⟩, fun x hx => by have := HAL.out x hx; omega⟩, rfl⟩

end Go.Proofs.YtdkbbknhighebaaGreatDoor
