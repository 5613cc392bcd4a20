/-
  The reference's drawer of a system.
  A whole slice appended to a row of the call's own.
  A struct of four cells that is written; a slice of edges cloned.
  The reference's l11Own.
-/
import Derived.Test.YtifoinannefcpaaGreatDoorA9
import Derived.Deep.RegionHeld3
import Derived.Deep.Cut
import Derived.Test.YtifoinannefcpaaGreatDoorA3
import Derived.Laws.AppendOwn
import Derived.Laws.AppendOwnNone
import Derived.Test.YtifoinannefcpaaGreatDoorA6
namespace Go.Proofs.YtifoinannefcpaaGreatDoor
open Go Go.RowKit


theorem info_intD : (Tryz.prog.info? 2).map (fun i => (i.zero, i.size, i.bytes)) = some (some (.int .i64 0), 1, 8) := by kernel_rfl
theorem info_edgeD : (Tryz.prog.info? 62).map (fun i => (i.zero, i.size, i.bytes)) = some (some (.agg #[.int .i64 0, .int .i64 0, .int .i64 0]), 3, 24) := by kernel_rfl
/-- What stands while a system is drawn: the names, the kinds, the result's block. -/
structure DEnv (sb m rb : Nat) (kv lv : Value) (ks : List Int) (ls : List ByteArray) (w0 w : World) : Prop where
 drew : Drew sb m w0 w
 sbl : sb < w0.heap.size
 names : OwnStrs w0.heap.size w lv ls
 kinds : w.ownsRow w0.heap.size 2 1 kv ks.length (ks.map (Value.int .i64))
 box : Blk w rb [.int .i64 0, .int .i64 0, .slice none 0 0, .slice none 0 0] 27
 rbl : w0.heap.size ≤ rb
theorem DEnv.then {sb m m' rb : Nat} {kv lv : Value} {ks : List Int} {ls : List ByteArray} {w0 w w' : World} (h : DEnv sb m rb kv lv ks ls w0 w) (hd : Drew sb m' w w') : DEnv sb m' rb kv lv ks ls w0 w' :=
 ⟨h.drew.trans hd, h.sbl, hd.own h.names h.sbl, hd.own h.kinds h.sbl, hd.blk h.box (by have := h.rbl; have := h.sbl; omega), h.rbl⟩
theorem DEnv.below {sb m rb : Nat} {kv lv : Value} {ks : List Int} {ls : List ByteArray} {w0 w w' : World} (h : DEnv sb m rb kv lv ks ls w0 w) (hb : Below w.heap.size w w') : DEnv sb m rb kv lv ks ls w0 w' :=
 ⟨h.drew.below hb, h.sbl, h.names.below hb, owns_below h.kinds hb, h.box.below hb, h.rbl⟩
theorem DEnv.mono {sb m m' rb : Nat} {kv lv : Value} {ks : List Int} {ls : List ByteArray} {w0 w : World} (h : DEnv sb m rb kv lv ks ls w0 w) (hm : m ≤ m') : DEnv sb m' rb kv lv ks ls w0 w := ⟨h.drew.mono hm, h.sbl, h.names, h.kinds, h.box, h.rbl⟩
theorem DEnv.edges {sb m rb : Nat} {kv lv : Value} {ks : List Int} {ls : List ByteArray} {w0 w w' : World} (h : DEnv sb m rb kv lv ks ls w0 w) {v : Value} {n : Nat} {xs : List Value} (ho : w.ownsRow w0.heap.size 62 3 v n xs) (hg : w.grownBy w' v.ownBlock) : DEnv sb m rb kv lv ks ls w0 w' :=
 ⟨h.drew.grown hg (fun j e => (ho.lt j e).1) h.sbl, h.sbl, h.names.kept hg (own_types h.names ho (by decide)), h.kinds.kept hg (own_types h.kinds ho (by decide)), blk_kept h.box ho hg (by decide), h.rbl⟩
theorem DEnv.kind {sb m rb : Nat} {kv kv' lv : Value} {ks : List Int} {ls : List ByteArray} {w0 w w' : World} (h : DEnv sb m rb kv lv ks ls w0 w) {x : Int} (hg : w.grownBy w' kv.ownBlock) (ho : w'.ownsRow w0.heap.size 2 1 kv' (ks.length + 1) (ks.map (Value.int .i64) ++ [.int .i64 x])) : DEnv sb m rb kv' lv (ks ++ [x]) ls w0 w' :=
 ⟨h.drew.grown hg (fun j e => (h.kinds.lt j e).1) h.sbl, h.sbl, h.names.kept hg (own_types h.names h.kinds (by decide)), by rw [List.length_append, List.map_append]; exact ho, blk_kept h.box h.kinds hg (by decide), h.rbl⟩
theorem ints_litD (w : World) (B : Nat) (hB : B ≤ w.heap.size) : (w.alloc (.cells #[] 2)).ownsRow B 2 1 (.slice (some ⟨w.heap.size, 0, none⟩) 0 0) 0 [] :=
 ⟨rfl, .inr ⟨w.heap.size, 0, #[], rfl, hB, heap_alloc_new _ _, Nat.le_refl _, by simp [maxLen], rfl, rfl⟩⟩
theorem edges_litD (w : World) (B : Nat) (hB : B ≤ w.heap.size) : (w.alloc (.cells #[] 62)).ownsRow B 62 3 (.slice (some ⟨w.heap.size, 0, none⟩) 0 0) 0 [] :=
 ⟨rfl, .inr ⟨w.heap.size, 0, #[], rfl, hB, heap_alloc_new _ _, Nat.le_refl _, by simp [maxLen], rfl, rfl⟩⟩
/-- The kinds: the first states are each of a kind of their own. -/
def KindOk (bs : Nat) (ks : List Int) : Prop := (∀ x ∈ ks, 0 ≤ x ∧ x < (bs : Int)) ∧ ∀ i (h : i < ks.length), i < bs → ks[i] = (i : Int)
theorem KindOk.push {bs : Nat} {ks : List Int} (h : KindOk bs ks) {x : Int} (hx : 0 ≤ x ∧ x < (bs : Int)) (hi : ks.length < bs → x = (ks.length : Int)) : KindOk bs (ks ++ [x]) := by
 refine ⟨fun y hy => ?_, fun i hi' hb => ?_⟩
 ·rcases List.mem_append.1 hy with hy | hy
  ·exact h.1 y hy
  ·rw [List.mem_singleton] at hy; rw [hy]; exact hx
 ·by_cases hlt : i < ks.length
  ·rw [List.getElem_append_left hlt]
   exact h.2 i hlt hb
  ·have e : i = ks.length := by simp at hi'; omega
   subst e
   rw [List.getElem_concat_length rfl]
   exact hi hb
/-- An edge between states, with a name's place. -/
def EdgeIn (st nl : Nat) (e : Edge) : Prop := (0 ≤ e.src ∧ e.src < (st : Int)) ∧ (0 ≤ e.lab ∧ e.lab < (nl : Int)) ∧ 0 ≤ e.dst ∧ e.dst < (st : Int)
theorem edges_push {st nl : Nat} {es : List Edge} (h : ∀ e ∈ es, EdgeIn st nl e) {x : Edge} (hx : EdgeIn st nl x) : ∀ e ∈ es ++ [x], EdgeIn st nl e := fun e he => by
 rcases List.mem_append.1 he with he | he
 ·exact h e he
 ·rw [List.mem_singleton] at he; rw [he]; exact hx
theorem flat_push (es : List Edge) (x : Edge) : (es ++ [x]).flatMap encE = es.flatMap encE ++ encE x := by simp
/-- What a drawer hands back. -/
def RetDr (sb m M : Nat) (w : World) (e : Ending) (w' : World) : Prop :=
 ∃ (t : Lts) (lv ev : Value), e = .returned (.agg #[.int .i64 t.states, .int .i64 t.initial, lv, ev]) ∧ Drew sb m w w' ∧ OwnLts w.heap.size w' lv ev t ∧ DrawnOk M t
theorem own_cellD {w : World} {base e n g c : Nat} {xs : List Value} {k : Nat} (h : w.ownsRow base e 1 (.slice (some ⟨g, 0, none⟩) n c) n xs) (hk : k < xs.length) : w.cell? ⟨g, k, none⟩ = some xs[k] := by
 rcases h.2 with ⟨h0, -⟩ | ⟨g', cap, cur, hv, hb, hg, hn, hm, hs, ht⟩
 ·cases h0
 ·simp only [Value.slice.injEq, Option.some.injEq, Addr.mk.injEq, and_true, true_and] at hv
  obtain ⟨rfl, rfl⟩ := hv
  have h1 : (cur.toList.take (n * 1))[k]? = xs[k]? := by rw [ht]
  have hl : k < n * 1 := by have := h.1; omega
  rw [List.getElem?_take_of_lt hl, List.getElem?_eq_getElem hk, Array.getElem?_toList] at h1
  rw [cell_of_row w g k cur e (0, 0) hg]
  exact h1
theorem drew_put4 {sb n : Nat} {w w1 : World} {b : Nat} {v0 v1 v2 v3 : Value} (h : Drew sb n w w1) (hb : w.heap.size ≤ b) (hsb : sb < w.heap.size) : Drew sb n w ((((w1.setCell ⟨b, 0, none⟩ v0).setCell ⟨b, 1, none⟩ v1).setCell ⟨b, 2, none⟩ v2).setCell ⟨b, 3, none⟩ v3) :=
 h.grown (grown_trans (grown_trans (grown_trans (grown_setCell w1 ⟨b, 0, none⟩ v0) (grown_setCell _ ⟨b, 1, none⟩ v1)) (grown_setCell _ ⟨b, 2, none⟩ v2)) (grown_setCell _ ⟨b, 3, none⟩ v3)) (fun k e => by cases e; exact hb) hsb
theorem ldraw_results {w : World} {b : Nat} {v0 v1 v2 v3 : Value} {tmps : Array Value} (hc : tmps.getD 2 undef = .pointer (some ⟨b, 0, none⟩)) (hb : Blk w b [v0, v1, v2, v3] 27) :
  (results Tryz.f16 tmps).run Tryz.prog w = .ok (.agg #[v0, v1, v2, v3]) w := by
 have h0 := hb.cell 0 rfl
 have h1 := hb.cell 1 rfl
 have h2 := hb.cell 2 rfl
 have h3 := hb.cell 3 rfl
 simp only [Array.getD_eq_getD_getElem?] at hc
 simp [results, Tryz.results16, go_sem, hc, h0, h1, h2, h3, Result.andThen]

set_option maxRecDepth 100000 in
set_option maxHeartbeats 4000000 in
theorem drawOk_any (sb n : Nat) (w : World) (hs : Src sb n w) (hn : n ≤ 999000000) :
  Calls Tryz.prog 16 #[.pointer (some ⟨sb, 0, none⟩)] w (RetDr sb (n + 600) 100 w) := by
 obtain ⟨i1, hi1, hy0, hy1, hy2⟩ := info_parts info_intD
 obtain ⟨i2, hi2, hx0, hx1, hx2⟩ := info_parts info_edgeD
 have hsb := hs.lt
 obtain ⟨rb, hrb⟩ : ∃ rb, rb = w.heap.size := ⟨_, rfl⟩
 obtain ⟨W, hW⟩ : ∃ W, W = w.alloc (.cells #[.int .i64 0, .int .i64 0, .slice none 0 0, .slice none 0 0] 27) := ⟨_, rfl⟩
 have hD0 : Drew sb n w W := by rw [hW]; exact (Drew.refl hs).alloc _
 have hX0 : Blk W rb [.int .i64 0, .int .i64 0, .slice none 0 0, .slice none 0 0] 27 := by rw [hW, hrb]; exact Blk.new w _ _
 have HP1 := Lib.hid (pick_any sb n 4 W hD0.2 (by omega) (by decide))
 have HD0 := Lib.hid hD0
 have HX0 := Lib.hid hX0
 have HW := Lib.hid hW
 have HRB := Lib.hid hrb
 have hrbl : w.heap.size ≤ rb := by rw [hrb]; exact Nat.le_refl _
 clear hs hW hD0 hX0 hrb
 go_enter Tryz.func16, Tryz.ntmps16
 go_wp2_with fail
 rw [← HW.out, ← HRB.out]
 refine Calls.mono HP1.out ?_
 rintro e w1 ⟨x1, rfl, hx10, -, hx11, hd1⟩
 have hx12 := hx11 (by decide)
 obtain ⟨bs, hbs⟩ : ∃ bs : Nat, (bs : Int) = 1 + x1 := ⟨(1 + x1).toNat, by omega⟩
 have hbs1 : 1 ≤ bs := by omega
 have hbs4 : bs ≤ 4 := by omega
 have HP2 := Lib.hid (pick_any sb (n + 2) (7 - bs) w1 hd1.2 (by omega) (by omega))
 have HD1 := Lib.hid (HD0.out.trans hd1)
 have HX1 := Lib.hid (hd1.blk HX0.out (by omega))
 clear hd1 HP1 HD0 HX0 hx11 hx12
 go_wp2_with fail
 rw [← hbs]
 clear hbs hx10
 refine Calls.mono HP2.out ?_
 rintro e w2 ⟨x2, rfl, hx20, -, hx21, hd2⟩
 have hx22 := hx21 (by omega)
 obtain ⟨st, hst⟩ : ∃ st : Nat, (st : Int) = bs + x2 := ⟨(bs + x2).toNat, by omega⟩
 have hst1 : bs ≤ st := by omega
 have hst6 : st ≤ 6 := by omega
 have HNM := Lib.hid (drawNames_any sb (n + 2 + 2) w2 hd2.2 (by omega))
 have HD2 := Lib.hid (HD1.out.trans hd2)
 have HX2 := Lib.hid (hd2.blk HX1.out (by omega))
 clear hd2 HP2 HD1 HX1 hx21 hx22
 go_wp2_with fail
 rw [← hst]
 clear hst hx20
 refine Calls.mono HNM.out ?_
 rintro e w3 ⟨lv, ls, rfl, hd3, hlo, hl2, hl7, hlm⟩
 obtain ⟨la, lc, rfl, -, -⟩ := owns_slice hlo
 have hs2 : w.heap.size ≤ w2.heap.size := HD2.out.size
 have hs3 : w.heap.size ≤ w3.heap.size := Nat.le_trans hs2 hd3.size
 obtain ⟨W3, hW3⟩ : ∃ W3, W3 = w3.alloc (.cells #[] 2) := ⟨_, rfl⟩
 have hb3 : Below w3.heap.size w3 W3 := by rw [hW3]; exact (Below.refl _ _).alloc (Nat.le_refl _) _
 have HE3 : Hid (DEnv sb (n + 14) rb (.slice (some ⟨w3.heap.size, 0, none⟩) 0 0) (.slice la ls.length lc) [] ls w W3) := by
  refine ⟨((HD2.out.trans hd3).below hb3).mono (by omega), hsb, ((OwnStrs.lower hlo hs2).below hb3), ?_, (hd3.blk HX2.out (by omega)).below hb3, hrbl⟩
  rw [hW3]
  exact ints_litD w3 _ hs3
 have HLM := Lib.hid hlm
 have HW3 := Lib.hid hW3
 clear hd3 hlo hlm hW3 hb3 HNM HD2 HX2
 go_wp2_with fail
 rw [← HW3.out]
 go_loopw [6, 7] (fun v6 v7 wr => ∃ (ks : List Int) (p6 : Option Addr) (c6 : Nat), v6 = .slice p6 ks.length c6 ∧ v7 = .int .i64 ks.length ∧ ks.length ≤ st ∧ DEnv sb (n + 14 + 2 * ks.length) rb (.slice p6 ks.length c6) (.slice la ls.length lc) ks ls w wr ∧ KindOk bs ks) (fun _ v7 _ => st - (intOf v7).toNat)
 case atStart => exact ⟨[], _, _, rfl, rfl, Nat.zero_le _, HE3.out, ⟨(fun x h => by cases h), fun i h => absurd h (Nat.not_lt_zero _)⟩⟩
 case round =>
  clear HE3
  obtain ⟨ks, p6, c6, rfl, rfl, hkl, henv, hko⟩ := hrel
  obtain ⟨wC, rfl⟩ : ∃ wC : World, wC = wr := ⟨_, rfl⟩
  have HE := Lib.hid henv
  have HK := Lib.hid hko
  have hszC : w.heap.size ≤ wC.heap.size := henv.drew.size
  clear henv hko
  by_cases hlt : ks.length < st
  ·by_cases hlb : ks.length < bs
   ·go_wp2_with (at_builtin; refine wpList_append_own _ rfl _ _ 32 rfl w.heap.size 2 i1 (.int .i64 0) 1 8 Tryz.underlying32 hi1 hy0 hy1 hy2 rfl (by decide) _ _ _ rfl (HE.out.kinds.alloc _) ⟨wC.heap.size, 0, none⟩ 1 1 [.int .i64 ks.length] rfl rfl ?c1 ?c2 ?c3 ?c4 ?c5 ?_)
    case c1 => exact World.news_of_block (cs := #[.int .i64 ks.length]) (t := 2) (fr := (0, 0)) (heap_alloc_new _ _)
    case c2 => intro u hu; simp at hu; subst hu; rfl
    case c3 => simp [maxLen]; omega
    case c4 => omega
    case c5 => simp; omega
    intro v' w4 ho4 hg4 _
    obtain ⟨p7, c7, rfl, -, -⟩ := owns_slice ho4
    have HE4 : Hid (DEnv sb (n + 14 + 2 * (ks ++ [(ks.length : Int)]).length) rb (.slice p7 (ks.length + 1) c7) (.slice la ls.length lc) (ks ++ [(ks.length : Int)]) ls w w4) := ((HE.out.below ((Below.refl _ _).alloc (Nat.le_refl _) _)).kind hg4 ho4).mono (by simp; omega)
    have HK4 : Hid (KindOk bs (ks ++ [(ks.length : Int)])) := HK.out.push ⟨by omega, by omega⟩ (fun _ => rfl)
    clear ho4 hg4
    go_wp2
    go_roundw
    case rel => exact ⟨ks ++ [(ks.length : Int)], p7, c7, by simp, by simp, by simp; omega, by simpa using HE4.out, HK4.out⟩
    case measure => simp [intOf]; omega
   ·have HPK := Lib.hid (pick_any sb (n + 14 + 2 * ks.length) bs wC HE.out.drew.2 (by omega) (by omega))
    go_wp2_with fail
    refine Calls.mono HPK.out ?_
    rintro e w4 ⟨x, rfl, hx0', -, hx1', hd4⟩
    have hxb := hx1' (by omega)
    have HE4 := Lib.hid (HE.out.then hd4)
    have hs4 : w.heap.size ≤ w4.heap.size := HE4.out.drew.size
    clear hd4 HPK HE hx1'
    go_wp2_with (at_builtin; refine wpList_append_own _ rfl _ _ 32 rfl w.heap.size 2 i1 (.int .i64 0) 1 8 Tryz.underlying32 hi1 hy0 hy1 hy2 rfl (by decide) _ _ _ rfl (HE4.out.kinds.alloc _) ⟨w4.heap.size, 0, none⟩ 1 1 [.int .i64 x] rfl rfl ?c1 ?c2 ?c3 ?c4 ?c5 ?_)
    case c1 => exact World.news_of_block (cs := #[.int .i64 x]) (t := 2) (fr := (0, 0)) (heap_alloc_new _ _)
    case c2 => intro u hu; simp at hu; subst hu; rfl
    case c3 => simp [maxLen]; omega
    case c4 => omega
    case c5 => simp; omega
    intro v' w5 ho5 hg5 _
    obtain ⟨p7, c7, rfl, -, -⟩ := owns_slice ho5
    have HE5 : Hid (DEnv sb (n + 14 + 2 * (ks ++ [x]).length) rb (.slice p7 (ks.length + 1) c7) (.slice la ls.length lc) (ks ++ [x]) ls w w5) := ((HE4.out.below ((Below.refl _ _).alloc (Nat.le_refl _) _)).kind hg5 ho5).mono (by simp; omega)
    have HK5 : Hid (KindOk bs (ks ++ [x])) := HK.out.push ⟨hx0', hxb⟩ (fun h => absurd h hlb)
    clear ho5 hg5
    go_wp2
    go_roundw
    case rel => exact ⟨ks ++ [x], p7, c7, by simp, by simp, by simp; omega, by simpa using HE5.out, HK5.out⟩
    case measure => simp [intOf]; omega
  ·have hkst : ks.length = st := by omega
   have HKST := Lib.hid hkst
   obtain ⟨g6, cap6, e6, -, -⟩ := HE.out.kinds.form (by omega)
   simp only [Value.slice.injEq, true_and] at e6
   obtain ⟨rfl, rfl⟩ := e6
   obtain ⟨W5, hW5⟩ : ∃ W5, W5 = wC.alloc (.cells #[] 62) := ⟨_, rfl⟩
   have HE5 : Hid (DEnv sb (n + 14 + 2 * ks.length) rb (.slice (some ⟨g6, 0, none⟩) ks.length c6) (.slice la ls.length lc) ks ls w W5) := HE.out.below (by rw [hW5]; exact (Below.refl _ _).alloc (Nat.le_refl _) _)
   have HO5 : Hid (W5.ownsRow w.heap.size 62 3 (.slice (some ⟨wC.heap.size, 0, none⟩) 0 0) 0 []) := by unfold Hid; rw [hW5]; exact edges_litD wC _ hszC
   have HPM := Lib.hid (pick_any sb (n + 14 + 2 * ks.length) (2 + 2 * bs) W5 HE5.out.drew.2 (by omega) (by omega))
   have HW5 := Lib.hid hW5
   clear hW5 HE
   go_wp2_with fail
   rw [← HW5.out]
   refine Calls.mono HPM.out ?_
   rintro e w6 ⟨m0, rfl, hm0, -, hm1, hd6⟩
   have hm2 := hm1 (by omega)
   obtain ⟨m, rfl⟩ : ∃ m : Nat, m0 = (m : Int) := ⟨m0.toNat, by omega⟩
   have HE6 : Hid (DEnv sb (n + 40 + 40 * (10 - m)) rb (.slice (some ⟨g6, 0, none⟩) ks.length c6) (.slice la ls.length lc) ks ls w w6) := (HE5.out.then hd6).mono (by omega)
   have HO6 := Lib.hid (hd6.own HO5.out hsb)
   have hm10 : m ≤ 9 := by omega
   clear hd6 HPM HE5 HO5 hm1 hm2 hm0 hkst
   go_wp2_with fail
   go_loopw [8, 9] (fun v8 v9 wr => ∃ (q : Nat) (es : List Edge) (p8 : Option Addr) (c8 : Nat), v8 = .slice p8 es.length c8 ∧ v9 = .int .i64 q ∧ q ≤ 9 ∧ es.length + 6 * q ≤ 54 ∧ DEnv sb (n + 40 + 40 * (10 - q)) rb (.slice (some ⟨g6, 0, none⟩) ks.length c6) (.slice la ls.length lc) ks ls w wr ∧ wr.ownsRow w.heap.size 62 3 (.slice p8 es.length c8) es.length (es.flatMap encE) ∧ ∀ e ∈ es, EdgeIn st ls.length e) (fun _ v9 _ => (intOf v9).toNat)
   case atStart => exact ⟨m, [], _, _, rfl, rfl, by omega, by simp; omega, HE6.out, HO6.out, fun e h => by cases h⟩
   case round =>
    clear HE6 HO6
    obtain ⟨q, es, p8, c8, rfl, rfl, hq, hel, henv, ho, hgood⟩ := hrel
    obtain ⟨wD, rfl⟩ : ∃ wD : World, wD = wr := ⟨_, rfl⟩
    have HE := Lib.hid henv
    have HO := Lib.hid ho
    have HG := Lib.hid hgood
    have hszD : w.heap.size ≤ wD.heap.size := henv.drew.size
    clear henv ho hgood
    by_cases hq0 : 0 < q
    ·have HPa := Lib.hid (pick_any sb (n + 40 + 40 * (10 - q)) bs wD HE.out.drew.2 (by omega) (by omega))
     go_wp2_with fail
     refine Calls.mono HPa.out ?_
     rintro e w7 ⟨fr, rfl, hf0, -, hf1, hd7⟩
     have hf2 := hf1 (by omega)
     have HE7 := Lib.hid (HE.out.then hd7)
     have HO7 := Lib.hid (hd7.own HO.out hsb)
     have HPb := Lib.hid (pick_any sb (n + 40 + 40 * (10 - q) + 2) ls.length w7 hd7.2 (by omega) (by omega))
     clear hd7 HPa HE HO hf1
     go_wp2_with fail
     refine Calls.mono HPb.out ?_
     rintro e w8 ⟨lab, rfl, hb0, -, hb1, hd8⟩
     have hb2 := hb1 (by omega)
     have HE8 := Lib.hid (HE7.out.then hd8)
     have HO8 := Lib.hid (hd8.own HO7.out hsb)
     have HPc := Lib.hid (pick_any sb (n + 40 + 40 * (10 - q) + 2 + 2) bs w8 hd8.2 (by omega) (by omega))
     clear hd8 HPb HE7 HO7 hb1
     go_wp2_with fail
     refine Calls.mono HPc.out ?_
     rintro e w9 ⟨tt, rfl, ht0, -, ht1, hd9⟩
     have ht2 := ht1 (by omega)
     have HE9 := Lib.hid (HE8.out.then hd9)
     have HO9 := Lib.hid (hd9.own HO8.out hsb)
     clear hd9 HPc HE8 HO8 ht1
     go_wp2_with fail
     go_loopw [8, 13] (fun v8 v13 wr => ∃ (k : Nat) (fs : List Edge) (p8 : Option Addr) (c8 : Nat), v8 = .slice p8 fs.length c8 ∧ v13 = .int .i64 k ∧ k ≤ st ∧ fs.length ≤ es.length + k ∧ DEnv sb (n + 40 + 40 * (10 - q) + 6 + 2 * k) rb (.slice (some ⟨g6, 0, none⟩) ks.length c6) (.slice la ls.length lc) ks ls w wr ∧ wr.ownsRow w.heap.size 62 3 (.slice p8 fs.length c8) fs.length (fs.flatMap encE) ∧ ∀ e ∈ fs, EdgeIn st ls.length e) (fun _ v13 _ => st - (intOf v13).toNat)
     case atStart => exact ⟨0, es, p8, c8, rfl, rfl, Nat.zero_le _, by omega, HE9.out, HO9.out, HG.out⟩
     case round =>
      clear HE9 HO9 HG
      obtain ⟨k, fs, p9, c9, rfl, rfl, hk, hfl, henv, ho, hgood⟩ := hrel
      obtain ⟨wE, rfl⟩ : ∃ wE : World, wE = wr := ⟨_, rfl⟩
      have HE := Lib.hid henv
      have HO := Lib.hid ho
      have HG := Lib.hid hgood
      have hszE : w.heap.size ≤ wE.heap.size := henv.drew.size
      clear henv ho hgood
      by_cases hlt : k < st
      ·have hkk : k < ks.length := by have := HKST.out; omega
       have cel6 := own_cellD (k := k) HE.out.kinds (by simpa using hkk)
       rw [List.getElem_map] at cel6
       obtain ⟨kv, hkv⟩ : ∃ kv, kv = ks[k] := ⟨_, rfl⟩
       rw [← hkv] at cel6
       clear hkv
       by_cases hkf : kv = fr
       ·subst hkf
        obtain ⟨W9, hW9⟩ : ∃ W9, W9 = wE.alloc (.cells #[] 2) := ⟨_, rfl⟩
        have HB9 : Hid (Below wE.heap.size wE W9) := by unfold Hid; rw [hW9]; exact (Below.refl _ _).alloc (Nat.le_refl _) _
        have HO9 : Hid (W9.ownsRow wE.heap.size 2 1 (.slice (some ⟨wE.heap.size, 0, none⟩) 0 0) 0 []) := by unfold Hid; rw [hW9]; exact ints_litD wE _ (Nat.le_refl _)
        have HW9 := Lib.hid hW9
        clear hW9
        go_wp2_with fail
        rw [← HW9.out]
        clear cel6
        go_loopw [14, 15] (fun v14 v15 wr => ∃ (j : Nat) (al : List Int) (pa : Option Addr) (ca : Nat), v14 = .slice pa al.length ca ∧ v15 = .int .i64 j ∧ j ≤ st ∧ al.length ≤ j ∧ Below wE.heap.size wE wr ∧ wr.ownsRow wE.heap.size 2 1 (.slice pa al.length ca) al.length (al.map (Value.int .i64)) ∧ (∀ x ∈ al, 0 ≤ x ∧ x < (st : Int)) ∧ (tt < (j : Int) → 0 < al.length)) (fun _ v15 _ => st - (intOf v15).toNat)
        case atStart => exact ⟨0, [], _, _, rfl, rfl, Nat.zero_le _, Nat.le_refl _, HB9.out, HO9.out, (fun x h => by cases h), fun h => by omega⟩
        case round =>
         clear HB9 HO9
         obtain ⟨j, al, pa, ca, rfl, rfl, hj, hal, hb, hoa, hin, hne⟩ := hrel
         obtain ⟨wF, rfl⟩ : ∃ wF : World, wF = wr := ⟨_, rfl⟩
         have HB := Lib.hid hb
         have HA := Lib.hid hoa
         have HIN := Lib.hid hin
         have HNE := Lib.hid hne
         have hszF : wE.heap.size ≤ wF.heap.size := hb.size
         clear hb hoa hin hne
         by_cases hjl : j < st
         ·have hjj : j < ks.length := by have := HKST.out; omega
          have c7 := own_cellD (k := j) (owns_below HE.out.kinds HB.out) (by simpa using hjj)
          rw [List.getElem_map] at c7
          have HKJ : Hid (tt = (j : Int) → ks[j] = tt) := fun e => by rw [e]; exact HK.out.2 j hjj (by omega)
          obtain ⟨kj, hkj⟩ : ∃ kj, kj = ks[j] := ⟨_, rfl⟩
          rw [← hkj] at c7 HKJ
          clear hkj
          by_cases hkt : kj = tt
          ·go_wp2_with (at_builtin; refine wpList_append_own _ rfl _ _ 32 rfl wE.heap.size 2 i1 (.int .i64 0) 1 8 Tryz.underlying32 hi1 hy0 hy1 hy2 rfl (by decide) _ _ _ rfl (HA.out.alloc _) ⟨wF.heap.size, 0, none⟩ 1 1 [.int .i64 j] rfl rfl ?c1 ?c2 ?c3 ?c4 ?c5 ?_)
           case c1 => exact World.news_of_block (cs := #[.int .i64 j]) (t := 2) (fr := (0, 0)) (heap_alloc_new _ _)
           case c2 => intro u hu; simp at hu; subst hu; rfl
           case c3 => simp [maxLen]; omega
           case c4 => omega
           case c5 => simp; omega
           intro v' w4 ho4 hg4 _
           obtain ⟨p7, c77, rfl, -, -⟩ := owns_slice ho4
           have HB4 : Hid (Below wE.heap.size wE w4) := (HB.out.alloc hszF _).grown hg4 (by simp; omega) (fun b e => (HA.out.lt b e).1)
           have HA4 : Hid (w4.ownsRow wE.heap.size 2 1 (.slice p7 (al ++ [(j : Int)]).length c77) (al ++ [(j : Int)]).length ((al ++ [(j : Int)]).map (Value.int .i64))) := by
            unfold Hid
            rw [List.length_append, List.map_append]
            exact ho4
           clear ho4 hg4 c7
           go_wp2
           go_roundw
           case rel => exact ⟨j + 1, al ++ [(j : Int)], p7, c77, by simp, by go_num, by omega, by simp; omega, HB4.out, HA4.out, (fun x hx => by
            rcases List.mem_append.1 hx with hx | hx
            ·exact HIN.out x hx
            ·rw [List.mem_singleton] at hx; omega), fun _ => by simp⟩
           case measure => simp [intOf]; omega
          ·go_wp2
           go_roundw
           case rel => exact ⟨j + 1, al, pa, ca, rfl, by go_num, by omega, by omega, HB.out, HA.out, HIN.out, fun h => by
            by_cases e : tt = (j : Int)
            ·exact absurd (HKJ.out e) hkt
            ·exact HNE.out (by omega)⟩
           case measure => simp [intOf]; omega
         ·have h0 : 0 < al.length := HNE.out (by omega)
          have HAM := Lib.hid (among_any sb (n + 40 + 40 * (10 - q) + 6 + 2 * k) wE.heap.size (.slice pa al.length ca) al wF (HE.out.drew.2.below HB.out) (by omega) (SliceK.of_owns (enc := encI) (e := 2) encI_len rfl (by rw [flat_encI]; exact HA.out)) (by omega) h0 (by omega))
          go_wp2_with fail
          refine Calls.mono HAM.out ?_
          rintro e wG ⟨x, hxm, rfl, hdG⟩
          have hx := HIN.out x hxm
          have HEG : Hid (DEnv sb (n + 40 + 40 * (10 - q) + 6 + 2 * (k + 1)) rb (.slice (some ⟨g6, 0, none⟩) ks.length c6) (.slice la ls.length lc) ks ls w wG) := ((HE.out.below HB.out).then hdG).mono (by omega)
          have HOG := Lib.hid (hdG.own (owns_below HO.out HB.out) hsb)
          have hsG : w.heap.size ≤ wG.heap.size := HEG.out.drew.size
          clear hdG HAM hxm HE HO HB HA HIN HNE
          go_wp2_with (at_builtin; refine wpList_append_own _ rfl _ _ 25 rfl w.heap.size 62 i2 (.agg #[.int .i64 0, .int .i64 0, .int .i64 0]) 3 24 Tryz.underlying25 hi2 hx0 hx1 hx2 rfl (by decide) _ _ _ rfl (HOG.out.alloc _) ⟨wG.heap.size, 0, none⟩ 1 1 (encE ⟨(k : Int), lab, x⟩) rfl rfl ?c1 ?c2 ?c3 ?c4 ?c5 ?_)
          case c1 => exact World.news_of_block (cs := #[.int .i64 k, .int .i64 lab, .int .i64 x]) (t := 62) (fr := (0, 0)) (heap_alloc_new _ _)
          case c2 => intro u hu; simp [encE] at hu; rcases hu with rfl | rfl | rfl <;> rfl
          case c3 => simp [maxLen]; omega
          case c4 => omega
          case c5 => simp; omega
          intro v' w4 ho4 hg4 _
          obtain ⟨p7, c77, rfl, -, -⟩ := owns_slice ho4
          have HE4 : Hid (DEnv sb (n + 40 + 40 * (10 - q) + 6 + 2 * (k + 1)) rb (.slice (some ⟨g6, 0, none⟩) ks.length c6) (.slice la ls.length lc) ks ls w w4) := (HEG.out.below ((Below.refl _ _).alloc (Nat.le_refl _) _)).edges (HOG.out.alloc _) hg4
          have HO4 : Hid (w4.ownsRow w.heap.size 62 3 (.slice p7 (fs ++ [(⟨(k : Int), lab, x⟩ : Edge)]).length c77) (fs ++ [(⟨(k : Int), lab, x⟩ : Edge)]).length ((fs ++ [(⟨(k : Int), lab, x⟩ : Edge)]).flatMap encE)) := by
           unfold Hid
           rw [List.length_append, flat_push]
           exact ho4
          have HG4 : Hid (∀ e ∈ fs ++ [(⟨(k : Int), lab, x⟩ : Edge)], EdgeIn st ls.length e) := edges_push HG.out ⟨⟨by show (0 : Int) ≤ (k : Int); omega, by show (k : Int) < (st : Int); omega⟩, ⟨hb0, hb2⟩, hx⟩
          clear ho4 hg4
          go_wp2
          go_roundw
          case rel => exact ⟨k + 1, _, p7, c77, by simp, by go_num, by omega, by simp; omega, HE4.out, HO4.out, HG4.out⟩
          case measure => simp [intOf]; omega
       ·go_wp2
        go_roundw
        case rel => exact ⟨k + 1, fs, p9, c9, rfl, by go_num, by omega, by omega, HE.out.mono (by omega), HO.out, HG.out⟩
        case measure => simp [intOf]; omega
      ·go_wp2
       go_roundw
       case rel => exact ⟨q - 1, fs, p9, c9, rfl, by congr 1; omega, by omega, by omega, HE.out.mono (by omega), HO.out, HG.out⟩
       case measure => simp [intOf]; omega
    ·have HON := Lib.hid (one_any sb (n + 40 + 40 * (10 - q)) 3 wD HE.out.drew.2 (by omega) (by decide))
     go_wp2_with fail
     refine Calls.mono HON.out ?_
     rintro e w7 ⟨b, rfl, hd7⟩
     have HE7 := Lib.hid (HE.out.then hd7)
     have HO7 := Lib.hid (hd7.own HO.out hsb)
     clear hd7 HON HE HO
     cases b
     ·have HPI := Lib.hid (pick_any sb (n + 40 + 40 * (10 - q) + 2) st w7 HE7.out.drew.2 (by omega) (by omega))
      go_wp2_with fail
      refine Calls.mono HPI.out ?_
      rintro e wy ⟨ini, rfl, hin0, -, hin1, hdy⟩
      have hin2 := hin1 (by omega)
      have HEy := Lib.hid (HE7.out.then hdy)
      have HOy := Lib.hid (hdy.own HO7.out hsb)
      have hsy : w.heap.size ≤ wy.heap.size := HEy.out.drew.size
      have HMK := Lib.hid (l11Make_any w.heap.size w.heap.size st ini ls (es) (.slice la ls.length lc) (.slice p8 _ c8) wy (SliceK.of_owns (enc := encS) (e := 9) encS_len rfl (by rw [flat_encS]; exact HEy.out.names)) (SliceK.of_owns (e := 62) encE_len rfl HOy.out) (by omega) (by omega) (fun e he => (HG.out e he).2.1))
      clear hdy HPI hin1
      go_wp2_with fail
      refine Calls.mono HMK.out ?_
      rintro e wx ⟨hbx, lv9, ev9, R, rfl, hol, hoe, hmk⟩
      obtain ⟨la9, lc9, rfl, -, -⟩ := owns_slice hol
      obtain ⟨ea9, ec9, rfl, -, -⟩ := owns_slice hoe
      have HEx := Lib.hid (HEy.out.below hbx)
      have HOL := Lib.hid (own_lower hol hsy)
      have HOE := Lib.hid (own_lower hoe hsy)
      have HDR : Hid (DrawnOk 100 ⟨st, ini, labSet (tauT :: ls), R⟩) := drawn_of_mk hmk (by omega) HLM.out (by omega) ⟨hin0, hin2⟩ (fun e he => HG.out e he) (by omega)
      have r0 := HEx.out.box.cell 0 rfl
      have r1 := HEx.out.box.cell 1 rfl
      have r2 := HEx.out.box.cell 2 rfl
      have r3 := HEx.out.box.cell 3 rfl
      have s0 := HEx.out.box.frozen 0
      have s1 := HEx.out.box.frozen 1
      have s2 := HEx.out.box.frozen 2
      have s3 := HEx.out.box.frozen 3
      clear hbx hol hoe hmk HMK hin0 hin2
      go_wp2
      refine bodyPost_ret (ldraw_results rfl (put4D HEx.out.box)) rfl ?_
      exact ⟨_, _, _, rfl, (drew_put4 HEx.out.drew hrbl hsb).mono (by omega), ⟨own_put4D HEx.out.box HOL.out (by decide), own_put4D HEx.out.box HOE.out (by decide)⟩, HDR.out⟩
     ·have HPa := Lib.hid (pick_any sb (n + 40 + 40 * (10 - q) + 2) st w7 HE7.out.drew.2 (by omega) (by omega))
      go_wp2_with fail
      refine Calls.mono HPa.out ?_
      rintro e w8 ⟨fr, rfl, hf0, -, hf1, hd8⟩
      have hf2 := hf1 (by omega)
      have HE8 := Lib.hid (HE7.out.then hd8)
      have HO8 := Lib.hid (hd8.own HO7.out hsb)
      have HPb := Lib.hid (pick_any sb (n + 40 + 40 * (10 - q) + 2 + 2) ls.length w8 hd8.2 (by omega) (by omega))
      clear hd8 HPa HE7 HO7 hf1
      go_wp2_with fail
      refine Calls.mono HPb.out ?_
      rintro e w9 ⟨lab, rfl, hb0, -, hb1, hd9⟩
      have hb2 := hb1 (by omega)
      have HE9 := Lib.hid (HE8.out.then hd9)
      have HO9 := Lib.hid (hd9.own HO8.out hsb)
      have HPc := Lib.hid (pick_any sb (n + 40 + 40 * (10 - q) + 2 + 2 + 2) st w9 hd9.2 (by omega) (by omega))
      clear hd9 HPb HE8 HO8 hb1
      go_wp2_with fail
      refine Calls.mono HPc.out ?_
      rintro e wA ⟨tt, rfl, ht0, -, ht1, hdA⟩
      have ht2 := ht1 (by omega)
      have HEA := Lib.hid (HE9.out.then hdA)
      have HOA := Lib.hid (hdA.own HO9.out hsb)
      have hsA : w.heap.size ≤ wA.heap.size := HEA.out.drew.size
      clear hdA HPc HE9 HO9 ht1
      go_wp2_with (at_builtin; refine wpList_append_own _ rfl _ _ 25 rfl w.heap.size 62 i2 (.agg #[.int .i64 0, .int .i64 0, .int .i64 0]) 3 24 Tryz.underlying25 hi2 hx0 hx1 hx2 rfl (by decide) _ _ _ rfl (HOA.out.alloc _) ⟨wA.heap.size, 0, none⟩ 1 1 (encE ⟨fr, lab, tt⟩) rfl rfl ?c1 ?c2 ?c3 ?c4 ?c5 ?_)
      case c1 => exact World.news_of_block (cs := #[.int .i64 fr, .int .i64 lab, .int .i64 tt]) (t := 62) (fr := (0, 0)) (heap_alloc_new _ _)
      case c2 => intro u hu; simp [encE] at hu; rcases hu with rfl | rfl | rfl <;> rfl
      case c3 => simp [maxLen]; omega
      case c4 => omega
      case c5 => simp; omega
      intro v' w4 ho4 hg4 _
      obtain ⟨pz, cz, rfl, -, -⟩ := owns_slice ho4
      have HE4 := Lib.hid ((HEA.out.below ((Below.refl _ _).alloc (Nat.le_refl _) _)).edges (HOA.out.alloc _) hg4)
      have HO4 : Hid (w4.ownsRow w.heap.size 62 3 (.slice pz (es.length + 1) cz) (es ++ [(⟨fr, lab, tt⟩ : Edge)]).length ((es ++ [(⟨fr, lab, tt⟩ : Edge)]).flatMap encE)) := by
       unfold Hid
       rw [List.length_append, flat_push]
       exact ho4
      have HG4 : Hid (∀ e ∈ es ++ [(⟨fr, lab, tt⟩ : Edge)], EdgeIn st ls.length e) := edges_push HG.out ⟨⟨hf0, hf2⟩, ⟨hb0, hb2⟩, ht0, ht2⟩
      clear ho4 hg4
      have HPI := Lib.hid (pick_any sb (n + 40 + 40 * (10 - q) + 2 + 2 + 2 + 2) st w4 HE4.out.drew.2 (by omega) (by omega))
      go_wp2_with fail
      refine Calls.mono HPI.out ?_
      rintro e wy ⟨ini, rfl, hin0, -, hin1, hdy⟩
      have hin2 := hin1 (by omega)
      have HEy := Lib.hid (HE4.out.then hdy)
      have HOy := Lib.hid (hdy.own HO4.out hsb)
      have hsy : w.heap.size ≤ wy.heap.size := HEy.out.drew.size
      have HMK := Lib.hid (l11Make_any w.heap.size w.heap.size st ini ls (es ++ [(⟨fr, lab, tt⟩ : Edge)]) (.slice la ls.length lc) (.slice pz _ cz) wy (SliceK.of_owns (enc := encS) (e := 9) encS_len rfl (by rw [flat_encS]; exact HEy.out.names)) (SliceK.of_owns (e := 62) encE_len rfl HOy.out) (by omega) (by simp; omega) (fun e he => (HG4.out e he).2.1))
      clear hdy HPI hin1
      go_wp2_with fail
      refine Calls.mono HMK.out ?_
      rintro e wx ⟨hbx, lv9, ev9, R, rfl, hol, hoe, hmk⟩
      obtain ⟨la9, lc9, rfl, -, -⟩ := owns_slice hol
      obtain ⟨ea9, ec9, rfl, -, -⟩ := owns_slice hoe
      have HEx := Lib.hid (HEy.out.below hbx)
      have HOL := Lib.hid (own_lower hol hsy)
      have HOE := Lib.hid (own_lower hoe hsy)
      have HDR : Hid (DrawnOk 100 ⟨st, ini, labSet (tauT :: ls), R⟩) := drawn_of_mk hmk (by omega) HLM.out (by omega) ⟨hin0, hin2⟩ (fun e he => HG4.out e he) (by simp; omega)
      have r0 := HEx.out.box.cell 0 rfl
      have r1 := HEx.out.box.cell 1 rfl
      have r2 := HEx.out.box.cell 2 rfl
      have r3 := HEx.out.box.cell 3 rfl
      have s0 := HEx.out.box.frozen 0
      have s1 := HEx.out.box.frozen 1
      have s2 := HEx.out.box.frozen 2
      have s3 := HEx.out.box.frozen 3
      clear hbx hol hoe hmk HMK hin0 hin2
      go_wp2
      refine bodyPost_ret (ldraw_results rfl (put4D HEx.out.box)) rfl ?_
      exact ⟨_, _, _, rfl, (drew_put4 HEx.out.drew hrbl hsb).mono (by omega), ⟨own_put4D HEx.out.box HOL.out (by decide), own_put4D HEx.out.box HOE.out (by decide)⟩, HDR.out⟩

end Go.Proofs.YtifoinannefcpaaGreatDoor

namespace Go.Proofs.YtifoinannefcpaaGreatDoor
open Go Go.RowKit

theorem flat_lenC {α : Type} {k : Nat} {enc : α → List Value} (hk : ∀ x, (enc x).length = k) (xs : List α) : (xs.flatMap enc).length = xs.length * k := by
 induction xs with
 | nil => simp
 | cons x r ih => rw [List.flatMap_cons, List.length_append, hk, ih, List.length_cons, Nat.succ_mul]; omega
theorem flat_at {α : Type} {k : Nat} {enc : α → List Value} (hk : ∀ x, (enc x).length = k) : ∀ (xs : List α) (i : Nat) (h : i < xs.length) (j : Nat), j < k → (xs.flatMap enc)[i * k + j]? = (enc xs[i])[j]?
 | x :: r, 0, _, j, hj => by rw [List.flatMap_cons, Nat.zero_mul, Nat.zero_add, List.getElem?_append_left (by rw [hk]; exact hj)]; rfl
 | x :: r, i + 1, h, j, hj => by
  rw [List.flatMap_cons, List.getElem?_append_right (by rw [hk, Nat.succ_mul]; omega), hk, show (i + 1) * k + j - k = i * k + j from by rw [Nat.succ_mul]; omega]
  exact flat_at hk r i (by simpa using h) j hj
theorem run_append_zero {P : Program} {w : World} (base : Nat) (t ty e : TypeId) (i : TypeInfo) (size : Nat) (ht : P.underlying t = some (.slice e)) (hi : P.info? e = some i)
  (v : Value) (n : Nat) (xs : List Value) (hown : w.ownsRow base e size v n xs) (c : Nat) :
  (Builtin.append_ #[t, t] ty #[v, .slice none 0 c]).run P w = .ok v w := by
 rcases hown.2 with ⟨rfl, rfl⟩ | ⟨g, cap, cur, rfl, _, _, hnc, _⟩
 ·simp [Builtin.append_, run_underlying ht, sizeOf, typeInfo, hi, Builtin.lenOf, Builtin.firstCells]
 ·simp [Builtin.append_, run_underlying ht, sizeOf, typeInfo, hi, Builtin.lenOf, Builtin.firstCells, hnc, storeCells]

theorem append_slice {α : Type} {k : Nat} {enc : α → List Value} (hk : ∀ x, (enc x).length = k) (h1 : ∀ x, ∀ u ∈ enc x, u.oneCell' = true) (h0 : 0 < k)
  {P : Program} {ops : Array Oper} {rest : List Oper} {o : Oper} {a : Act} {w : World} {Q : Exit → Act → World → Prop} (hgd : o.guard = none) (s x : Operand) (t : TypeId)
  (ho : o.op = .call { callee := .builtin .append, args := #[s, x], argTypes := #[t, t] })
  (base : Nat) (e : TypeId) (i : TypeInfo) (z : Value) (bytes : Nat) (ht : P.underlying t = some (.slice e)) (hi : P.info? e = some i) (hz : i.zero = some z)
  (hsize : i.size = k) (hby : i.bytes = bytes) (hzs : z.cells.size = k) (v : Value) (n : Nat) (xs : List Value) (hs : a.eval s = v) (hown : w.ownsRow base e k v n xs)
  (lo : Nat) (ys : List α) (hsrc : SliceK k enc lo w (a.eval x) ys) (h63 : n + ys.length ≤ maxLen) (hbytes : (n + ys.length) * bytes ≤ 140737488355328) (hbase : base ≤ w.heap.size)
  (h : ∀ v' w', w'.ownsRow base e k v' (n + ys.length) (xs ++ ys.flatMap enc) → w.grownBy w' v.ownBlock → wpList P ops Q rest (a.put o.dst v') w') :
  wpList P ops Q (o :: rest) a w := by
 obtain ⟨ad, cap, hx, -, -, hrow⟩ := hsrc
 rcases hrow with hz0 | ⟨b, off, rfl, -, hb, hc⟩
 ·obtain rfl : ys = [] := List.eq_nil_of_length_eq_zero hz0
  cases ad with
  | none =>
   refine wpList_plain hgd fun K hK => ?_
   have hrun := run_append_zero (P := P) (w := w) base t o.type e i k ht hi v n xs hown cap
   unfold Oper.wp
   simp [execOp, ho, resolve, invoke, builtin, hs, hx, hrun, Result.andThen]
   exact hK _ _ (h v w (by simpa using hown) (grown_refl _ _))
  | some ad =>
   exact wpList_append_own w hgd s x t ho base e i z k bytes ht hi hz hsize hby hzs h0 v n xs hs hown ad 0 cap [] hx (by simp) (by simp) (by simp) h63 hbytes hbase (fun v' w' k1 k2 _ => h v' w' (by simpa using k1) k2)
 ·refine wpList_append_own w hgd s x t ho base e i z k bytes ht hi hz hsize hby hzs h0 v n xs hs hown ⟨b, off, none⟩ ys.length cap (ys.flatMap enc) hx (flat_lenC hk ys) ?_ ?_ h63 hbytes hbase (fun v' w' k1 k2 _ => h v' w' k1 k2)
  ·intro j u hu
   have hj : j < ys.length * k := by rw [← flat_lenC hk]; exact (List.getElem?_eq_some_iff.1 hu).1
   have hi' : j / k < ys.length := (Nat.div_lt_iff_lt_mul h0).2 hj
   have hr : j % k < k := Nat.mod_lt _ h0
   have e0 : j / k * k + j % k = j := by rw [Nat.mul_comm]; exact Nat.div_add_mod _ _
   have e1 := flat_at hk ys (j / k) hi' (j % k) hr
   rw [e0, hu] at e1
   have e2 := hc (j / k) hi' (j % k) hr
   rw [← e1, Nat.add_assoc, e0] at e2
   by_cases hj0 : j = 0
   ·subst hj0; (first | (simp [Addr.add]; exact e2) | (simp only [Nat.add_zero] at e2; simpa [Addr.add] using e2))
   ·simp [Addr.add, hj0]; exact e2
  ·intro u hu
   obtain ⟨y, -, hy⟩ := List.mem_flatMap.1 hu
   exact h1 y u hy
theorem encE_one (x : Edge) : ∀ u ∈ encE x, u.oneCell' = true := by
 intro u hu
 simp [encE] at hu
 rcases hu with rfl | rfl | rfl <;> rfl
theorem encS_one (x : ByteArray) : ∀ u ∈ encS x, u.oneCell' = true := by
 intro u hu
 simp [encS] at hu
 subst hu
 rfl

end Go.Proofs.YtifoinannefcpaaGreatDoor

namespace Go.Proofs.YtifoinannefcpaaGreatDoor
open Go Go.RowKit

theorem put4 {w : World} {b : Nat} {x0 x1 x2 x3 v0 v1 v2 v3 : Value} {T : TypeId} (hb : Blk w b [x0, x1, x2, x3] T) : Blk ((((w.setCell ⟨b, 0, none⟩ v0).setCell ⟨b, 1, none⟩ v1).setCell ⟨b, 2, none⟩ v2).setCell ⟨b, 3, none⟩ v3) b [v0, v1, v2, v3] T := (((hb.set 0 v0).set 1 v1).set 2 v2).set 3 v3
theorem own_put {w : World} {base e size n : Nat} {v : Value} {xs : List Value} (h : w.ownsRow base e size v n xs) {b : Nat} {cs : List Value} {t : TypeId} (hb : Blk w b cs t) (he : e ≠ t) (i : Nat) (u : Value) : (w.setCell ⟨b, i, none⟩ u).ownsRow base e size v n xs :=
 h.kept (grown_setCell w ⟨b, i, none⟩ u) (own_type_ne h hb he)
theorem own_put4 {w : World} {b : Nat} {x0 x1 x2 x3 v0 v1 v2 v3 : Value} {T : TypeId} (hb : Blk w b [x0, x1, x2, x3] T) {base e size n : Nat} {v : Value} {xs : List Value} (h : w.ownsRow base e size v n xs) (he : e ≠ T) :
  ((((w.setCell ⟨b, 0, none⟩ v0).setCell ⟨b, 1, none⟩ v1).setCell ⟨b, 2, none⟩ v2).setCell ⟨b, 3, none⟩ v3).ownsRow base e size v n xs :=
 own_put (own_put (own_put (own_put h hb he 0 _) (hb.set 0 _) he 1 _) ((hb.set 0 _).set 1 _) he 2 _) (((hb.set 0 _).set 1 _).set 2 _) he 3 _
theorem below_put4 {B : Nat} {w0 w : World} {b : Nat} {v0 v1 v2 v3 : Value} (h : Below B w0 w) (hb : B ≤ b) : Below B w0 ((((w.setCell ⟨b, 0, none⟩ v0).setCell ⟨b, 1, none⟩ v1).setCell ⟨b, 2, none⟩ v2).setCell ⟨b, 3, none⟩ v3) :=
 (((h.setCell hb _).setCell hb _).setCell hb _).setCell hb _
theorem blk_put {w : World} {b c : Nat} {ds : List Value} {u : TypeId} (h : Blk w c ds u) (i : Nat) (v : Value) (hne : c ≠ b) : Blk (w.setCell ⟨b, i, none⟩ v) c ds u := h.setOther _ _ hne
end Go.Proofs.YtifoinannefcpaaGreatDoor

namespace Go.Proofs.YtifoinannefcpaaGreatDoor
open Go Go.RowKit

theorem own_results {w : World} {b : Nat} {v0 v1 v2 v3 : Value} {tmps : Array Value} (hc : tmps.getD 2 undef = .pointer (some ⟨b, 0, none⟩)) (hb : Blk w b [v0, v1, v2, v3] 27) :
  (results Tryz.f74 tmps).run Tryz.prog w = .ok (.agg #[v0, v1, v2, v3]) w := by
 have h0 := hb.cell 0 rfl
 have h1 := hb.cell 1 rfl
 have h2 := hb.cell 2 rfl
 have h3 := hb.cell 3 rfl
 simp only [Array.getD_eq_getD_getElem?] at hc
 simp [results, Tryz.results74, go_sem, hc, h0, h1, h2, h3, Result.andThen]
theorem blk_grownF {w w' : World} {b m : Nat} {cs : List Value} {t : TypeId} (h : Blk w b cs t) (hg : w.grownBy w' (some m)) (hne : b ≠ m) : Blk w' b cs t := (hg.block b h.lt (by simpa using hne)).trans h
theorem info_strW : (Tryz.prog.info? 9).map (fun i => (i.zero, i.size, i.bytes)) = some (some (.string ⟨#[]⟩), 1, 16) := by kernel_rfl

set_option maxRecDepth 100000 in
set_option maxHeartbeats 2000000 in
theorem l11Own_any (bt lo : Nat) (t : Lts) (w : World) (hz : t.labels.length ≤ 1048576) (hz2 : t.edges.length ≤ 1048576) (hp : LtsPtr lo w bt t) :
  Calls Tryz.prog 74 #[.pointer (some ⟨bt, 0, none⟩)] w fun e w' => ∃ lv ev, e = .returned (.agg #[.int .i64 t.states, .int .i64 t.initial, lv, ev]) ∧ Below w.heap.size w w' ∧ OwnLts w.heap.size w' lv ev t := by
 obtain ⟨lv, ev, hpl, q0, q1, q2, q3, hls, hes⟩ := hp
 obtain ⟨rc, hrc⟩ : ∃ rc, rc = w.heap.size := ⟨_, rfl⟩
 obtain ⟨W, hW⟩ : ∃ W, W = w.alloc (.cells #[.int .i64 0, .int .i64 0, .slice none 0 0, .slice none 0 0] 27) := ⟨_, rfl⟩
 have hb : Below w.heap.size w W := by rw [hW]; exact (Below.refl _ _).alloc (Nat.le_refl _) _
 have hR : Blk W rc [.int .i64 0, .int .i64 0, .slice none 0 0, .slice none 0 0] 27 := by rw [hW, hrc]; exact Blk.new w _ _
 have HB := Lib.hid hb
 have HR := Lib.hid hR
 have HW := Lib.hid hW
 have HRC := Lib.hid hrc
 have p0 := keeps hb hpl q0
 have p1 := keeps hb hpl q1
 have hplW : bt < W.heap.size := Nat.lt_of_lt_of_le hpl hb.size
 have HQ2 := Lib.hid q2
 have HQ3 := Lib.hid q3
 have HLS := Lib.hid hls
 have HES := Lib.hid hes
 clear hrc hW hb hR q0 q1 q2 q3 hls hes
 go_enter Tryz.func74, Tryz.ntmps74
 go_wp2
 rw [← HW.out]
 try rw [← HRC.out]
 go_cut [3] from 4 (fun v3 wx => ∃ ob, v3 = .pointer (some ⟨ob, 0, none⟩) ∧ W.heap.size ≤ ob ∧ Below W.heap.size W wx ∧ Blk wx ob [.int .i64 t.states, .int .i64 t.initial, .slice none 0 0, .slice none 0 0] 27)
 case first =>
  go_region
  all_goals (
   go_wp2_with fail
   go_meet
   have hal : Below W.heap.size W (W.alloc (.cells #[.int .i64 t.states, .int .i64 t.initial, .slice none 0 0, .slice none 0 0] 27)) := (Below.refl _ _).alloc (Nat.le_refl _) _
   exact ⟨W.heap.size, rfl, Nat.le_refl _, hal.drew, (Blk.new W _ _).below (Below.refl _ _).drew⟩)
 case rest =>
  obtain ⟨ob, rfl, hob, hbc, hO⟩ := hcut
  obtain ⟨B, hB⟩ : ∃ B, B = w.heap.size := ⟨_, rfl⟩
  have hbw : Below B w wc := by rw [hB]; exact HB.out.trans (hbc.mono HB.out.size)
  have hBo : B ≤ ob := by rw [hB]; exact Nat.le_trans HB.out.size hob
  have hBr : B ≤ rc := by rw [hB, HRC.out]; exact Nat.le_refl _
  have hne : rc ≠ ob := by have h1 := HR.out.lt; omega
  have hBc : B ≤ wc.heap.size := by rw [hB]; have := hbw.size; omega
  have hbw' : Below w.heap.size w wc := by rw [← hB]; exact hbw
  have q2 := keeps hbw' hpl HQ2.out
  have hplc : bt < wc.heap.size := Nat.lt_of_lt_of_le hpl hbw'.size
  have HO := Lib.hid hO
  have HRW := Lib.hid (HR.out.below hbc)
  have HBW := Lib.hid hbw
  have HBE := Lib.hid hB
  have HNE := Lib.hid hne
  have hal : Below wc.heap.size wc (wc.alloc (.cells #[] 9)) := (Below.refl _ _).alloc (Nat.le_refl _) _
  have HAL := Lib.hid hal
  have ho : Hid ((wc.alloc (.cells #[] 9)).ownsRow B 9 1 (.slice (some ⟨wc.heap.size, 0, none⟩) 0 0) 0 []) := World.ownsRow_lit (base := B) (e := 9) (size := 1) wc #[] 0 hBc (by simp [maxLen]) rfl
  have HSL := Lib.hid ((HLS.out.below hbw').below hal)
  obtain ⟨is, his, hsz0, hsz1, hsz2⟩ := info_parts info_strW
  obtain ⟨ie, hie, hez0, hez1, hez2⟩ := info_parts info_edge2
  obtain ⟨LN, hLN⟩ : ∃ LN, LN = t.labels.length := ⟨_, rfl⟩
  obtain ⟨EN, hEN⟩ : ∃ EN, EN = t.edges.length := ⟨_, rfl⟩
  have HLN := Lib.hid hLN
  have HEN := Lib.hid hEN
  rw [← hLN] at hz
  rw [← hEN] at hz2
  have o2 := hO.cell 2 rfl
  have o2f := hO.frozen 2
  have hol := hO.lt
  clear hbc hO hB hbw hbw' hne hob hal hLN hEN p0 p1
  go_wp2_with (at_builtin; refine append_slice encS_len encS_one (by decide) rfl _ _ 24 rfl B 9 is (.string ⟨#[]⟩) 16 Tryz.underlying24 his hsz0 hsz1 hsz2 rfl _ _ _ rfl ho.out lo t.labels HSL.out ?_ ?_ ?_ ?_)
  ·rw [← HLN.out]; simp [maxLen]; omega
  ·rw [← HLN.out]; omega
  ·simp; omega
  intro v1 w1 ho1 hg1
  rw [flat_encS] at ho1
  obtain ⟨a1, c1, rfl, -, -⟩ := owns_slice ho1
  have hor : ob ≠ wc.heap.size := by have := HO.out.lt; omega
  have hrr : rc ≠ wc.heap.size := by have := HRW.out.lt; omega
  have hO1 : Blk w1 ob [.int .i64 t.states, .int .i64 t.initial, .slice none 0 0, .slice none 0 0] 27 := blk_grownF (HO.out.below HAL.out) hg1 hor
  have hR1 : Blk w1 rc [.int .i64 0, .int .i64 0, .slice none 0 0, .slice none 0 0] 27 := blk_grownF (HRW.out.below HAL.out) hg1 hrr
  have hb1 : Below B w w1 := (HBW.out.trans (HAL.out.mono hBc)).grown hg1 (by simp; omega) (fun b e => by cases e; exact hBc)
  obtain ⟨w2, hw2⟩ : ∃ w2, w2 = w1.setCell ⟨ob, 2, none⟩ (.slice a1 t.labels.length c1) := ⟨_, rfl⟩
  have hb2 : Below B w w2 := by rw [hw2]; exact hb1.setCell hBo _
  have hO2 : Blk w2 ob [.int .i64 t.states, .int .i64 t.initial, .slice a1 t.labels.length c1, .slice none 0 0] 27 := by rw [hw2]; exact hO1.set 2 _
  have hR2 : Blk w2 rc [.int .i64 0, .int .i64 0, .slice none 0 0, .slice none 0 0] 27 := by rw [hw2]; exact blk_put hR1 2 _ HNE.out
  have hr2 : w2.ownsRow B 9 1 (.slice a1 t.labels.length c1) t.labels.length (t.labels.map .string) := by rw [hw2]; exact own_put ho1 hO1 (by decide) 2 _
  have hb2' : Below w.heap.size w w2 := by rw [← HBE.out]; exact hb2
  have q3 := keeps hb2' hpl HQ3.out
  have hpl2 : bt < w2.heap.size := Nat.lt_of_lt_of_le hpl hb2'.size
  have hB2 : B ≤ w2.heap.size := by rw [HBE.out]; exact hb2'.size
  have hal : Below w2.heap.size w2 (w2.alloc (.cells #[] 62)) := (Below.refl _ _).alloc (Nat.le_refl _) _
  have HAL2 := Lib.hid hal
  have ho2 : Hid ((w2.alloc (.cells #[] 62)).ownsRow B 62 3 (.slice (some ⟨w2.heap.size, 0, none⟩) 0 0) 0 []) := World.ownsRow_lit (base := B) (e := 62) (size := 3) w2 #[] 0 hB2 (by simp [maxLen]) rfl
  have HES2 := Lib.hid ((HES.out.below hb2').below hal)
  have HO2 := Lib.hid hO2
  have HR2 := Lib.hid hR2
  have HRW2 := Lib.hid hr2
  have HB2 := Lib.hid hb2
  have HW2 := Lib.hid hw2
  have o12 := hO1.cell 2 rfl
  have o12f := hO1.frozen 2
  have o3 := hO2.cell 3 rfl
  have o3f := hO2.frozen 3
  have hol2 := hO2.lt
  clear ho1 hg1 hor hrr hO1 hR1 hb1 hb2 hO2 hR2 hr2 hb2' hal hw2 q2 o2 o2f
  go_upto_region 3 with fail
  rw [← HW2.out]
  go_wp2_with (at_builtin; refine append_slice encE_len encE_one (by decide) rfl _ _ 25 rfl B 62 ie (.agg #[.int .i64 0, .int .i64 0, .int .i64 0]) 24 Tryz.underlying25 hie hez0 hez1 hez2 rfl _ _ _ rfl ho2.out lo t.edges HES2.out ?_ ?_ ?_ ?_)
  ·rw [← HEN.out]; simp [maxLen]; omega
  ·rw [← HEN.out]; omega
  ·simp; omega
  intro v3 w3 ho3 hg3
  obtain ⟨a3, c3, rfl, -, -⟩ := owns_slice ho3
  have hor : ob ≠ w2.heap.size := by have := HO2.out.lt; omega
  have hrr : rc ≠ w2.heap.size := by have := HR2.out.lt; omega
  have hO3 : Blk w3 ob [.int .i64 t.states, .int .i64 t.initial, .slice a1 t.labels.length c1, .slice none 0 0] 27 := blk_grownF (HO2.out.below HAL2.out) hg3 hor
  have hR3 : Blk w3 rc [.int .i64 0, .int .i64 0, .slice none 0 0, .slice none 0 0] 27 := blk_grownF (HR2.out.below HAL2.out) hg3 hrr
  have hb3 : Below B w w3 := (HB2.out.trans (HAL2.out.mono hB2)).grown hg3 (by simp; omega) (fun b e => by cases e; exact hB2)
  have hr3 : w3.ownsRow B 9 1 (.slice a1 t.labels.length c1) t.labels.length (t.labels.map .string) := (owns_below HRW2.out HAL2.out).kept hg3 (.inr (fun e => by have h := (HRW2.out.lt w2.heap.size e).2; omega))
  have HO4 := Lib.hid (hO3.set 3 (.slice a3 t.edges.length c3))
  have HR4 := Lib.hid (blk_put hR3 3 (.slice a3 t.edges.length c3) HNE.out)
  have HRS := Lib.hid (own_put hr3 hO3 (by decide) 3 (.slice a3 t.edges.length c3))
  have HRE := Lib.hid (own_put ho3 hO3 (by decide) 3 (.slice a3 t.edges.length c3))
  have HB4 : Hid (Below B w (w3.setCell ⟨ob, 3, none⟩ (.slice a3 t.edges.length c3))) := hb3.setCell hBo _
  obtain ⟨w4, hw4⟩ : ∃ w4, w4 = w3.setCell ⟨ob, 3, none⟩ (.slice a3 t.edges.length c3) := ⟨_, rfl⟩
  rw [← hw4] at HO4 HR4 HRS HRE HB4
  have HW4 := Lib.hid hw4
  have o33 := hO3.cell 3 rfl
  have o33f := hO3.frozen 3
  clear ho3 hg3 hor hrr hO3 hR3 hb3 hr3 hw4 q3 o3 o3f o12 o12f
  go_upto_region 4 with fail
  rw [← HW4.out]
  have o0 := HO4.out.cell 0 rfl
  have o1 := HO4.out.cell 1 rfl
  have o2 := HO4.out.cell 2 rfl
  have o3 := HO4.out.cell 3 rfl
  have r0 := HR4.out.cell 0 rfl
  have r1 := HR4.out.cell 1 rfl
  have r2 := HR4.out.cell 2 rfl
  have r3 := HR4.out.cell 3 rfl
  have s0 := HR4.out.frozen 0
  have s1 := HR4.out.frozen 1
  have s2 := HR4.out.frozen 2
  have s3 := HR4.out.frozen 3
  clear o33 o33f
  go_wp2
  refine bodyPost_ret (own_results rfl (put4 HR4.out)) rfl ?_
  refine ⟨_, _, rfl, ?_, ?_, ?_⟩
  ·rw [← HBE.out]; exact below_put4 HB4.out hBr
  ·rw [← HBE.out]; exact own_put4 HR4.out HRS.out (by decide)
  ·rw [← HBE.out]; exact own_put4 HR4.out HRE.out (by decide)

end Go.Proofs.YtifoinannefcpaaGreatDoor
