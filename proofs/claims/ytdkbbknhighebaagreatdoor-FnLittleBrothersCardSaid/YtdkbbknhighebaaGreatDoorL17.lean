/-
  The reference's drawer of a system.
  The reference's drawer of a system with internal edges.
  The source of a drawer; the length of what is drawn from; two lists of texts.
-/
import Derived.Test.YtdkbbknhighebaaGreatDoorL16
import Derived.Test.YtdkbbknhighebaaGreatDoorL9
import Derived.Deep.RegionHeld3
import Derived.Deep.Cut
import Derived.Test.YtdkbbknhighebaaGreatDoorL1
namespace Go.Proofs.YtdkbbknhighebaaGreatDoor
open Go Go.RowKit


theorem info_intD : (Tryz.prog.info? 2).map (fun i => (i.zero, i.size, i.bytes)) = some (some (.int .i64 0), 1, 8) := by kernel_rfl
theorem info_edgeD : (Tryz.prog.info? 47).map (fun i => (i.zero, i.size, i.bytes)) = some (some (.agg #[.int .i64 0, .int .i64 0, .int .i64 0]), 3, 24) := by kernel_rfl
/-- What stands while a system is drawn: the names, the kinds, the result's block. -/
structure DEnv (sb m rb : Nat) (kv lv : Value) (ks : List Int) (ls : List ByteArray) (w0 w : World) : Prop where
 drew : Drew sb m w0 w
 sbl : sb < w0.heap.size
 names : OwnStrs w0.heap.size w lv ls
 kinds : w.ownsRow w0.heap.size 2 1 kv ks.length (ks.map (Value.int .i64))
 box : Blk w rb [.int .i64 0, .int .i64 0, .slice none 0 0, .slice none 0 0] 27
 rbl : w0.heap.size ≤ rb
theorem DEnv.then {sb m m' rb : Nat} {kv lv : Value} {ks : List Int} {ls : List ByteArray} {w0 w w' : World} (h : DEnv sb m rb kv lv ks ls w0 w) (hd : Drew sb m' w w') : DEnv sb m' rb kv lv ks ls w0 w' :=
 ⟨h.drew.trans hd, h.sbl, hd.own h.names h.sbl, hd.own h.kinds h.sbl, hd.blk h.box (by have := h.rbl; have := h.sbl; omega), h.rbl⟩
theorem DEnv.below {sb m rb : Nat} {kv lv : Value} {ks : List Int} {ls : List ByteArray} {w0 w w' : World} (h : DEnv sb m rb kv lv ks ls w0 w) (hb : Below w.heap.size w w') : DEnv sb m rb kv lv ks ls w0 w' :=
 ⟨h.drew.below hb, h.sbl, h.names.below hb, owns_below h.kinds hb, h.box.below hb, h.rbl⟩
theorem DEnv.mono {sb m m' rb : Nat} {kv lv : Value} {ks : List Int} {ls : List ByteArray} {w0 w : World} (h : DEnv sb m rb kv lv ks ls w0 w) (hm : m ≤ m') : DEnv sb m' rb kv lv ks ls w0 w := ⟨h.drew.mono hm, h.sbl, h.names, h.kinds, h.box, h.rbl⟩
theorem DEnv.edges {sb m rb : Nat} {kv lv : Value} {ks : List Int} {ls : List ByteArray} {w0 w w' : World} (h : DEnv sb m rb kv lv ks ls w0 w) {v : Value} {n : Nat} {xs : List Value} (ho : w.ownsRow w0.heap.size 47 3 v n xs) (hg : w.grownBy w' v.ownBlock) : DEnv sb m rb kv lv ks ls w0 w' :=
 ⟨h.drew.grown hg (fun j e => (ho.lt j e).1) h.sbl, h.sbl, h.names.kept hg (own_types h.names ho (by decide)), h.kinds.kept hg (own_types h.kinds ho (by decide)), blk_kept h.box ho hg (by decide), h.rbl⟩
theorem DEnv.kind {sb m rb : Nat} {kv kv' lv : Value} {ks : List Int} {ls : List ByteArray} {w0 w w' : World} (h : DEnv sb m rb kv lv ks ls w0 w) {x : Int} (hg : w.grownBy w' kv.ownBlock) (ho : w'.ownsRow w0.heap.size 2 1 kv' (ks.length + 1) (ks.map (Value.int .i64) ++ [.int .i64 x])) : DEnv sb m rb kv' lv (ks ++ [x]) ls w0 w' :=
 ⟨h.drew.grown hg (fun j e => (h.kinds.lt j e).1) h.sbl, h.sbl, h.names.kept hg (own_types h.names h.kinds (by decide)), by rw [List.length_append, List.map_append]; exact ho, blk_kept h.box h.kinds hg (by decide), h.rbl⟩
theorem ints_litD (w : World) (B : Nat) (hB : B ≤ w.heap.size) : (w.alloc (.cells #[] 2)).ownsRow B 2 1 (.slice (some ⟨w.heap.size, 0, none⟩) 0 0) 0 [] :=
 ⟨rfl, .inr ⟨w.heap.size, 0, #[], rfl, hB, heap_alloc_new _ _, Nat.le_refl _, by simp [maxLen], rfl, rfl⟩⟩
theorem edges_litD (w : World) (B : Nat) (hB : B ≤ w.heap.size) : (w.alloc (.cells #[] 47)).ownsRow B 47 3 (.slice (some ⟨w.heap.size, 0, none⟩) 0 0) 0 [] :=
 ⟨rfl, .inr ⟨w.heap.size, 0, #[], rfl, hB, heap_alloc_new _ _, Nat.le_refl _, by simp [maxLen], rfl, rfl⟩⟩
/-- The kinds: the first states are each of a kind of their own. -/
def KindOk (bs : Nat) (ks : List Int) : Prop := (∀ x ∈ ks, 0 ≤ x ∧ x < (bs : Int)) ∧ ∀ i (h : i < ks.length), i < bs → ks[i] = (i : Int)
theorem KindOk.push {bs : Nat} {ks : List Int} (h : KindOk bs ks) {x : Int} (hx : 0 ≤ x ∧ x < (bs : Int)) (hi : ks.length < bs → x = (ks.length : Int)) : KindOk bs (ks ++ [x]) := by
 refine ⟨fun y hy => ?_, fun i hi' hb => ?_⟩
 ·rcases List.mem_append.1 hy with hy | hy
  ·exact h.1 y hy
  ·rw [List.mem_singleton] at hy; rw [hy]; exact hx
 ·by_cases hlt : i < ks.length
  ·rw [List.getElem_append_left hlt]
   exact h.2 i hlt hb
  ·have e : i = ks.length := by simp at hi'; omega
   subst e
   rw [List.getElem_concat_length rfl]
   exact hi hb
/-- An edge between states, with a name's place. -/
def EdgeIn (st nl : Nat) (e : Edge) : Prop := (0 ≤ e.src ∧ e.src < (st : Int)) ∧ (0 ≤ e.lab ∧ e.lab < (nl : Int)) ∧ 0 ≤ e.dst ∧ e.dst < (st : Int)
theorem edges_push {st nl : Nat} {es : List Edge} (h : ∀ e ∈ es, EdgeIn st nl e) {x : Edge} (hx : EdgeIn st nl x) : ∀ e ∈ es ++ [x], EdgeIn st nl e := fun e he => by
 rcases List.mem_append.1 he with he | he
 ·exact h e he
 ·rw [List.mem_singleton] at he; rw [he]; exact hx
theorem flat_push (es : List Edge) (x : Edge) : (es ++ [x]).flatMap encE = es.flatMap encE ++ encE x := by simp
/-- What a drawer hands back. -/
def RetDr (sb m M : Nat) (w : World) (e : Ending) (w' : World) : Prop :=
 ∃ (t : Lts) (lv ev : Value), e = .returned (.agg #[.int .i64 t.states, .int .i64 t.initial, lv, ev]) ∧ Drew sb m w w' ∧ OwnLts w.heap.size w' lv ev t ∧ DrawnOk M t
theorem own_cellD {w : World} {base e n g c : Nat} {xs : List Value} {k : Nat} (h : w.ownsRow base e 1 (.slice (some ⟨g, 0, none⟩) n c) n xs) (hk : k < xs.length) : w.cell? ⟨g, k, none⟩ = some xs[k] := by
 rcases h.2 with ⟨h0, -⟩ | ⟨g', cap, cur, hv, hb, hg, hn, hm, hs, ht⟩
 ·cases h0
 ·simp only [Value.slice.injEq, Option.some.injEq, Addr.mk.injEq, and_true, true_and] at hv
  obtain ⟨rfl, rfl⟩ := hv
  have h1 : (cur.toList.take (n * 1))[k]? = xs[k]? := by rw [ht]
  have hl : k < n * 1 := by have := h.1; omega
  rw [List.getElem?_take_of_lt hl, List.getElem?_eq_getElem hk, Array.getElem?_toList] at h1
  rw [cell_of_row w g k cur e (0, 0) hg]
  exact h1
theorem drew_put4 {sb n : Nat} {w w1 : World} {b : Nat} {v0 v1 v2 v3 : Value} (h : Drew sb n w w1) (hb : w.heap.size ≤ b) (hsb : sb < w.heap.size) : Drew sb n w ((((w1.setCell ⟨b, 0, none⟩ v0).setCell ⟨b, 1, none⟩ v1).setCell ⟨b, 2, none⟩ v2).setCell ⟨b, 3, none⟩ v3) :=
 h.grown (grown_trans (grown_trans (grown_trans (grown_setCell w1 ⟨b, 0, none⟩ v0) (grown_setCell _ ⟨b, 1, none⟩ v1)) (grown_setCell _ ⟨b, 2, none⟩ v2)) (grown_setCell _ ⟨b, 3, none⟩ v3)) (fun k e => by cases e; exact hb) hsb
theorem ldraw_results {w : World} {b : Nat} {v0 v1 v2 v3 : Value} {tmps : Array Value} (hc : tmps.getD 2 undef = .pointer (some ⟨b, 0, none⟩)) (hb : Blk w b [v0, v1, v2, v3] 27) :
  (results Tryz.f25 tmps).run Tryz.prog w = .ok (.agg #[v0, v1, v2, v3]) w := by
 have h0 := hb.cell 0 rfl
 have h1 := hb.cell 1 rfl
 have h2 := hb.cell 2 rfl
 have h3 := hb.cell 3 rfl
 simp only [Array.getD_eq_getD_getElem?] at hc
 simp [results, Tryz.results25, go_sem, hc, h0, h1, h2, h3, Result.andThen]

set_option maxRecDepth 100000 in
set_option maxHeartbeats 4000000 in
theorem drawOk_any (sb n : Nat) (w : World) (hs : Src sb n w) (hn : n ≤ 999000000) :
  Calls Tryz.prog 25 #[.pointer (some ⟨sb, 0, none⟩)] w (RetDr sb (n + 600) 100 w) := by
 obtain ⟨i1, hi1, hy0, hy1, hy2⟩ := info_parts info_intD
 obtain ⟨i2, hi2, hx0, hx1, hx2⟩ := info_parts info_edgeD
 have hsb := hs.lt
 obtain ⟨rb, hrb⟩ : ∃ rb, rb = w.heap.size := ⟨_, rfl⟩
 obtain ⟨W, hW⟩ : ∃ W, W = w.alloc (.cells #[.int .i64 0, .int .i64 0, .slice none 0 0, .slice none 0 0] 27) := ⟨_, rfl⟩
 have hD0 : Drew sb n w W := by rw [hW]; exact (Drew.refl hs).alloc _
 have hX0 : Blk W rb [.int .i64 0, .int .i64 0, .slice none 0 0, .slice none 0 0] 27 := by rw [hW, hrb]; exact Blk.new w _ _
 have HP1 := Lib.hid (pick_any sb n 4 W hD0.2 (by omega) (by decide))
 have HD0 := Lib.hid hD0
 have HX0 := Lib.hid hX0
 have HW := Lib.hid hW
 have HRB := Lib.hid hrb
 have hrbl : w.heap.size ≤ rb := by rw [hrb]; exact Nat.le_refl _
 clear hs hW hD0 hX0 hrb
 go_enter Tryz.func25, Tryz.ntmps25
 go_wp2_with fail
 rw [← HW.out, ← HRB.out]
 refine Calls.mono HP1.out ?_
 rintro e w1 ⟨x1, rfl, hx10, -, hx11, hd1⟩
 have hx12 := hx11 (by decide)
 obtain ⟨bs, hbs⟩ : ∃ bs : Nat, (bs : Int) = 1 + x1 := ⟨(1 + x1).toNat, by omega⟩
 have hbs1 : 1 ≤ bs := by omega
 have hbs4 : bs ≤ 4 := by omega
 have HP2 := Lib.hid (pick_any sb (n + 2) (7 - bs) w1 hd1.2 (by omega) (by omega))
 have HD1 := Lib.hid (HD0.out.trans hd1)
 have HX1 := Lib.hid (hd1.blk HX0.out (by omega))
 clear hd1 HP1 HD0 HX0 hx11 hx12
 go_wp2_with fail
 rw [← hbs]
 clear hbs hx10
 refine Calls.mono HP2.out ?_
 rintro e w2 ⟨x2, rfl, hx20, -, hx21, hd2⟩
 have hx22 := hx21 (by omega)
 obtain ⟨st, hst⟩ : ∃ st : Nat, (st : Int) = bs + x2 := ⟨(bs + x2).toNat, by omega⟩
 have hst1 : bs ≤ st := by omega
 have hst6 : st ≤ 6 := by omega
 have HNM := Lib.hid (drawNames_any sb (n + 2 + 2) w2 hd2.2 (by omega))
 have HD2 := Lib.hid (HD1.out.trans hd2)
 have HX2 := Lib.hid (hd2.blk HX1.out (by omega))
 clear hd2 HP2 HD1 HX1 hx21 hx22
 go_wp2_with fail
 rw [← hst]
 clear hst hx20
 refine Calls.mono HNM.out ?_
 rintro e w3 ⟨lv, ls, rfl, hd3, hlo, hl2, hl7, hlm⟩
 obtain ⟨la, lc, rfl, -, -⟩ := owns_slice hlo
 have hs2 : w.heap.size ≤ w2.heap.size := HD2.out.size
 have hs3 : w.heap.size ≤ w3.heap.size := Nat.le_trans hs2 hd3.size
 obtain ⟨W3, hW3⟩ : ∃ W3, W3 = w3.alloc (.cells #[] 2) := ⟨_, rfl⟩
 have hb3 : Below w3.heap.size w3 W3 := by rw [hW3]; exact (Below.refl _ _).alloc (Nat.le_refl _) _
 have HE3 : Hid (DEnv sb (n + 14) rb (.slice (some ⟨w3.heap.size, 0, none⟩) 0 0) (.slice la ls.length lc) [] ls w W3) := by
  refine ⟨((HD2.out.trans hd3).below hb3).mono (by omega), hsb, ((OwnStrs.lower hlo hs2).below hb3), ?_, (hd3.blk HX2.out (by omega)).below hb3, hrbl⟩
  rw [hW3]
  exact ints_litD w3 _ hs3
 have HLM := Lib.hid hlm
 have HW3 := Lib.hid hW3
 clear hd3 hlo hlm hW3 hb3 HNM HD2 HX2
 go_wp2_with fail
 rw [← HW3.out]
 go_loopw [6, 7] (fun v6 v7 wr => ∃ (ks : List Int) (p6 : Option Addr) (c6 : Nat), v6 = .slice p6 ks.length c6 ∧ v7 = .int .i64 ks.length ∧ ks.length ≤ st ∧ DEnv sb (n + 14 + 2 * ks.length) rb (.slice p6 ks.length c6) (.slice la ls.length lc) ks ls w wr ∧ KindOk bs ks) (fun _ v7 _ => st - (intOf v7).toNat)
 case atStart => exact ⟨[], _, _, rfl, rfl, Nat.zero_le _, HE3.out, ⟨(fun x h => by cases h), fun i h => absurd h (Nat.not_lt_zero _)⟩⟩
 case round =>
  clear HE3
  obtain ⟨ks, p6, c6, rfl, rfl, hkl, henv, hko⟩ := hrel
  obtain ⟨wC, rfl⟩ : ∃ wC : World, wC = wr := ⟨_, rfl⟩
  have HE := Lib.hid henv
  have HK := Lib.hid hko
  have hszC : w.heap.size ≤ wC.heap.size := henv.drew.size
  clear henv hko
  by_cases hlt : ks.length < st
  ·by_cases hlb : ks.length < bs
   ·go_wp2_with (at_builtin; refine wpList_append_own _ rfl _ _ 35 rfl w.heap.size 2 i1 (.int .i64 0) 1 8 Tryz.underlying35 hi1 hy0 hy1 hy2 rfl (by decide) _ _ _ rfl (HE.out.kinds.alloc _) ⟨wC.heap.size, 0, none⟩ 1 1 [.int .i64 ks.length] rfl rfl ?c1 ?c2 ?c3 ?c4 ?c5 ?_)
    case c1 => exact World.news_of_block (cs := #[.int .i64 ks.length]) (t := 2) (fr := (0, 0)) (heap_alloc_new _ _)
    case c2 => intro u hu; simp at hu; subst hu; rfl
    case c3 => simp [maxLen]; omega
    case c4 => omega
    case c5 => simp; omega
    intro v' w4 ho4 hg4 _
    obtain ⟨p7, c7, rfl, -, -⟩ := owns_slice ho4
    have HE4 : Hid (DEnv sb (n + 14 + 2 * (ks ++ [(ks.length : Int)]).length) rb (.slice p7 (ks.length + 1) c7) (.slice la ls.length lc) (ks ++ [(ks.length : Int)]) ls w w4) := ((HE.out.below ((Below.refl _ _).alloc (Nat.le_refl _) _)).kind hg4 ho4).mono (by simp; omega)
    have HK4 : Hid (KindOk bs (ks ++ [(ks.length : Int)])) := HK.out.push ⟨by omega, by omega⟩ (fun _ => rfl)
    clear ho4 hg4
    go_wp2
    go_roundw
    case rel => exact ⟨ks ++ [(ks.length : Int)], p7, c7, by simp, by simp, by simp; omega, by simpa using HE4.out, HK4.out⟩
    case measure => simp [intOf]; omega
   ·have HPK := Lib.hid (pick_any sb (n + 14 + 2 * ks.length) bs wC HE.out.drew.2 (by omega) (by omega))
    go_wp2_with fail
    refine Calls.mono HPK.out ?_
    rintro e w4 ⟨x, rfl, hx0', -, hx1', hd4⟩
    have hxb := hx1' (by omega)
    have HE4 := Lib.hid (HE.out.then hd4)
    have hs4 : w.heap.size ≤ w4.heap.size := HE4.out.drew.size
    clear hd4 HPK HE hx1'
    go_wp2_with (at_builtin; refine wpList_append_own _ rfl _ _ 35 rfl w.heap.size 2 i1 (.int .i64 0) 1 8 Tryz.underlying35 hi1 hy0 hy1 hy2 rfl (by decide) _ _ _ rfl (HE4.out.kinds.alloc _) ⟨w4.heap.size, 0, none⟩ 1 1 [.int .i64 x] rfl rfl ?c1 ?c2 ?c3 ?c4 ?c5 ?_)
    case c1 => exact World.news_of_block (cs := #[.int .i64 x]) (t := 2) (fr := (0, 0)) (heap_alloc_new _ _)
    case c2 => intro u hu; simp at hu; subst hu; rfl
    case c3 => simp [maxLen]; omega
    case c4 => omega
    case c5 => simp; omega
    intro v' w5 ho5 hg5 _
    obtain ⟨p7, c7, rfl, -, -⟩ := owns_slice ho5
    have HE5 : Hid (DEnv sb (n + 14 + 2 * (ks ++ [x]).length) rb (.slice p7 (ks.length + 1) c7) (.slice la ls.length lc) (ks ++ [x]) ls w w5) := ((HE4.out.below ((Below.refl _ _).alloc (Nat.le_refl _) _)).kind hg5 ho5).mono (by simp; omega)
    have HK5 : Hid (KindOk bs (ks ++ [x])) := HK.out.push ⟨hx0', hxb⟩ (fun h => absurd h hlb)
    clear ho5 hg5
    go_wp2
    go_roundw
    case rel => exact ⟨ks ++ [x], p7, c7, by simp, by simp, by simp; omega, by simpa using HE5.out, HK5.out⟩
    case measure => simp [intOf]; omega
  ·have hkst : ks.length = st := by omega
   have HKST := Lib.hid hkst
   obtain ⟨g6, cap6, e6, -, -⟩ := HE.out.kinds.form (by omega)
   simp only [Value.slice.injEq, true_and] at e6
   obtain ⟨rfl, rfl⟩ := e6
   obtain ⟨W5, hW5⟩ : ∃ W5, W5 = wC.alloc (.cells #[] 47) := ⟨_, rfl⟩
   have HE5 : Hid (DEnv sb (n + 14 + 2 * ks.length) rb (.slice (some ⟨g6, 0, none⟩) ks.length c6) (.slice la ls.length lc) ks ls w W5) := HE.out.below (by rw [hW5]; exact (Below.refl _ _).alloc (Nat.le_refl _) _)
   have HO5 : Hid (W5.ownsRow w.heap.size 47 3 (.slice (some ⟨wC.heap.size, 0, none⟩) 0 0) 0 []) := by unfold Hid; rw [hW5]; exact edges_litD wC _ hszC
   have HPM := Lib.hid (pick_any sb (n + 14 + 2 * ks.length) (2 + 2 * bs) W5 HE5.out.drew.2 (by omega) (by omega))
   have HW5 := Lib.hid hW5
   clear hW5 HE
   go_wp2_with fail
   rw [← HW5.out]
   refine Calls.mono HPM.out ?_
   rintro e w6 ⟨m0, rfl, hm0, -, hm1, hd6⟩
   have hm2 := hm1 (by omega)
   obtain ⟨m, rfl⟩ : ∃ m : Nat, m0 = (m : Int) := ⟨m0.toNat, by omega⟩
   have HE6 : Hid (DEnv sb (n + 40 + 40 * (10 - m)) rb (.slice (some ⟨g6, 0, none⟩) ks.length c6) (.slice la ls.length lc) ks ls w w6) := (HE5.out.then hd6).mono (by omega)
   have HO6 := Lib.hid (hd6.own HO5.out hsb)
   have hm10 : m ≤ 9 := by omega
   clear hd6 HPM HE5 HO5 hm1 hm2 hm0 hkst
   go_wp2_with fail
   go_loopw [8, 9] (fun v8 v9 wr => ∃ (q : Nat) (es : List Edge) (p8 : Option Addr) (c8 : Nat), v8 = .slice p8 es.length c8 ∧ v9 = .int .i64 q ∧ q ≤ 9 ∧ es.length + 6 * q ≤ 54 ∧ DEnv sb (n + 40 + 40 * (10 - q)) rb (.slice (some ⟨g6, 0, none⟩) ks.length c6) (.slice la ls.length lc) ks ls w wr ∧ wr.ownsRow w.heap.size 47 3 (.slice p8 es.length c8) es.length (es.flatMap encE) ∧ ∀ e ∈ es, EdgeIn st ls.length e) (fun _ v9 _ => (intOf v9).toNat)
   case atStart => exact ⟨m, [], _, _, rfl, rfl, by omega, by simp; omega, HE6.out, HO6.out, fun e h => by cases h⟩
   case round =>
    clear HE6 HO6
    obtain ⟨q, es, p8, c8, rfl, rfl, hq, hel, henv, ho, hgood⟩ := hrel
    obtain ⟨wD, rfl⟩ : ∃ wD : World, wD = wr := ⟨_, rfl⟩
    have HE := Lib.hid henv
    have HO := Lib.hid ho
    have HG := Lib.hid hgood
    have hszD : w.heap.size ≤ wD.heap.size := henv.drew.size
    clear henv ho hgood
    by_cases hq0 : 0 < q
    ·have HPa := Lib.hid (pick_any sb (n + 40 + 40 * (10 - q)) bs wD HE.out.drew.2 (by omega) (by omega))
     go_wp2_with fail
     refine Calls.mono HPa.out ?_
     rintro e w7 ⟨fr, rfl, hf0, -, hf1, hd7⟩
     have hf2 := hf1 (by omega)
     have HE7 := Lib.hid (HE.out.then hd7)
     have HO7 := Lib.hid (hd7.own HO.out hsb)
     have HPb := Lib.hid (pick_any sb (n + 40 + 40 * (10 - q) + 2) ls.length w7 hd7.2 (by omega) (by omega))
     clear hd7 HPa HE HO hf1
     go_wp2_with fail
     refine Calls.mono HPb.out ?_
     rintro e w8 ⟨lab, rfl, hb0, -, hb1, hd8⟩
     have hb2 := hb1 (by omega)
     have HE8 := Lib.hid (HE7.out.then hd8)
     have HO8 := Lib.hid (hd8.own HO7.out hsb)
     have HPc := Lib.hid (pick_any sb (n + 40 + 40 * (10 - q) + 2 + 2) bs w8 hd8.2 (by omega) (by omega))
     clear hd8 HPb HE7 HO7 hb1
     go_wp2_with fail
     refine Calls.mono HPc.out ?_
     rintro e w9 ⟨tt, rfl, ht0, -, ht1, hd9⟩
     have ht2 := ht1 (by omega)
     have HE9 := Lib.hid (HE8.out.then hd9)
     have HO9 := Lib.hid (hd9.own HO8.out hsb)
     clear hd9 HPc HE8 HO8 ht1
     go_wp2_with fail
     go_loopw [8, 13] (fun v8 v13 wr => ∃ (k : Nat) (fs : List Edge) (p8 : Option Addr) (c8 : Nat), v8 = .slice p8 fs.length c8 ∧ v13 = .int .i64 k ∧ k ≤ st ∧ fs.length ≤ es.length + k ∧ DEnv sb (n + 40 + 40 * (10 - q) + 6 + 2 * k) rb (.slice (some ⟨g6, 0, none⟩) ks.length c6) (.slice la ls.length lc) ks ls w wr ∧ wr.ownsRow w.heap.size 47 3 (.slice p8 fs.length c8) fs.length (fs.flatMap encE) ∧ ∀ e ∈ fs, EdgeIn st ls.length e) (fun _ v13 _ => st - (intOf v13).toNat)
     case atStart => exact ⟨0, es, p8, c8, rfl, rfl, Nat.zero_le _, by omega, HE9.out, HO9.out, HG.out⟩
     case round =>
      clear HE9 HO9 HG
      obtain ⟨k, fs, p9, c9, rfl, rfl, hk, hfl, henv, ho, hgood⟩ := hrel
      obtain ⟨wE, rfl⟩ : ∃ wE : World, wE = wr := ⟨_, rfl⟩
      have HE := Lib.hid henv
      have HO := Lib.hid ho
      have HG := Lib.hid hgood
      have hszE : w.heap.size ≤ wE.heap.size := henv.drew.size
      clear henv ho hgood
      by_cases hlt : k < st
      ·have hkk : k < ks.length := by have := HKST.out; omega
       have cel6 := own_cellD (k := k) HE.out.kinds (by simpa using hkk)
       rw [List.getElem_map] at cel6
       obtain ⟨kv, hkv⟩ : ∃ kv, kv = ks[k] := ⟨_, rfl⟩
       rw [← hkv] at cel6
       clear hkv
       by_cases hkf : kv = fr
       ·subst hkf
        obtain ⟨W9, hW9⟩ : ∃ W9, W9 = wE.alloc (.cells #[] 2) := ⟨_, rfl⟩
        have HB9 : Hid (Below wE.heap.size wE W9) := by unfold Hid; rw [hW9]; exact (Below.refl _ _).alloc (Nat.le_refl _) _
        have HO9 : Hid (W9.ownsRow wE.heap.size 2 1 (.slice (some ⟨wE.heap.size, 0, none⟩) 0 0) 0 []) := by unfold Hid; rw [hW9]; exact ints_litD wE _ (Nat.le_refl _)
        have HW9 := Lib.hid hW9
        clear hW9
        go_wp2_with fail
        rw [← HW9.out]
        clear cel6
        go_loopw [14, 15] (fun v14 v15 wr => ∃ (j : Nat) (al : List Int) (pa : Option Addr) (ca : Nat), v14 = .slice pa al.length ca ∧ v15 = .int .i64 j ∧ j ≤ st ∧ al.length ≤ j ∧ Below wE.heap.size wE wr ∧ wr.ownsRow wE.heap.size 2 1 (.slice pa al.length ca) al.length (al.map (Value.int .i64)) ∧ (∀ x ∈ al, 0 ≤ x ∧ x < (st : Int)) ∧ (tt < (j : Int) → 0 < al.length)) (fun _ v15 _ => st - (intOf v15).toNat)
        case atStart => exact ⟨0, [], _, _, rfl, rfl, Nat.zero_le _, Nat.le_refl _, HB9.out, HO9.out, (fun x h => by cases h), fun h => by omega⟩
        case round =>
         clear HB9 HO9
         obtain ⟨j, al, pa, ca, rfl, rfl, hj, hal, hb, hoa, hin, hne⟩ := hrel
         obtain ⟨wF, rfl⟩ : ∃ wF : World, wF = wr := ⟨_, rfl⟩
         have HB := Lib.hid hb
         have HA := Lib.hid hoa
         have HIN := Lib.hid hin
         have HNE := Lib.hid hne
         have hszF : wE.heap.size ≤ wF.heap.size := hb.size
         clear hb hoa hin hne
         by_cases hjl : j < st
         ·have hjj : j < ks.length := by have := HKST.out; omega
          have c7 := own_cellD (k := j) (owns_below HE.out.kinds HB.out) (by simpa using hjj)
          rw [List.getElem_map] at c7
          have HKJ : Hid (tt = (j : Int) → ks[j] = tt) := fun e => by rw [e]; exact HK.out.2 j hjj (by omega)
          obtain ⟨kj, hkj⟩ : ∃ kj, kj = ks[j] := ⟨_, rfl⟩
          rw [← hkj] at c7 HKJ
          clear hkj
          by_cases hkt : kj = tt
          ·go_wp2_with (at_builtin; refine wpList_append_own _ rfl _ _ 35 rfl wE.heap.size 2 i1 (.int .i64 0) 1 8 Tryz.underlying35 hi1 hy0 hy1 hy2 rfl (by decide) _ _ _ rfl (HA.out.alloc _) ⟨wF.heap.size, 0, none⟩ 1 1 [.int .i64 j] rfl rfl ?c1 ?c2 ?c3 ?c4 ?c5 ?_)
           case c1 => exact World.news_of_block (cs := #[.int .i64 j]) (t := 2) (fr := (0, 0)) (heap_alloc_new _ _)
           case c2 => intro u hu; simp at hu; subst hu; rfl
           case c3 => simp [maxLen]; omega
           case c4 => omega
           case c5 => simp; omega
           intro v' w4 ho4 hg4 _
           obtain ⟨p7, c77, rfl, -, -⟩ := owns_slice ho4
           have HB4 : Hid (Below wE.heap.size wE w4) := (HB.out.alloc hszF _).grown hg4 (by simp; omega) (fun b e => (HA.out.lt b e).1)
           have HA4 : Hid (w4.ownsRow wE.heap.size 2 1 (.slice p7 (al ++ [(j : Int)]).length c77) (al ++ [(j : Int)]).length ((al ++ [(j : Int)]).map (Value.int .i64))) := by
            unfold Hid
            rw [List.length_append, List.map_append]
            exact ho4
           clear ho4 hg4 c7
           go_wp2
           go_roundw
           case rel => exact ⟨j + 1, al ++ [(j : Int)], p7, c77, by simp, by go_num, by omega, by simp; omega, HB4.out, HA4.out, (fun x hx => by
            rcases List.mem_append.1 hx with hx | hx
            ·exact HIN.out x hx
            ·rw [List.mem_singleton] at hx; omega), fun _ => by simp⟩
           case measure => simp [intOf]; omega
          ·go_wp2
           go_roundw
           case rel => exact ⟨j + 1, al, pa, ca, rfl, by go_num, by omega, by omega, HB.out, HA.out, HIN.out, fun h => by
            by_cases e : tt = (j : Int)
            ·exact absurd (HKJ.out e) hkt
            ·exact HNE.out (by omega)⟩
           case measure => simp [intOf]; omega
         ·have h0 : 0 < al.length := HNE.out (by omega)
          have HAM := Lib.hid (among_any sb (n + 40 + 40 * (10 - q) + 6 + 2 * k) wE.heap.size (.slice pa al.length ca) al wF (HE.out.drew.2.below HB.out) (by omega) (SliceK.of_owns (enc := encI) (e := 2) encI_len rfl (by rw [flat_encI]; exact HA.out)) (by omega) h0 (by omega))
          go_wp2_with fail
          refine Calls.mono HAM.out ?_
          rintro e wG ⟨x, hxm, rfl, hdG⟩
          have hx := HIN.out x hxm
          have HEG : Hid (DEnv sb (n + 40 + 40 * (10 - q) + 6 + 2 * (k + 1)) rb (.slice (some ⟨g6, 0, none⟩) ks.length c6) (.slice la ls.length lc) ks ls w wG) := ((HE.out.below HB.out).then hdG).mono (by omega)
          have HOG := Lib.hid (hdG.own (owns_below HO.out HB.out) hsb)
          have hsG : w.heap.size ≤ wG.heap.size := HEG.out.drew.size
          clear hdG HAM hxm HE HO HB HA HIN HNE
          go_wp2_with (at_builtin; refine wpList_append_own _ rfl _ _ 25 rfl w.heap.size 47 i2 (.agg #[.int .i64 0, .int .i64 0, .int .i64 0]) 3 24 Tryz.underlying25 hi2 hx0 hx1 hx2 rfl (by decide) _ _ _ rfl (HOG.out.alloc _) ⟨wG.heap.size, 0, none⟩ 1 1 (encE ⟨(k : Int), lab, x⟩) rfl rfl ?c1 ?c2 ?c3 ?c4 ?c5 ?_)
          case c1 => exact World.news_of_block (cs := #[.int .i64 k, .int .i64 lab, .int .i64 x]) (t := 47) (fr := (0, 0)) (heap_alloc_new _ _)
          case c2 => intro u hu; simp [encE] at hu; rcases hu with rfl | rfl | rfl <;> rfl
          case c3 => simp [maxLen]; omega
          case c4 => omega
          case c5 => simp; omega
          intro v' w4 ho4 hg4 _
          obtain ⟨p7, c77, rfl, -, -⟩ := owns_slice ho4
          have HE4 : Hid (DEnv sb (n + 40 + 40 * (10 - q) + 6 + 2 * (k + 1)) rb (.slice (some ⟨g6, 0, none⟩) ks.length c6) (.slice la ls.length lc) ks ls w w4) := (HEG.out.below ((Below.refl _ _).alloc (Nat.le_refl _) _)).edges (HOG.out.alloc _) hg4
          have HO4 : Hid (w4.ownsRow w.heap.size 47 3 (.slice p7 (fs ++ [(⟨(k : Int), lab, x⟩ : Edge)]).length c77) (fs ++ [(⟨(k : Int), lab, x⟩ : Edge)]).length ((fs ++ [(⟨(k : Int), lab, x⟩ : Edge)]).flatMap encE)) := by
           unfold Hid
           rw [List.length_append, flat_push]
           exact ho4
          have HG4 : Hid (∀ e ∈ fs ++ [(⟨(k : Int), lab, x⟩ : Edge)], EdgeIn st ls.length e) := edges_push HG.out ⟨⟨by show (0 : Int) ≤ (k : Int); omega, by show (k : Int) < (st : Int); omega⟩, ⟨hb0, hb2⟩, hx⟩
          clear ho4 hg4
          go_wp2
          go_roundw
          case rel => exact ⟨k + 1, _, p7, c77, by simp, by go_num, by omega, by simp; omega, HE4.out, HO4.out, HG4.out⟩
          case measure => simp [intOf]; omega
       ·go_wp2
        go_roundw
        case rel => exact ⟨k + 1, fs, p9, c9, rfl, by go_num, by omega, by omega, HE.out.mono (by omega), HO.out, HG.out⟩
        case measure => simp [intOf]; omega
      ·go_wp2
       go_roundw
       case rel => exact ⟨q - 1, fs, p9, c9, rfl, by congr 1; omega, by omega, by omega, HE.out.mono (by omega), HO.out, HG.out⟩
       case measure => simp [intOf]; omega
    ·have HON := Lib.hid (one_any sb (n + 40 + 40 * (10 - q)) 3 wD HE.out.drew.2 (by omega) (by decide))
     go_wp2_with fail
     refine Calls.mono HON.out ?_
     rintro e w7 ⟨b, rfl, hd7⟩
     have HE7 := Lib.hid (HE.out.then hd7)
     have HO7 := Lib.hid (hd7.own HO.out hsb)
     clear hd7 HON HE HO
     cases b
     ·have HPI := Lib.hid (pick_any sb (n + 40 + 40 * (10 - q) + 2) st w7 HE7.out.drew.2 (by omega) (by omega))
      go_wp2_with fail
      refine Calls.mono HPI.out ?_
      rintro e wy ⟨ini, rfl, hin0, -, hin1, hdy⟩
      have hin2 := hin1 (by omega)
      have HEy := Lib.hid (HE7.out.then hdy)
      have HOy := Lib.hid (hdy.own HO7.out hsb)
      have hsy : w.heap.size ≤ wy.heap.size := HEy.out.drew.size
      have HMK := Lib.hid (l11Make_any w.heap.size w.heap.size st ini ls (es) (.slice la ls.length lc) (.slice p8 _ c8) wy (SliceK.of_owns (enc := encS) (e := 9) encS_len rfl (by rw [flat_encS]; exact HEy.out.names)) (SliceK.of_owns (e := 47) encE_len rfl HOy.out) (by omega) (by omega) (fun e he => (HG.out e he).2.1))
      clear hdy HPI hin1
      go_wp2_with fail
      refine Calls.mono HMK.out ?_
      rintro e wx ⟨hbx, lv9, ev9, R, rfl, hol, hoe, hmk⟩
      obtain ⟨la9, lc9, rfl, -, -⟩ := owns_slice hol
      obtain ⟨ea9, ec9, rfl, -, -⟩ := owns_slice hoe
      have HEx := Lib.hid (HEy.out.below hbx)
      have HOL := Lib.hid (own_lower hol hsy)
      have HOE := Lib.hid (own_lower hoe hsy)
      have HDR : Hid (DrawnOk 100 ⟨st, ini, labSet (tauT :: ls), R⟩) := drawn_of_mk hmk (by omega) HLM.out (by omega) ⟨hin0, hin2⟩ (fun e he => HG.out e he) (by omega)
      have r0 := HEx.out.box.cell 0 rfl
      have r1 := HEx.out.box.cell 1 rfl
      have r2 := HEx.out.box.cell 2 rfl
      have r3 := HEx.out.box.cell 3 rfl
      have s0 := HEx.out.box.frozen 0
      have s1 := HEx.out.box.frozen 1
      have s2 := HEx.out.box.frozen 2
      have s3 := HEx.out.box.frozen 3
      clear hbx hol hoe hmk HMK hin0 hin2
      go_wp2
      refine bodyPost_ret (ldraw_results rfl (put4D HEx.out.box)) rfl ?_
      exact ⟨_, _, _, rfl, (drew_put4 HEx.out.drew hrbl hsb).mono (by omega), ⟨own_put4D HEx.out.box HOL.out (by decide), own_put4D HEx.out.box HOE.out (by decide)⟩, HDR.out⟩
     ·have HPa := Lib.hid (pick_any sb (n + 40 + 40 * (10 - q) + 2) st w7 HE7.out.drew.2 (by omega) (by omega))
      go_wp2_with fail
      refine Calls.mono HPa.out ?_
      rintro e w8 ⟨fr, rfl, hf0, -, hf1, hd8⟩
      have hf2 := hf1 (by omega)
      have HE8 := Lib.hid (HE7.out.then hd8)
      have HO8 := Lib.hid (hd8.own HO7.out hsb)
      have HPb := Lib.hid (pick_any sb (n + 40 + 40 * (10 - q) + 2 + 2) ls.length w8 hd8.2 (by omega) (by omega))
      clear hd8 HPa HE7 HO7 hf1
      go_wp2_with fail
      refine Calls.mono HPb.out ?_
      rintro e w9 ⟨lab, rfl, hb0, -, hb1, hd9⟩
      have hb2 := hb1 (by omega)
      have HE9 := Lib.hid (HE8.out.then hd9)
      have HO9 := Lib.hid (hd9.own HO8.out hsb)
      have HPc := Lib.hid (pick_any sb (n + 40 + 40 * (10 - q) + 2 + 2 + 2) st w9 hd9.2 (by omega) (by omega))
      clear hd9 HPb HE8 HO8 hb1
      go_wp2_with fail
      refine Calls.mono HPc.out ?_
      rintro e wA ⟨tt, rfl, ht0, -, ht1, hdA⟩
      have ht2 := ht1 (by omega)
      have HEA := Lib.hid (HE9.out.then hdA)
      have HOA := Lib.hid (hdA.own HO9.out hsb)
      have hsA : w.heap.size ≤ wA.heap.size := HEA.out.drew.size
      clear hdA HPc HE9 HO9 ht1
      go_wp2_with (at_builtin; refine wpList_append_own _ rfl _ _ 25 rfl w.heap.size 47 i2 (.agg #[.int .i64 0, .int .i64 0, .int .i64 0]) 3 24 Tryz.underlying25 hi2 hx0 hx1 hx2 rfl (by decide) _ _ _ rfl (HOA.out.alloc _) ⟨wA.heap.size, 0, none⟩ 1 1 (encE ⟨fr, lab, tt⟩) rfl rfl ?c1 ?c2 ?c3 ?c4 ?c5 ?_)
      case c1 => exact World.news_of_block (cs := #[.int .i64 fr, .int .i64 lab, .int .i64 tt]) (t := 47) (fr := (0, 0)) (heap_alloc_new _ _)
      case c2 => intro u hu; simp [encE] at hu; rcases hu with rfl | rfl | rfl <;> rfl
      case c3 => simp [maxLen]; omega
      case c4 => omega
      case c5 => simp; omega
      intro v' w4 ho4 hg4 _
      obtain ⟨pz, cz, rfl, -, -⟩ := owns_slice ho4
      have HE4 := Lib.hid ((HEA.out.below ((Below.refl _ _).alloc (Nat.le_refl _) _)).edges (HOA.out.alloc _) hg4)
      have HO4 : Hid (w4.ownsRow w.heap.size 47 3 (.slice pz (es.length + 1) cz) (es ++ [(⟨fr, lab, tt⟩ : Edge)]).length ((es ++ [(⟨fr, lab, tt⟩ : Edge)]).flatMap encE)) := by
       unfold Hid
       rw [List.length_append, flat_push]
       exact ho4
      have HG4 : Hid (∀ e ∈ es ++ [(⟨fr, lab, tt⟩ : Edge)], EdgeIn st ls.length e) := edges_push HG.out ⟨⟨hf0, hf2⟩, ⟨hb0, hb2⟩, ht0, ht2⟩
      clear ho4 hg4
      have HPI := Lib.hid (pick_any sb (n + 40 + 40 * (10 - q) + 2 + 2 + 2 + 2) st w4 HE4.out.drew.2 (by omega) (by omega))
      go_wp2_with fail
      refine Calls.mono HPI.out ?_
      rintro e wy ⟨ini, rfl, hin0, -, hin1, hdy⟩
      have hin2 := hin1 (by omega)
      have HEy := Lib.hid (HE4.out.then hdy)
      have HOy := Lib.hid (hdy.own HO4.out hsb)
      have hsy : w.heap.size ≤ wy.heap.size := HEy.out.drew.size
      have HMK := Lib.hid (l11Make_any w.heap.size w.heap.size st ini ls (es ++ [(⟨fr, lab, tt⟩ : Edge)]) (.slice la ls.length lc) (.slice pz _ cz) wy (SliceK.of_owns (enc := encS) (e := 9) encS_len rfl (by rw [flat_encS]; exact HEy.out.names)) (SliceK.of_owns (e := 47) encE_len rfl HOy.out) (by omega) (by simp; omega) (fun e he => (HG4.out e he).2.1))
      clear hdy HPI hin1
      go_wp2_with fail
      refine Calls.mono HMK.out ?_
      rintro e wx ⟨hbx, lv9, ev9, R, rfl, hol, hoe, hmk⟩
      obtain ⟨la9, lc9, rfl, -, -⟩ := owns_slice hol
      obtain ⟨ea9, ec9, rfl, -, -⟩ := owns_slice hoe
      have HEx := Lib.hid (HEy.out.below hbx)
      have HOL := Lib.hid (own_lower hol hsy)
      have HOE := Lib.hid (own_lower hoe hsy)
      have HDR : Hid (DrawnOk 100 ⟨st, ini, labSet (tauT :: ls), R⟩) := drawn_of_mk hmk (by omega) HLM.out (by omega) ⟨hin0, hin2⟩ (fun e he => HG4.out e he) (by simp; omega)
      have r0 := HEx.out.box.cell 0 rfl
      have r1 := HEx.out.box.cell 1 rfl
      have r2 := HEx.out.box.cell 2 rfl
      have r3 := HEx.out.box.cell 3 rfl
      have s0 := HEx.out.box.frozen 0
      have s1 := HEx.out.box.frozen 1
      have s2 := HEx.out.box.frozen 2
      have s3 := HEx.out.box.frozen 3
      clear hbx hol hoe hmk HMK hin0 hin2
      go_wp2
      refine bodyPost_ret (ldraw_results rfl (put4D HEx.out.box)) rfl ?_
      exact ⟨_, _, _, rfl, (drew_put4 HEx.out.drew hrbl hsb).mono (by omega), ⟨own_put4D HEx.out.box HOL.out (by decide), own_put4D HEx.out.box HOE.out (by decide)⟩, HDR.out⟩

end Go.Proofs.YtdkbbknhighebaaGreatDoor

namespace Go.Proofs.YtdkbbknhighebaaGreatDoor
open Go Go.RowKit


/-- What stands while a drawn system's edges are turned: the system, its box, the result's block. -/
structure REnv (sb m rb tb Be : Nat) (t : Lts) (lv ev : Value) (w0 w : World) : Prop where
 drew : Drew sb m w0 w
 sbl : sb < w0.heap.size
 own : OwnLts w0.heap.size w lv ev t
 evl : ∀ b, ev.ownBlock = some b → b < Be
 tbox : Blk w tb [.int .i64 t.states, .int .i64 t.initial, lv, ev] 27
 rbox : Blk w rb [.int .i64 0, .int .i64 0, .slice none 0 0, .slice none 0 0] 27
 rbl : w0.heap.size ≤ rb
 tbl : w0.heap.size ≤ tb
 bel : w0.heap.size ≤ Be
section
variable {sb m rb tb Be : Nat} {t : Lts} {lv ev : Value} {w0 w w' : World}
theorem REnv.mono {m' : Nat} (h : REnv sb m rb tb Be t lv ev w0 w) (hm : m ≤ m') : REnv sb m' rb tb Be t lv ev w0 w := ⟨h.drew.mono hm, h.sbl, h.own, h.evl, h.tbox, h.rbox, h.rbl, h.tbl, h.bel⟩
theorem REnv.then {m' : Nat} (h : REnv sb m rb tb Be t lv ev w0 w) (hd : Drew sb m' w w') : REnv sb m' rb tb Be t lv ev w0 w' :=
 ⟨h.drew.trans hd, h.sbl, ⟨hd.own h.own.1 h.sbl, hd.own h.own.2 h.sbl⟩, h.evl, hd.blk h.tbox (by have := h.tbl; have := h.sbl; omega), hd.blk h.rbox (by have := h.rbl; have := h.sbl; omega), h.rbl, h.tbl, h.bel⟩
theorem REnv.below (h : REnv sb m rb tb Be t lv ev w0 w) (hb : Below w.heap.size w w') : REnv sb m rb tb Be t lv ev w0 w' :=
 ⟨h.drew.below hb, h.sbl, h.own.below hb, h.evl, h.tbox.below hb, h.rbox.below hb, h.rbl, h.tbl, h.bel⟩
theorem REnv.alloc (h : REnv sb m rb tb Be t lv ev w0 w) (o : Obj) : REnv sb m rb tb Be t lv ev w0 (w.alloc o) := h.below ((Below.refl _ _).alloc (Nat.le_refl _) _)
theorem REnv.edges (h : REnv sb m rb tb Be t lv ev w0 w) {v : Value} {n : Nat} {xs : List Value} (ho : w.ownsRow Be 47 3 v n xs) (hg : w.grownBy w' v.ownBlock) : REnv sb m rb tb Be t lv ev w0 w' :=
 ⟨h.drew.grown hg (fun j e => Nat.le_trans h.bel (ho.lt j e).1) h.sbl, h.sbl, ⟨h.own.1.kept hg (own_types h.own.1 ho (by decide)), h.own.2.kept hg (by
  cases he : ev.ownBlock with
  | none => exact .inl rfl
  | some b => exact .inr fun k => by have := h.evl b he; have := (ho.lt b k.symm).1; omega)⟩, h.evl, blk_kept h.tbox ho hg (by decide), blk_kept h.rbox ho hg (by decide), h.rbl, h.tbl, h.bel⟩
/-- A cell of a block of an edge that is none of the lists' own is written. -/
theorem REnv.put (h : REnv sb m rb tb Be t lv ev w0 w) {p : Nat} {cs : List Value} (hp : Blk w p cs 47) (hpl : w0.heap.size ≤ p) (hpe : Be ≤ p) (i : Nat) (u : Value) : REnv sb m rb tb Be t lv ev w0 (w.setCell ⟨p, i, none⟩ u) :=
 have hg := grown_setCell w ⟨p, i, none⟩ u
 ⟨h.drew.grown hg (fun j e => by cases e; exact hpl) h.sbl, h.sbl, ⟨own_putD h.own.1 hp (by decide) i u, h.own.2.kept hg (by
  cases he : ev.ownBlock with
  | none => exact .inl rfl
  | some b => exact .inr fun k => by have := h.evl b he; have h2 : b = p := Option.some.inj k; omega)⟩, h.evl, blk_putD h.tbox i u (by intro e; subst e; have h1 := h.tbox; unfold Blk at h1 hp; rw [h1] at hp; cases hp), blk_putD h.rbox i u (by intro e; subst e; have h1 := h.rbox; unfold Blk at h1 hp; rw [h1] at hp; cases hp), h.rbl, h.tbl, h.bel⟩
end
theorem ldraw15_results {w : World} {b : Nat} {v0 v1 v2 v3 : Value} {tmps : Array Value} (hc : tmps.getD 2 undef = .pointer (some ⟨b, 0, none⟩)) (hb : Blk w b [v0, v1, v2, v3] 27) :
  (results Tryz.f12 tmps).run Tryz.prog w = .ok (.agg #[v0, v1, v2, v3]) w := by
 have h0 := hb.cell 0 rfl
 have h1 := hb.cell 1 rfl
 have h2 := hb.cell 2 rfl
 have h3 := hb.cell 3 rfl
 simp only [Array.getD_eq_getD_getElem?] at hc
 simp [results, Tryz.results12, go_sem, hc, h0, h1, h2, h3, Result.andThen]
/-- Edges of a drawn system. -/
def EdgesIn (t : Lts) (es : List Edge) : Prop := ∀ e ∈ es, (0 ≤ e.src ∧ e.src < t.states) ∧ (0 ≤ e.lab ∧ e.lab < (t.labels.length : Int)) ∧ 0 ≤ e.dst ∧ e.dst < t.states
theorem EdgesIn.push {t : Lts} {es : List Edge} (h : EdgesIn t es) {x : Edge} (hx : (0 ≤ x.src ∧ x.src < t.states) ∧ (0 ≤ x.lab ∧ x.lab < (t.labels.length : Int)) ∧ 0 ≤ x.dst ∧ x.dst < t.states) : EdgesIn t (es ++ [x]) := fun e he => by
 rcases List.mem_append.1 he with he | he
 ·exact h e he
 ·rw [List.mem_singleton] at he; rw [he]; exact hx

set_option maxRecDepth 100000 in
set_option maxHeartbeats 4000000 in
theorem draw15_any (sb n : Nat) (w : World) (hs : Src sb n w) (hn : n ≤ 998000000) :
  Calls Tryz.prog 12 #[.pointer (some ⟨sb, 0, none⟩)] w (RetDr sb (n + 2000) 102 w) := by
 obtain ⟨i2, hi2, hx0, hx1, hx2⟩ := info_parts info_edgeD
 have hsb := hs.lt
 obtain ⟨rb, hrb⟩ : ∃ rb, rb = w.heap.size := ⟨_, rfl⟩
 obtain ⟨W, hW⟩ : ∃ W, W = w.alloc (.cells #[.int .i64 0, .int .i64 0, .slice none 0 0, .slice none 0 0] 27) := ⟨_, rfl⟩
 have hD0 : Drew sb n w W := by rw [hW]; exact (Drew.refl hs).alloc _
 have hX0 : Blk W rb [.int .i64 0, .int .i64 0, .slice none 0 0, .slice none 0 0] 27 := by rw [hW, hrb]; exact Blk.new w _ _
 have HP1 := Lib.hid (drawOk_any sb n W hD0.2 (by omega))
 have HD0 := Lib.hid hD0
 have HX0 := Lib.hid hX0
 have HW := Lib.hid hW
 have HRB := Lib.hid hrb
 have hrbl : w.heap.size ≤ rb := by rw [hrb]; exact Nat.le_refl _
 have hsW : w.heap.size ≤ W.heap.size := hD0.size
 clear hs hW hD0 hX0 hrb
 go_enter Tryz.func12, Tryz.ntmps12
 go_wp2_with fail
 rw [← HW.out, ← HRB.out]
 refine Calls.mono HP1.out ?_
 rintro e w1 ⟨t, lv, ev, rfl, hd1, hown, hdr⟩
 have hs1 : W.heap.size ≤ w1.heap.size := hd1.size
 obtain ⟨la, lc, rfl, -, -⟩ := owns_slice hown.1
 obtain ⟨ea, ec, rfl, -, -⟩ := owns_slice hown.2
 obtain ⟨tb, htb⟩ : ∃ tb, tb = w1.heap.size := ⟨_, rfl⟩
 obtain ⟨Be, hBe⟩ : ∃ Be, Be = w1.heap.size + 1 := ⟨_, rfl⟩
 obtain ⟨W2, hW2⟩ : ∃ W2, W2 = (w1.alloc (.cells #[.int .i64 t.states, .int .i64 t.initial, .slice la t.labels.length lc, .slice ea t.edges.length ec] 27)).alloc (.cells #[] 47) := ⟨_, rfl⟩
 have hb2 : Below w1.heap.size w1 W2 := by rw [hW2]; exact ((Below.refl _ _).alloc (Nat.le_refl _) _).alloc (by simp) _
 have HE2 : Hid (REnv sb (n + 600) rb tb Be t (.slice la t.labels.length lc) (.slice ea t.edges.length ec) w W2) := by
  refine ⟨(HD0.out.trans hd1).below hb2, hsb, (hown.lower hsW).below hb2, fun b e => by have := (hown.2.lt b e).2; omega, ?_, (hd1.blk HX0.out (by omega)).below hb2, hrbl, by omega, by omega⟩
  rw [hW2, htb]
  exact (Blk.new w1 _ _).alloc _
 have HO2 : Hid (W2.ownsRow Be 47 3 (.slice (some ⟨Be, 0, none⟩) 0 0) 0 []) := by
  have h := edges_litD (w1.alloc (.cells #[.int .i64 t.states, .int .i64 t.initial, .slice la t.labels.length lc, .slice ea t.edges.length ec] 27)) Be (by rw [hBe]; simp)
  rw [World.size_alloc, ← hBe] at h
  unfold Hid
  rw [hW2]
  exact h
 have hsbe : sb < Be := by have := HE2.out.bel; omega
 have HW2 := Lib.hid hW2
 have HTB := Lib.hid htb
 have HBE := Lib.hid hBe
 have HDR := Lib.hid hdr
 have hEN : t.edges.length ≤ 100 := hdr.most
 have hEN0 : t.states ≤ 6 ∧ 1 ≤ t.states := ⟨hdr.st.2, hdr.st.1⟩
 have hLP : 0 < t.labels.length := hdr.pos
 have hLF : t.labels.length ≤ 6 := hdr.few
 clear hd1 hown hb2 hW2 htb hBe hdr HP1 HD0 HX0
 go_wp2_with fail
 rw [← HW2.out, ← HBE.out, ← HTB.out]
 go_loopw [4, 5] (fun v4 v5 wr => ∃ (k : Nat) (es : List Edge) (p4 : Option Addr) (c4 : Nat), v4 = .slice p4 es.length c4 ∧ v5 = .int .i64 k ∧ k ≤ t.edges.length ∧ es.length ≤ k ∧ REnv sb (n + 600 + 2 * k) rb tb Be t (.slice la t.labels.length lc) (.slice ea t.edges.length ec) w wr ∧ wr.ownsRow Be 47 3 (.slice p4 es.length c4) es.length (es.flatMap encE) ∧ EdgesIn t es) (fun _ v5 _ => t.edges.length - (intOf v5).toNat)
 case atStart => exact ⟨0, [], _, _, rfl, rfl, Nat.zero_le _, Nat.le_refl _, HE2.out, HO2.out, fun e h => by cases h⟩
 case round =>
  clear HE2 HO2
  obtain ⟨k, es, p4, c4, rfl, rfl, hk, hel, henv, ho, hgood⟩ := hrel
  obtain ⟨wC, rfl⟩ : ∃ wC : World, wC = wr := ⟨_, rfl⟩
  have HE := Lib.hid henv
  have HO := Lib.hid ho
  have HG := Lib.hid hgood
  have hszC : w.heap.size ≤ wC.heap.size := henv.drew.size
  have hbeC : Be ≤ wC.heap.size := by
   have h1 := henv.tbox.lt
   have h2 := HTB.out
   have h3 := HBE.out
   omega
  have t3 := henv.tbox.cell 3 rfl
  clear henv ho hgood
  by_cases hlt : k < t.edges.length
  ·obtain ⟨xa, xc, hxe, -, -, hrow⟩ := SliceK.of_owns (e := 47) encE_len rfl HE.out.own.2
   simp only [Value.slice.injEq, true_and] at hxe
   obtain ⟨rfl, rfl⟩ := hxe
   obtain ⟨be, oe, hxa, -, hbe, e1, e2, e3⟩ := hrow.edge hlt
   have hek := HDR.out.edge t.edges[k] (List.getElem_mem hlt)
   obtain ⟨ed, hed⟩ : ∃ ed, ed = t.edges[k] := ⟨_, rfl⟩
   rw [← hed] at e1 e2 e3 hek
   obtain ⟨pb, hpb⟩ : ∃ pb, pb = wC.heap.size := ⟨_, rfl⟩
   obtain ⟨W4, hW4⟩ : ∃ W4, W4 = wC.alloc (.cells #[.int .i64 ed.src, .int .i64 ed.lab, .int .i64 ed.dst] 47) := ⟨_, rfl⟩
   have HE4 : Hid (REnv sb (n + 600 + 2 * k) rb tb Be t (.slice la t.labels.length lc) (.slice ea t.edges.length ec) w W4) := by unfold Hid; rw [hW4]; exact HE.out.alloc _
   have HO4 : Hid (W4.ownsRow Be 47 3 (.slice p4 es.length c4) es.length (es.flatMap encE)) := by unfold Hid; rw [hW4]; exact HO.out.alloc _
   have HP4 : Hid (Blk W4 pb [.int .i64 ed.src, .int .i64 ed.lab, .int .i64 ed.dst] 47) := by unfold Hid; rw [hW4, hpb]; exact Blk.new _ _ _
   have HON := Lib.hid (one_any sb (n + 600 + 2 * k) 3 W4 HE4.out.drew.2 (by omega) (by decide))
   have hpl : w.heap.size ≤ pb := by omega
   have hpe : Be ≤ pb := by omega
   have HFAR : Hid ((Value.slice p4 es.length c4).ownBlock = none ∨ (Value.slice p4 es.length c4).ownBlock ≠ some pb) := by
    cases hv : (Value.slice p4 es.length c4).ownBlock with
    | none => exact .inl rfl
    | some b => exact .inr fun e => by have := (HO.out.lt b hv).2; have := Option.some.inj e; omega
   have HW4 := Lib.hid hW4
   have HPB := Lib.hid hpb
   clear hrow hed hW4 hpb
   subst hxa
   go_wp2_with fail
   rw [← HW4.out]
   try rw [← HPB.out]
   refine Calls.mono HON.out ?_
   rintro e w5 ⟨b, rfl, hd5⟩
   have HE5 := Lib.hid (HE4.out.then hd5)
   have HO5 := Lib.hid (hd5.own HO4.out hsbe)
   have HP5 := Lib.hid (hd5.blk HP4.out (by omega))
   clear hd5 HON HE4 HO4 HP4 HE HO e1 e2 e3 t3
   cases b
   ·have p0 := HP5.out.cell 0 rfl
    have p1 := HP5.out.cell 1 rfl
    have p2 := HP5.out.cell 2 rfl
    have hs5 : Be ≤ w5.heap.size := by have := HP5.out.lt; omega
    go_wp2_with (at_builtin; refine wpList_append_own _ rfl _ _ 25 rfl Be 47 i2 (.agg #[.int .i64 0, .int .i64 0, .int .i64 0]) 3 24 Tryz.underlying25 hi2 hx0 hx1 hx2 rfl (by decide) _ _ _ rfl (HO5.out.alloc _) ⟨w5.heap.size, 0, none⟩ 1 1 (encE ed) rfl rfl ?c1 ?c2 ?c3 ?c4 ?c5 ?_)
    case c1 => exact World.news_of_block (cs := #[.int .i64 ed.src, .int .i64 ed.lab, .int .i64 ed.dst]) (t := 47) (fr := (0, 0)) (heap_alloc_new _ _)
    case c2 => intro u hu; simp [encE] at hu; rcases hu with rfl | rfl | rfl <;> rfl
    case c3 => simp [maxLen]; omega
    case c4 => omega
    case c5 => simp; omega
    intro v' w6 ho6 hg6 _
    obtain ⟨p7, c7, rfl, -, -⟩ := owns_slice ho6
    have HE6 := Lib.hid (((HE5.out.alloc _).edges (HO5.out.alloc _) hg6).mono (show _ ≤ n + 600 + 2 * (k + 1) by omega))
    have HO6 : Hid (w6.ownsRow Be 47 3 (.slice p7 (es ++ [ed]).length c7) (es ++ [ed]).length ((es ++ [ed]).flatMap encE)) := by
     unfold Hid
     rw [List.length_append, flat_push]
     exact ho6
    have HG6 : Hid (EdgesIn t (es ++ [ed])) := HG.out.push hek
    clear ho6 hg6
    go_wp2
    go_roundw
    case rel => exact ⟨k + 1, es ++ [ed], p7, c7, by simp, by go_num, by omega, by simp; omega, HE6.out, HO6.out, HG6.out⟩
    case measure => simp [intOf]; omega
   ·have q1 := HP5.out.cell 1 rfl
    have q2 := HP5.out.frozen 1
    obtain ⟨W6, hW6⟩ : ∃ W6, W6 = w5.setCell ⟨pb, 1, none⟩ (.int .i64 0) := ⟨_, rfl⟩
    have hP6 : Blk W6 pb [.int .i64 ed.src, .int .i64 0, .int .i64 ed.dst] 47 := by rw [hW6]; exact HP5.out.set 1 _
    have HE6 : Hid (REnv sb (n + 600 + 2 * k + 2) rb tb Be t (.slice la t.labels.length lc) (.slice (some ⟨be, oe, none⟩) t.edges.length ec) w W6) := by unfold Hid; rw [hW6]; exact HE5.out.put HP5.out hpl hpe 1 _
    have HO6 : Hid (W6.ownsRow Be 47 3 (.slice p4 es.length c4) es.length (es.flatMap encE)) := by unfold Hid; rw [hW6]; exact HO5.out.kept (grown_setCell w5 ⟨pb, 1, none⟩ _) HFAR.out
    have p0 := hP6.cell 0 rfl
    have p1 := hP6.cell 1 rfl
    have p2 := hP6.cell 2 rfl
    rw [hW6] at p0 p1 p2
    have hs6 : Be ≤ W6.heap.size := by have := hP6.lt; omega
    have HW6 := Lib.hid hW6
    have hz6 : W6.heap.size = w5.heap.size := by rw [hW6]; simp
    clear hP6 hW6
    go_wp2_with (at_builtin; rw [← HW6.out]; rw [← hz6]; refine wpList_append_own _ rfl _ _ 25 rfl Be 47 i2 (.agg #[.int .i64 0, .int .i64 0, .int .i64 0]) 3 24 Tryz.underlying25 hi2 hx0 hx1 hx2 rfl (by decide) _ _ _ rfl (HO6.out.alloc _) ⟨W6.heap.size, 0, none⟩ 1 1 (encE ⟨ed.src, 0, ed.dst⟩) rfl rfl ?c1 ?c2 ?c3 ?c4 ?c5 ?_)
    case c1 => exact World.news_of_block (cs := #[.int .i64 ed.src, .int .i64 0, .int .i64 ed.dst]) (t := 47) (fr := (0, 0)) (heap_alloc_new _ _)
    case c2 => intro u hu; simp [encE] at hu; rcases hu with rfl | rfl | rfl <;> rfl
    case c3 => simp [maxLen]; omega
    case c4 => omega
    case c5 => simp; omega
    intro v' w7 ho7 hg7 _
    obtain ⟨p7, c7, rfl, -, -⟩ := owns_slice ho7
    have HE7 := Lib.hid (((HE6.out.alloc _).edges (HO6.out.alloc _) hg7).mono (show _ ≤ n + 600 + 2 * (k + 1) by omega))
    have HO7 : Hid (w7.ownsRow Be 47 3 (.slice p7 (es ++ [(⟨ed.src, 0, ed.dst⟩ : Edge)]).length c7) (es ++ [(⟨ed.src, 0, ed.dst⟩ : Edge)]).length ((es ++ [(⟨ed.src, 0, ed.dst⟩ : Edge)]).flatMap encE)) := by
     unfold Hid
     rw [List.length_append, flat_push]
     exact ho7
    have HG7 : Hid (EdgesIn t (es ++ [(⟨ed.src, 0, ed.dst⟩ : Edge)])) := HG.out.push ⟨hek.1, ⟨Int.le_refl _, by show (0 : Int) < _; omega⟩, hek.2.2⟩
    clear ho7 hg7
    go_wp2
    go_roundw
    case rel => exact ⟨k + 1, _, p7, c7, by simp, by go_num, by omega, by simp; omega, HE7.out, HO7.out, HG7.out⟩
    case measure => simp [intOf]; omega
  ·have HPN := Lib.hid (pick_any sb (n + 600 + 2 * k) 3 wC HE.out.drew.2 (by omega) (by decide))
   go_wp2_with fail
   refine Calls.mono HPN.out ?_
   rintro e w5 ⟨q0, rfl, hq0, -, hq1, hd5⟩
   have hq2 := hq1 (by decide)
   obtain ⟨q, rfl⟩ : ∃ q : Nat, q0 = (q : Int) := ⟨q0.toNat, by omega⟩
   have HE5 : Hid (REnv sb (n + 900 + 8 * (3 - q)) rb tb Be t (.slice la t.labels.length lc) (.slice ea t.edges.length ec) w w5) := (HE.out.then hd5).mono (by omega)
   have HO5 := Lib.hid (hd5.own HO.out hsbe)
   have hq3 : q ≤ 2 := by omega
   clear hd5 HPN HE HO t3 hq1 hq2 hq0
   go_wp2_with fail
   go_loopg [4, 7] 4 (fun gk v4 v7 wr => ∃ (q : Nat) (es : List Edge) (p4 : Option Addr) (c4 : Nat), v4 = .slice p4 es.length c4 ∧ v7 = .int .i64 q ∧ q ≤ gk ∧ q ≤ 2 ∧ es.length + q ≤ 102 ∧ REnv sb (n + 900 + 8 * (3 - q)) rb tb Be t (.slice la t.labels.length lc) (.slice ea t.edges.length ec) w wr ∧ wr.ownsRow Be 47 3 (.slice p4 es.length c4) es.length (es.flatMap encE) ∧ EdgesIn t es)
   case atStart => exact ⟨q, es, p4, c4, rfl, rfl, by omega, by omega, by omega, HE5.out, HO5.out, HG.out⟩
   case round =>
    clear HE5 HO5 HG
    obtain ⟨q, es, p4, c4, rfl, rfl, hqg, hq, hel, henv, ho, hgood⟩ := hrel
    obtain ⟨wD, rfl⟩ : ∃ wD : World, wD = wr := ⟨_, rfl⟩
    have HE := Lib.hid henv
    have HO := Lib.hid ho
    have HG := Lib.hid hgood
    have hszD : w.heap.size ≤ wD.heap.size := henv.drew.size
    have hbeD : Be ≤ wD.heap.size := by
     have h1 := henv.tbox.lt
     have h2 := HTB.out
     have h3 := HBE.out
     omega
    clear henv ho hgood
    by_cases hq0 : 0 < q
    ·go_upto_region 13 with fail
     have HDD : Hid (REnv sb (n + 900 + 8 * (3 - q)) rb tb Be t (.slice la t.labels.length lc) (.slice ea t.edges.length ec) w wD.drew) := HE.out.below ((Below.refl _ _).drew)
     have HC0 : Hid (wD.drew.cell? ⟨tb, 0, none⟩ = some (.int .i64 t.states)) := HDD.out.tbox.cell 0 rfl
     have HPA := Lib.hid (pick_any sb (n + 900 + 8 * (3 - q)) t.states wD.drew HDD.out.drew.2 (by omega) (by omega))
     have HPB : Hid (∀ w', Src sb (n + 900 + 8 * (3 - q) + 2) w' → Calls Tryz.prog 27 #[.pointer (some ⟨sb, 0, none⟩), .int .i64 t.states] w' fun e w'' => ∃ x : Int, e = .returned (.int .i64 x) ∧ 0 ≤ x ∧ (t.states ≤ 1 → x = 0) ∧ (1 ≤ t.states → x < t.states) ∧ Drew sb (n + 900 + 8 * (3 - q) + 2 + 2) w' w'') := fun w' hs' => pick_any sb (n + 900 + 8 * (3 - q) + 2) t.states w' hs' (by omega) (by omega)
     go_region_held3 (fun w' => w'.cell? ⟨tb, 0, none⟩ = some (.int .i64 t.states))
      (first
       | with_reducible exact HC0.out
       | with_reducible exact k3
       | with_reducible exact k2
       | with_reducible exact k1
       | go_keep)
      (first
       | (go_at_call 27; refine Calls.mono HPA.out ?_; rintro e wp1 ⟨x, rfl, hxa, -, hxb, hdp1⟩; have hen1 := HDD.out.then hdp1; have k1 := hen1.tbox.cell 0 rfl; have ho1 := hdp1.own HO.out.drew hsbe)
       | (go_at_call 27; refine Calls.mono (HPB.out _ hdp1.2) ?_; rintro e wp2 ⟨y, rfl, hya, -, hyb, hdp2⟩; have hen2 := hen1.then hdp2; have k2 := hen2.tbox.cell 0 rfl; have ho2 := hdp2.own ho1 hsbe; have hsz2 : Be ≤ wp2.heap.size := Nat.le_trans hbeD (Nat.le_trans hdp1.size hdp2.size))
       | (refine step_append_lies _ (by rfl) _ _ _ (by rfl) Be 47 i2 _ 3 24 Tryz.underlying25 hi2 hx0 hx1 hx2 rfl (by decide) (.slice p4 es.length c4) es.length (es.flatMap encE) (by rfl) (ho2.alloc _) ⟨wp2.heap.size, 0, none⟩ 1 1 [.int .i64 x, .int .i64 0, .int .i64 y] (by rfl) (by rfl) (World.news_of_block (cs := #[.int .i64 x, .int .i64 0, .int .i64 y]) (t := 47) (fr := (0, 0)) (heap_alloc_new _ _)) (by simp [Value.oneCell']) (by decide) (by simp [maxLen]; omega) (by omega) (by simp; omega) (wp2.heap.size + 1) (by simp) ?_; intro gg cap w6 hown6 hgrow6 hat6 hlt6; have hen6 := (hen2.alloc _).edges (ho2.alloc _) hgrow6; have k3 := hen6.tbox.cell 0 rfl; have hg6 : EdgesIn t (es ++ [(⟨x, 0, y⟩ : Edge)]) := HG.out.push ⟨by first | exact ⟨hxa, hxb (by omega)⟩ | exact ⟨hya, hyb (by omega)⟩, ⟨Int.le_refl _, by show (0 : Int) < _; omega⟩, by first | exact ⟨hxa, hxb (by omega)⟩ | exact ⟨hya, hyb (by omega)⟩⟩; have HW6 : Hid (w6.ownsRow Be 47 3 (.slice (some ⟨gg, 0, none⟩) (es ++ [(⟨x, 0, y⟩ : Edge)]).length cap) (es ++ [(⟨x, 0, y⟩ : Edge)]).length ((es ++ [(⟨x, 0, y⟩ : Edge)]).flatMap encE)) := by (unfold Hid; rw [List.length_append, flat_push]; exact hown6))
       | (refine step_append_lies _ (by rfl) _ _ _ (by rfl) Be 47 i2 _ 3 24 Tryz.underlying25 hi2 hx0 hx1 hx2 rfl (by decide) (.slice p4 es.length c4) es.length (es.flatMap encE) (by rfl) (ho2.alloc _) ⟨wp2.heap.size, 0, none⟩ 1 1 [.int .i64 y, .int .i64 0, .int .i64 x] (by rfl) (by rfl) (World.news_of_block (cs := #[.int .i64 y, .int .i64 0, .int .i64 x]) (t := 47) (fr := (0, 0)) (heap_alloc_new _ _)) (by simp [Value.oneCell']) (by decide) (by simp [maxLen]; omega) (by omega) (by simp; omega) (wp2.heap.size + 1) (by simp) ?_; intro gg cap w6 hown6 hgrow6 hat6 hlt6; have hen6 := (hen2.alloc _).edges (ho2.alloc _) hgrow6; have k3 := hen6.tbox.cell 0 rfl; have hg6 : EdgesIn t (es ++ [(⟨y, 0, x⟩ : Edge)]) := HG.out.push ⟨by first | exact ⟨hxa, hxb (by omega)⟩ | exact ⟨hya, hyb (by omega)⟩, ⟨Int.le_refl _, by show (0 : Int) < _; omega⟩, by first | exact ⟨hxa, hxb (by omega)⟩ | exact ⟨hya, hyb (by omega)⟩⟩; have HW6 : Hid (w6.ownsRow Be 47 3 (.slice (some ⟨gg, 0, none⟩) (es ++ [(⟨y, 0, x⟩ : Edge)]).length cap) (es ++ [(⟨y, 0, x⟩ : Edge)]).length ((es ++ [(⟨y, 0, x⟩ : Edge)]).flatMap encE)) := by (unfold Hid; rw [List.length_append, flat_push]; exact hown6))
       | fail)
     all_goals (
      have HEN : Hid (REnv sb (n + 900 + 8 * (3 - (q - 1))) rb tb Be t (.slice la t.labels.length lc) (.slice ea t.edges.length ec) w w6) := hen6.mono (by omega)
      have HGG := Lib.hid hg6
      clear hen6 hg6 k1 k2 k3 hen1 hen2 hdp1 hdp2 ho1 ho2 hown6 hgrow6 hat6 hlt6 HPA HPB HC0 HDD HE HO HG
      go_wp2
      go_roundg (q - 1)
      case measure => omega
      case rel => exact ⟨q - 1, _, some ⟨gg, 0, none⟩, cap, by simp, by congr 1; omega, by omega, by omega, by simp; omega, HEN.out, HW6.out, HGG.out⟩)
    ·have t0 := HE.out.tbox.cell 0 rfl
     have t1 := HE.out.tbox.cell 1 rfl
     have t2 := HE.out.tbox.cell 2 rfl
     have HMK := Lib.hid (l11Make_any w.heap.size Be t.states t.initial t.labels es (.slice la t.labels.length lc) (.slice p4 es.length c4) wD (SliceK.of_owns (enc := encS) (e := 9) encS_len rfl (by rw [flat_encS]; exact HE.out.own.1)) (SliceK.of_owns (e := 47) encE_len rfl HO.out) (by omega) (by omega) (fun e he => (HG.out e he).2.1))
     go_wp2_with fail
     refine Calls.mono HMK.out ?_
     rintro e wx ⟨hbx, lv9, ev9, R, rfl, hol, hoe, hmk⟩
     obtain ⟨la9, lc9, rfl, -, -⟩ := owns_slice hol
     obtain ⟨ea9, ec9, rfl, -, -⟩ := owns_slice hoe
     have HEx := Lib.hid (HE.out.below hbx)
     have HOL := Lib.hid (own_lower hol hszD)
     have HOE := Lib.hid (own_lower hoe hszD)
     have HDM : Hid (DrawnOk 102 ⟨t.states, t.initial, labSet (tauT :: t.labels), R⟩) := drawn_of_mk hmk (by omega) HDR.out.names ⟨HDR.out.st.1, HDR.out.st.2⟩ HDR.out.init HG.out (by omega)
     have r0 := HEx.out.rbox.cell 0 rfl
     have r1 := HEx.out.rbox.cell 1 rfl
     have r2 := HEx.out.rbox.cell 2 rfl
     have r3 := HEx.out.rbox.cell 3 rfl
     have s0 := HEx.out.rbox.frozen 0
     have s1 := HEx.out.rbox.frozen 1
     have s2 := HEx.out.rbox.frozen 2
     have s3 := HEx.out.rbox.frozen 3
     clear hbx hol hoe hmk HMK t0 t1 t2
     go_wp2
     refine bodyPost_ret (ldraw15_results rfl (put4D HEx.out.rbox)) rfl ?_
     exact ⟨⟨t.states, t.initial, labSet (tauT :: t.labels), R⟩, _, _, rfl, (drew_put4 HEx.out.drew hrbl hsb).mono (by omega), ⟨own_put4D HEx.out.rbox HOL.out (by decide), own_put4D HEx.out.rbox HOE.out (by decide)⟩, HDM.out⟩

end Go.Proofs.YtdkbbknhighebaaGreatDoor

namespace Go.Proofs.YtdkbbknhighebaaGreatDoor
open Go Go.RowKit


theorem bytes_up {w W : World} {v : Value} {bs : List UInt8} (h : BytesIn w.heap.size w v bs) (hb : Below w.heap.size w W) : BytesIn W.heap.size W v bs := by
 obtain ⟨a, c, e, hl, h0⟩ := h.grown (grown_below hb none) (fun k e => by cases e)
 refine ⟨a, c, e, hl, ?_⟩
 rcases h0 with h0 | ⟨b, o, e1, h1, h2, h3⟩
 ·exact .inl h0
 ·exact .inr ⟨b, o, e1, h2, h2, h3⟩

theorem from_any (cv : Value) (bs : List UInt8) (w : World) (hc : BytesIn w.heap.size w cv bs) :
  Calls Tryz.prog 11 #[cv] w fun e w' => e = .returned (.pointer (some ⟨w.heap.size, 0, none⟩)) ∧ Below w.heap.size w w' ∧ Src w.heap.size 0 w' := by
 obtain ⟨W, hW⟩ : ∃ W, W = w.alloc (.cells #[cv, .int .i64 0, .int .u64 0] 57) := ⟨_, rfl⟩
 have hb : Below w.heap.size w W := by rw [hW]; exact (Below.refl _ _).alloc (Nat.le_refl _) _
 have HS : Hid (Src w.heap.size 0 W) := ⟨cv, bs, 0, 0, hc.grown (grown_below hb none) (fun k e => by cases e), by rw [hW]; exact Blk.new w _ _, Nat.le_refl _, by decide, by decide⟩
 have HB := Lib.hid hb
 have HW := Lib.hid hW
 obtain ⟨a, c, rfl, -, -⟩ := hc
 clear hW hb
 go_enter Tryz.func11, Tryz.ntmps11
 go_wp2
 go_ret
 rw [← HW.out]
 exact ⟨rfl, HB.out, HS.out⟩

end Go.Proofs.YtdkbbknhighebaaGreatDoor
