/-
  The program's simulation: the greatest set of pairs by rounds over a map.
  The library's slices.IndexFunc and slices.ContainsFunc at a slice of edges, with a function that may lay blocks of its own.
  The program's below and littleBrothers, with the closures.
  A slice of slices of one-celled elements, all in memory of the call's own: a row more, a row that grows.
  A whole slice appended to a row of the call's own.
  A struct of four cells that is written; a slice of edges cloned.
  The library's Clone at lists of texts.
  A system of the call's own: how it lies in memory.
-/
import Derived.Test.YtbjbjbnbapeajaaGreatDoorP5
import Derived.Test.YtbjbjbnbapeajaaGreatDoorP6
import Derived.Sort.LoopGhostIn
import Derived.Laws.EntriesVeiled
import Derived.Test.YtbjbjbnbapeajaaGreatDoorProg
import Derived.Test.YtbjbjbnbapeajaaGreatDoorP1
import Derived.Test.YtbjbjbnbapeajaaGreatDoorP3
import Derived.Laws.AppendOwn
import Derived.Laws.AppendOwnNone
namespace Go.Proofs.YtbjbjbnbapeajaaGreatDoor
open Go Go.RowKit

set_option maxRecDepth 100000 in
theorem has1_any (nb mb : Nat) (ps : List (Int × Int)) (x y : Int) (w : World) (hn : Blk w nb [.map (some mb)] 64) (hp : PairMap w mb ps) (hs : Small2 (x, y)) :
  Calls Tryz.prog 63 #[.int .i64 x, .int .i64 y, .pointer (some ⟨nb, 0, none⟩)] w fun e w' => e = .returned (.bool (setOf ps x y)) ∧ Below w.heap.size w w' := by
 have hl := hp.look hs
 unfold key2 at hl
 have n0 := hn.cell 0 rfl
 have HS : Hid (setOf ps x y = decide ((x, y) ∈ ps)) := rfl
 obtain ⟨b, hb⟩ : ∃ b, b = decide ((x, y) ∈ ps) := ⟨_, rfl⟩
 rw [← hb] at hl HS
 clear hn hp hs hb
 go_enter Tryz.func63, Tryz.ntmps63
 go_wp2
 go_ret
 exact ⟨ret_bool HS.out.symm, Below.refl _ _⟩
theorem hasFn_of {nb mb : Nat} {ps : List (Int × Int)} {w : World} (hn : Blk w nb [.map (some mb)] 64) (hp : PairMap w mb ps) : HasFn 63 #[.pointer (some ⟨nb, 0, none⟩)] (setOf ps) w :=
 fun w' hb x y hs => has1_any nb mb ps x y w' (hn.below hb) (hp.below hb) hs

/-- The two systems, the map under its name, and its pairs. -/
structure SimW (ab bb nb mb : Nat) (a b : Lts) (la ea lb eb : Value) (ps : List (Int × Int)) (w0 w : World) : Prop where
 bel : Below w0.heap.size w0 w
 low : w0.heap.size ≤ mb
 lown : w0.heap.size ≤ nb
 one : Blk w ab [.int .i64 a.states, .int .i64 a.initial, la, ea] 29
 two : Blk w bb [.int .i64 b.states, .int .i64 b.initial, lb, eb] 29
 name : Blk w nb [.map (some mb)] 64
 map : PairMap w mb ps
theorem SimW.below {ab bb nb mb : Nat} {a b : Lts} {la ea lb eb : Value} {ps : List (Int × Int)} {w0 w w' : World} (h : SimW ab bb nb mb a b la ea lb eb ps w0 w) (hb : Below w.heap.size w w') : SimW ab bb nb mb a b la ea lb eb ps w0 w' :=
 ⟨h.bel.trans (hb.mono h.bel.size), h.low, h.lown, h.one.below hb, h.two.below hb, h.name.below hb, h.map.below hb⟩
theorem SimW.push {ab bb nb mb : Nat} {a b : Lts} {la ea lb eb : Value} {ps : List (Int × Int)} {w0 w : World} (h : SimW ab bb nb mb a b la ea lb eb ps w0 w) {x y : Int} (hq : Small2 (x, y)) (hn : (x, y) ∉ ps) (hr : ps.length ≤ 1000000) :
  ∃ w', (Instr.mapUpdate 64 (.map (some mb)) (.agg #[.int .i64 x, .int .i64 y]) (.bool true)).run Tryz.prog w = .ok () w' ∧ SimW ab bb nb mb a b la ea lb eb (ps ++ [(x, y)]) w0 w' := by
 obtain ⟨w', h1, h2, h3⟩ := h.map.push hq hn hr
 exact ⟨w', h1, h.bel.grown h3 h.bel.size (fun k e => by cases e; exact h.low), h.low, h.lown, blk_grown h.one h3 (blk_set_ne h.one h.map.map), blk_grown h.two h3 (blk_set_ne h.two h.map.map), blk_grown h.name h3 (blk_set_ne h.name h.map.map), h2⟩
theorem SimW.kept {ab bb nb mb : Nat} {a b : Lts} {la ea lb eb : Value} {ps : List (Int × Int)} {w0 w w' : World} (h : SimW ab bb nb mb a b la ea lb eb ps w0 w) {k : Nat} (hg : w.grownBy w' (some k)) (hk : w0.heap.size ≤ k) (h1 : ab ≠ k) (h2 : bb ≠ k) (h3 : nb ≠ k) (h4 : mb ≠ k) : SimW ab bb nb mb a b la ea lb eb ps w0 w' :=
 ⟨h.bel.grown hg h.bel.size (fun j e => by cases e; exact hk), h.low, h.lown, blk_grown h.one hg h1, blk_grown h.two hg h2, blk_grown h.name hg h3, h.map.kept hg (by simpa using h4)⟩
theorem SimW.iter {ab bb nb mb : Nat} {a b : Lts} {la ea lb eb : Value} {ps : List (Int × Int)} {w0 w w' : World} (h : SimW ab bb nb mb a b la ea lb eb ps w0 w) {r m n : Nat} {seen : Array Nat} (hi : IterG w r m n seen) (hg : w.grownBy w' (some r)) (hr : w0.heap.size ≤ r) : SimW ab bb nb mb a b la ea lb eb ps w0 w' :=
 h.kept hg hr (blk_iter_ne h.one hi) (blk_iter_ne h.two hi) (blk_iter_ne h.name hi) (set_iter_ne h.map.map hi)
/-- Another map takes the name. -/
theorem SimW.turn {ab bb nb mb nm : Nat} {a b : Lts} {la ea lb eb : Value} {ps qs : List (Int × Int)} {w0 w : World} (h : SimW ab bb nb mb a b la ea lb eb ps w0 w) (hp : PairMap w nm qs) (hl : w0.heap.size ≤ nm) : SimW ab bb nb nm a b la ea lb eb qs w0 (w.setCell ⟨nb, 0, none⟩ (.map (some nm))) := by
 have hg := grown_setCell w ⟨nb, 0, none⟩ (.map (some nm))
 exact ⟨h.bel.setCell h.lown _, hl, h.lown, blk_grown h.one hg (blk_type_ne h.one h.name (by decide)), blk_grown h.two hg (blk_type_ne h.two h.name (by decide)), h.name.set 0 _, hp.kept hg (by simpa using (blk_set_ne h.name hp.map).symm)⟩
set_option maxRecDepth 100000 in
theorem PairMap.pushLit {w : World} {b : Nat} {ps : List (Int × Int)} (h : PairMap w b ps) {x y : Int} (hq : Small2 (x, y)) (hn : (x, y) ∉ ps) (hroom : ps.length ≤ 1000000) :
  ∃ w', (Instr.mapUpdate 64 (.map (some b)) (.agg #[.int .i64 x, .int .i64 y]) (.bool true)).run Tryz.prog w = .ok () w' ∧ PairMap w' b (ps ++ [(x, y)]) ∧ w.grownBy w' (some b) := by
 have h2 := h.push hq hn hroom
 unfold key2 at h2
 exact h2
set_option maxRecDepth 100000 in
theorem PairMap.lookLit {w : World} {b : Nat} {ps : List (Int × Int)} (h : PairMap w b ps) {x y : Int} (hq : Small2 (x, y)) :
  (Instr.lookup 64 (.map (some b)) (.agg #[.int .i64 x, .int .i64 y]) false).run Tryz.prog w = .ok (.bool (decide ((x, y) ∈ ps))) w := by
 have h2 := h.look hq
 unfold key2 at h2
 exact h2
/-- The first round in which the pair is missing. -/
def MissOk (q : Int × Int) (ps : List (Int × Int)) (m : Int) : Prop := (m = -1 ∧ q ∈ ps) ∨ (0 ≤ m ∧ q ∉ ps)
theorem MissOk.iff {q : Int × Int} {ps : List (Int × Int)} {m : Int} (h : MissOk q ps m) : m < 0 ↔ q ∈ ps := by
 rcases h with ⟨rfl, h⟩ | ⟨h0, h⟩
 ·exact ⟨fun _ => h, fun _ => by decide⟩
 ·exact ⟨fun h1 => by omega, fun h1 => absurd h1 h⟩
theorem MissOk.next {q : Int × Int} {A : PairAsk} {ps qs : List (Int × Int)} {m : Int} (h : MissOk q ps m) (hk : KeptA A ps qs) : m = -1 ∨ (0 ≤ m ∧ q ∉ qs) := by
 rcases h with ⟨rfl, -⟩ | ⟨h0, h⟩
 ·exact .inl rfl
 ·exact .inr ⟨h0, fun hc => h ((hk q).1 hc).1⟩
theorem pair_fresh {P x y : Nat} : ((x : Int), (y : Int)) ∉ pall P x ++ prow x y := by
 rw [List.mem_append, mem_pall, mem_prow]
 rintro (⟨⟨-, h⟩, -⟩ | ⟨-, -, h⟩)
 ·exact absurd h (Int.lt_irrefl _)
 ·exact absurd h (Int.lt_irrefl _)
theorem small_nat {x y : Nat} (hx : x < 40) (hy : y < 40) : Small2 ((x : Int), (y : Int)) := ⟨⟨by show (0 : Int) ≤ (x : Int); omega, by show (x : Int) < 40; omega⟩, by show (0 : Int) ≤ (y : Int); omega, by show (y : Int) < 40; omega⟩
theorem prow_len (x y : Nat) : (prow x y).length = y := by simp [prow]
theorem fill_len {P x y S : Nat} (hS : S ≤ 40) (hP : P ≤ 40) (hx : x < S) (hy : y < P) : (pall P x ++ prow x y).length ≤ 1000000 := by
 rw [List.length_append, pall_len, prow_len]
 have h := Nat.mul_le_mul (show x ≤ 40 by omega) hP
 omega

set_option maxRecDepth 100000 in
set_option maxHeartbeats 4000000 in
theorem simulation_any (lo S P : Nat) (κ : Int) (A : PairAsk) (a b : Lts) (la ea lb eb : Value) (w : World) (hκ : (κ != 1) = true) (hA : MonoA A) (hva : Valid a) (hvb : Valid b) (hS : (S : Int) = a.states) (hP : (P : Int) = b.states)
  (hla : SliceK 1 encS lo w la a.labels) (hea : SliceK 3 encE lo w ea a.edges) (hlb : SliceK 1 encS lo w lb b.labels) (heb : SliceK 3 encE lo w eb b.edges)
  (hSIM : ∀ (caps : Array Value) (N : PairSet) (w' : World), Below w.heap.size w w' → HasFn 63 caps N w' → ∀ x y : Int, Small2 (x, y) →
   Calls Tryz.prog 64 #[.agg #[.int .i64 a.states, .int .i64 a.initial, la, ea, .int .i64 b.states, .int .i64 b.initial, lb, eb, .func (.func 63) #[] caps], .int .i64 κ, .int .i64 x, .int .i64 y] w' fun e w'' => e = .returned (.bool (A N x y)) ∧ Below w'.heap.size w' w'') :
  Calls Tryz.prog 35 #[.agg #[.int .i64 a.states, .int .i64 a.initial, la, ea], .agg #[.int .i64 b.states, .int .i64 b.initial, lb, eb], .int .i64 κ] w fun e w' => ∃ (mb : Nat) (ps : List (Int × Int)) (m : Int), e = .returned (.tuple #[.map (some mb), .int .i64 m]) ∧ Below w.heap.size w w' ∧ PairMap w' mb ps ∧ GreatA A (allG a b) (setOf ps) ∧ (m < 0 ↔ (a.initial, b.initial) ∈ ps) := by
 obtain ⟨la1, la2, la3, rfl⟩ : ∃ p n c, la = .slice p n c := by obtain ⟨p, c, e, -⟩ := hla; exact ⟨_, _, _, e⟩
 obtain ⟨ea1, ea2, ea3, rfl⟩ : ∃ p n c, ea = .slice p n c := by obtain ⟨p, c, e, -⟩ := hea; exact ⟨_, _, _, e⟩
 obtain ⟨lb1, lb2, lb3, rfl⟩ : ∃ p n c, lb = .slice p n c := by obtain ⟨p, c, e, -⟩ := hlb; exact ⟨_, _, _, e⟩
 obtain ⟨eb1, eb2, eb3, rfl⟩ : ∃ p n c, eb = .slice p n c := by obtain ⟨p, c, e, -⟩ := heb; exact ⟨_, _, _, e⟩
 have hS40 : S ≤ 40 := by have := hva.st1; omega
 have hP40 : P ≤ 40 := by have := hvb.st1; omega
 have hi40 : Small2 (a.initial, b.initial) := ⟨⟨hva.in0, by have := hva.in1; have := hva.st1; show a.initial < 40; omega⟩, hvb.in0, by have := hvb.in1; have := hvb.st1; show b.initial < 40; omega⟩
 obtain ⟨ab, hab⟩ : ∃ ab, ab = w.heap.size := ⟨_, rfl⟩
 obtain ⟨bb, hbb⟩ : ∃ bb, bb = w.heap.size + 1 := ⟨_, rfl⟩
 obtain ⟨m0, hm0⟩ : ∃ m0, m0 = w.heap.size + 1 + 1 := ⟨_, rfl⟩
 obtain ⟨nb, hnb⟩ : ∃ nb, nb = w.heap.size + 1 + 1 + 1 := ⟨_, rfl⟩
 obtain ⟨W, hW⟩ : ∃ W, W = (((w.alloc (.cells #[.int .i64 a.states, .int .i64 a.initial, (.slice la1 la2 la3), (.slice ea1 ea2 ea3)] 29)).alloc (.cells #[.int .i64 b.states, .int .i64 b.initial, (.slice lb1 lb2 lb3), (.slice eb1 eb2 eb3)] 29)).alloc (.map #[] 0)).alloc (.cells #[.map (some (w.heap.size + 1 + 1))] 64) := ⟨_, rfl⟩
 have hb0 : Below w.heap.size w W := by rw [hW]; exact ((((Below.refl _ _).alloc (Nat.le_refl _) _).alloc (by simp) _).alloc (by simp; omega) _).alloc (by simp; omega) _
 have hM : SetMap W m0 [] := by
  have h := SetMap.made ((w.alloc (.cells #[.int .i64 a.states, .int .i64 a.initial, (.slice la1 la2 la3), (.slice ea1 ea2 ea3)] 29)).alloc (.cells #[.int .i64 b.states, .int .i64 b.initial, (.slice lb1 lb2 lb3), (.slice eb1 eb2 eb3)] 29))
  rw [World.size_alloc, World.size_alloc, ← hm0] at h
  rw [hW]
  exact h.below ((Below.refl _ _).alloc (Nat.le_refl _) _)
 have hSW : SimW ab bb nb m0 a b (.slice la1 la2 la3) (.slice ea1 ea2 ea3) (.slice lb1 lb2 lb3) (.slice eb1 eb2 eb3) [] w W := by
  refine ⟨hb0, by omega, by omega, ?_, ?_, ?_, ⟨hM, List.nodup_nil, fun q hq => by cases hq⟩⟩
  ·rw [hW, hab]; exact (((Blk.new w _ _).alloc _).alloc _).alloc _
  ·have h := ((Blk.new (w.alloc (.cells #[.int .i64 a.states, .int .i64 a.initial, (.slice la1 la2 la3), (.slice ea1 ea2 ea3)] 29)) [.int .i64 b.states, .int .i64 b.initial, (.slice lb1 lb2 lb3), (.slice eb1 eb2 eb3)] 29).alloc (.map #[] 0)).alloc (.cells #[.map (some (w.heap.size + 1 + 1))] 64)
   rw [World.size_alloc, ← hbb] at h
   rw [hW, ← hbb]
   exact h
  ·have h := Blk.new (((w.alloc (.cells #[.int .i64 a.states, .int .i64 a.initial, (.slice la1 la2 la3), (.slice ea1 ea2 ea3)] 29)).alloc (.cells #[.int .i64 b.states, .int .i64 b.initial, (.slice lb1 lb2 lb3), (.slice eb1 eb2 eb3)] 29)).alloc (.map #[] 0)) [.map (some (w.heap.size + 1 + 1))] 64
   rw [World.size_alloc, World.size_alloc, World.size_alloc, ← hnb, ← hm0] at h
   rw [hW, ← hm0]
   exact h
 have HSW := Lib.hid hSW
 have HW := Lib.hid hW
 have HAB := Lib.hid hab
 have HBB := Lib.hid hbb
 have HM0 := Lib.hid hm0
 have HNB := Lib.hid hnb
 have HA := Lib.hid hA
 have HI := Lib.hid hi40
 have HSIM := Lib.hid hSIM
 have HSS := Lib.hid hS
 have HPP := Lib.hid hP
 have HALL : Hid (setOf (pall P S) = allG a b) := setOf_all hS hP
 have hx0 := hSW.one.cell 0 rfl
 rw [← hS, hW, hab] at hx0
 have hmm := @run_makeMap Tryz.prog
 clear hA hva hvb hla hea hlb heb hSIM hi40 hab hbb hm0 hnb hW hb0 hM hSW hS hP
 go_enter Tryz.func35, Tryz.ntmps35
 go_wp2_with fail
 rw [← HW.out]
 rw [← HNB.out, ← HM0.out, ← HBB.out, ← HAB.out]
 clear hx0
 go_loopw [20] (fun v20 wr => ∃ x : Nat, x ≤ S ∧ v20 = .int .i64 x ∧ SimW ab bb nb m0 a b (.slice la1 la2 la3) (.slice ea1 ea2 ea3) (.slice lb1 lb2 lb3) (.slice eb1 eb2 eb3) (pall P x) w wr) (fun v20 _ => S - (intOf v20).toNat)
 case atStart => exact ⟨0, Nat.zero_le _, rfl, by simpa [pall] using HSW.out⟩
 case round =>
  clear HSW
  obtain ⟨x, hx, rfl, hsw⟩ := hrel
  obtain ⟨wC, rfl⟩ : ∃ wC : World, wC = wr := ⟨_, rfl⟩
  have HC := Lib.hid hsw
  by_cases hlt : x < S
  ·have hxi : (x : Int) < (S : Int) := by omega
   have p0 := hsw.two.cell 0 rfl
   rw [← HPP.out] at p0
   clear hsw
   go_wp2
   go_loopw [25] (fun v25 wr => ∃ y : Nat, y ≤ P ∧ v25 = .int .i64 y ∧ SimW ab bb nb m0 a b (.slice la1 la2 la3) (.slice ea1 ea2 ea3) (.slice lb1 lb2 lb3) (.slice eb1 eb2 eb3) (pall P x ++ prow x y) w wr) (fun v25 _ => P - (intOf v25).toNat)
   case atStart => exact ⟨0, Nat.zero_le _, rfl, by simpa [prow] using HC.out⟩
   case round =>
    clear p0
    obtain ⟨y, hy, rfl, hsw⟩ := hrel
    obtain ⟨wD, rfl⟩ : ∃ wD : World, wD = wr := ⟨_, rfl⟩
    have HD := Lib.hid hsw
    clear hsw
    by_cases hlt2 : y < P
    ·have hyi : (y : Int) < (P : Int) := by omega
     go_wp2
     refine wp_region_later (by kernel_rfl) (by kernel_rfl) ?_
     repeat (go_big_quiet_step ((fail)))
     refine wpQuiet_nil ?_
     intro _ hw9
     obtain ⟨nl, hw8⟩ := hw9
     subst hw8
     have HN := Lib.hid (HD.out.below nl.h)
     obtain ⟨w', hup, hsw'⟩ := HN.out.push (small_nat (by omega) (by omega)) pair_fresh (fill_len hS40 hP40 hlt hlt2)
     have n0 := HN.out.name.cell 0 rfl
     have HN2 := Lib.hid hsw'
     clear hsw'
     go_wp2
     go_roundw
     case rel => exact ⟨y + 1, by omega, by go_num, by rw [prow_succ, ← List.append_assoc]; exact HN2.out⟩
     case measure => simp [intOf]; omega
    ·have HY : Hid (y = P) := Lib.hid (show y = P by omega)
     go_wp2
     go_roundw
     case rel => exact ⟨x + 1, by omega, by go_num, by rw [pall_succ]; have h := HD.out; rw [HY.out] at h; exact h⟩
     case measure => simp [intOf]; omega
  ·have HXS : Hid (x = S) := Lib.hid (show x = S by omega)
   have a1 := hsw.one.cell 1 rfl
   have b1 := hsw.two.cell 1 rfl
   obtain ⟨ps0, hps0⟩ : ∃ ps0, ps0 = pall P S := ⟨_, rfl⟩
   have HPS := Lib.hid hps0
   have HSC : Hid (SimW ab bb nb m0 a b (.slice la1 la2 la3) (.slice ea1 ea2 ea3) (.slice lb1 lb2 lb3) (.slice eb1 eb2 eb3) ps0 w wC) := by unfold Hid; rw [hps0, ← HXS.out]; exact hsw
   have HLE : Hid (ps0.length ≤ 1600) := by
    unfold Hid
    rw [hps0, pall_len]
    exact Nat.mul_le_mul hS40 hP40
   have HAB0 : Hid (AboveA A (allG a b) (setOf ps0)) := by unfold Hid; rw [hps0, HALL.out]; exact AboveA.start _ _
   obtain ⟨W3, hW3⟩ : ∃ W3, W3 = wC.alloc (.cells #[.int .i64 a.initial, .int .i64 b.initial] 92) := ⟨_, rfl⟩
   obtain ⟨fb, hfb⟩ : ∃ fb, fb = wC.heap.size := ⟨_, rfl⟩
   have HS3 : Hid (SimW ab bb nb m0 a b (.slice la1 la2 la3) (.slice ea1 ea2 ea3) (.slice lb1 lb2 lb3) (.slice eb1 eb2 eb3) ps0 w W3) := by unfold Hid; rw [hW3]; exact HSC.out.below ((Below.refl _ _).alloc (Nat.le_refl _) _)
   have HF3 : Hid (Blk W3 fb [.int .i64 a.initial, .int .i64 b.initial] 92) := by unfold Hid; rw [hW3, hfb]; exact Blk.new _ _ _
   have HW3 := Lib.hid hW3
   have HFB := Lib.hid hfb
   obtain ⟨ai, hai⟩ : ∃ ai, ai = a.initial := ⟨_, rfl⟩
   obtain ⟨bi, hbi⟩ : ∃ bi, bi = b.initial := ⟨_, rfl⟩
   rw [← hai, ← hbi] at HW3 HF3 HI
   rw [← hai] at a1
   rw [← hbi] at b1
   have HAI := Lib.hid hai
   have HBI := Lib.hid hbi
   clear hsw hps0 hW3 hfb HC hx hai hbi
   go_wp2
   rw [← HW3.out, ← HFB.out]
   clear a1 b1
   go_loopg [12, 13] 1601 (fun gk v12 v13 wr => ∃ (mb : Nat) (ps : List (Int × Int)) (m r : Int), v12 = .int .i64 m ∧ v13 = .int .i64 r ∧ 0 ≤ r ∧ r + gk ≤ 1601 ∧ ps.length ≤ gk ∧ SimW ab bb nb mb a b (.slice la1 la2 la3) (.slice ea1 ea2 ea3) (.slice lb1 lb2 lb3) (.slice eb1 eb2 eb3) ps w wr ∧ Blk wr fb [.int .i64 ai, .int .i64 bi] 92 ∧ AboveA A (allG a b) (setOf ps) ∧ (m = -1 ∨ (0 ≤ m ∧ (ai, bi) ∉ ps)))
   case atStart => exact ⟨m0, ps0, -1, 0, rfl, rfl, by omega, by omega, Nat.le_succ_of_le HLE.out, HS3.out, HF3.out, HAB0.out, .inl rfl⟩
   case round =>
    clear HS3 HF3 HAB0 HLE HSC HPS HXS
    obtain ⟨mb, ps, m, r, rfl, rfl, hr0, hrg, hgk, hsw, hf, hab, hm⟩ := hrel
    obtain ⟨wE, rfl⟩ : ∃ wE : World, wE = wr := ⟨_, rfl⟩
    have HS := Lib.hid hsw
    have HF := Lib.hid hf
    have HAB2 := Lib.hid hab
    have HGK : Hid (r + gk ≤ 1601 ∧ ps.length ≤ gk) := ⟨hrg, hgk⟩
    have hr1 : r ≤ 1601 := by omega
    have n0 := hsw.name.cell 0 rfl
    have f0 := hf.cell 0 rfl
    have f1 := hf.cell 1 rfl
    have hlk := hsw.map.lookLit HI.out
    have hm2 : (m < 0 ∧ (ai, bi) ∈ ps) ∨ (m < 0 ∧ (ai, bi) ∉ ps) ∨ (¬ m < 0 ∧ (ai, bi) ∉ ps) := by
     rcases hm with h | ⟨h, h2⟩
     ·by_cases h3 : (ai, bi) ∈ ps
      ·exact .inl ⟨by omega, h3⟩
      ·exact .inr (.inl ⟨by omega, h3⟩)
     ·exact .inr (.inr ⟨by omega, h2⟩)
    have HM := Lib.hid hm
    have HR0 := Lib.hid hr0
    have a0 := hsw.one.cell 0 rfl
    have a1 := hsw.one.cell 1 rfl
    have a2 := hsw.one.cell 2 rfl
    have a3 := hsw.one.cell 3 rfl
    have b0 := hsw.two.cell 0 rfl
    have b1 := hsw.two.cell 1 rfl
    have b2 := hsw.two.cell 2 rfl
    have b3 := hsw.two.cell 3 rfl
    have hnl := hsw.name.lt
    have HPN := Lib.hid hsw.map.nodup
    have HPM := Lib.hid hsw.map.small
    have HML : Hid (mb < wE.heap.size) := hsw.map.map.lt
    have HLOW := Lib.hid hsw.bel.size
    obtain ⟨rbx, hrbx⟩ : ∃ rbx, rbx = wE.heap.size := ⟨_, rfl⟩
    obtain ⟨nm, hnm⟩ : ∃ nm, nm = wE.heap.size + 1 := ⟨_, rfl⟩
    obtain ⟨ir, hir⟩ : ∃ ir, ir = wE.heap.size + 1 + 1 := ⟨_, rfl⟩
    obtain ⟨PL, hPL⟩ : ∃ PL, PL = ps.length := ⟨_, rfl⟩
    have e1 : ((wE.alloc (.cells #[.int .i64 a.states, .int .i64 a.initial, (.slice la1 la2 la3), (.slice ea1 ea2 ea3), .int .i64 b.states, .int .i64 b.initial, (.slice lb1 lb2 lb3), (.slice eb1 eb2 eb3), .func (.func 63) #[] #[.pointer (some ⟨nb, 0, none⟩)]] 95)).alloc (.map #[] 0)).heap.size = wE.heap.size + 1 + 1 := by simp
    obtain ⟨W5, hW5⟩ : ∃ W5, W5 = (wE.alloc (.cells #[.int .i64 a.states, .int .i64 a.initial, (.slice la1 la2 la3), (.slice ea1 ea2 ea3), .int .i64 b.states, .int .i64 b.initial, (.slice lb1 lb2 lb3), (.slice eb1 eb2 eb3), .func (.func 63) #[] #[.pointer (some ⟨nb, 0, none⟩)]] 95)).alloc (.map #[] 0) := ⟨_, rfl⟩
    rw [← hW5] at e1
    have HE1 := Lib.hid e1
    obtain ⟨W6, hW6⟩ : ∃ W6, W6 = W5.alloc (.mapIter (some mb) PL #[] PL) := ⟨_, rfl⟩
    have hb5 : Below wE.heap.size wE W5 := by rw [hW5]; exact ((Below.refl _ _).alloc (Nat.le_refl _) _).alloc (by simp) _
    have hb56 : Below W5.heap.size W5 W6 := by rw [hW6]; exact (Below.refl _ _).alloc (Nat.le_refl _) _
    have hb6 : Below wE.heap.size wE W6 := hb5.trans (hb56.mono hb5.size)
    have HM5 : Hid (PairMap W5 mb ps) := hsw.map.below hb5
    have HS6 : Hid (SimW ab bb nb mb a b (.slice la1 la2 la3) (.slice ea1 ea2 ea3) (.slice lb1 lb2 lb3) (.slice eb1 eb2 eb3) ps w W6) := hsw.below hb6
    have HF6 : Hid (Blk W6 fb [.int .i64 ai, .int .i64 bi] 92) := hf.below hb6
    have HR6 : Hid (Blk W6 rbx [.int .i64 a.states, .int .i64 a.initial, (.slice la1 la2 la3), (.slice ea1 ea2 ea3), .int .i64 b.states, .int .i64 b.initial, (.slice lb1 lb2 lb3), (.slice eb1 eb2 eb3), .func (.func 63) #[] #[.pointer (some ⟨nb, 0, none⟩)]] 95) := by
     unfold Hid
     rw [hrbx]
     have h := (Blk.new wE [.int .i64 a.states, .int .i64 a.initial, (.slice la1 la2 la3), (.slice ea1 ea2 ea3), .int .i64 b.states, .int .i64 b.initial, (.slice lb1 lb2 lb3), (.slice eb1 eb2 eb3), .func (.func 63) #[] #[.pointer (some ⟨nb, 0, none⟩)]] 95).alloc (.map #[] 0)
     have h2 : Blk W5 wE.heap.size [.int .i64 a.states, .int .i64 a.initial, (.slice la1 la2 la3), (.slice ea1 ea2 ea3), .int .i64 b.states, .int .i64 b.initial, (.slice lb1 lb2 lb3), (.slice eb1 eb2 eb3), .func (.func 63) #[] #[.pointer (some ⟨nb, 0, none⟩)]] 95 := by rw [hW5]; exact h
     exact h2.below hb56
    have HN6 : Hid (PairMap W6 nm []) := by
     have h := SetMap.made (wE.alloc (.cells #[.int .i64 a.states, .int .i64 a.initial, (.slice la1 la2 la3), (.slice ea1 ea2 ea3), .int .i64 b.states, .int .i64 b.initial, (.slice lb1 lb2 lb3), (.slice eb1 eb2 eb3), .func (.func 63) #[] #[.pointer (some ⟨nb, 0, none⟩)]] 95))
     rw [World.size_alloc, ← hnm, ← hW5] at h
     exact ⟨h.below hb56, List.nodup_nil, fun q hq => by cases hq⟩
    have HI6 : Hid (IterG W6 ir mb PL #[]) := by
     have h := IterG.start W5 mb PL
     rw [← hW6, e1, ← hir] at h
     exact h
    have HW5 := Lib.hid hW5
    have HW6 := Lib.hid hW6
    have HRBX := Lib.hid hrbx
    have HNM := Lib.hid hnm
    have HIR := Lib.hid hir
    have HPL := Lib.hid hPL
    have HMN : Hid (mb ≠ nm) := by unfold Hid; have := HML.out; omega
    have hwn : w.heap.size ≤ nm := by have := HLOW.out; omega
    have hwi : w.heap.size ≤ ir := by have := HLOW.out; omega
    clear hsw hf hab hrg hgk hm hrbx hnm hir hPL hb5 hb56 hb6 hW5 hW6 e1
    have hpart : (m < 0 ∧ (ai, bi) ∈ ps) ∨ (m < 0 ∧ (ai, bi) ∉ ps) ∨ (¬ m < 0 ∧ (ai, bi) ∉ ps) := hm2
    clear hm2
    rcases hpart with ⟨h1, h2⟩ | ⟨h1, h2⟩ | ⟨h1, h2⟩
    case' inl =>
     have HMO : Hid (MissOk (ai, bi) ps m) := by
      rcases HM.out with h | ⟨h, -⟩
      ·exact .inl ⟨h, h2⟩
      ·exact absurd h1 (by omega)
     rw [decide_eq_true h2] at hlk
     have h3 : decide (m < 0) = true := decide_eq_true h1
     clear h2
    case' inr.inl =>
     have HMO : Hid (MissOk (ai, bi) ps r) := .inr ⟨HR0.out, h2⟩
     rw [decide_eq_false h2] at hlk
     have h3 : decide (m < 0) = true := decide_eq_true h1
     clear h2
    case' inr.inr =>
     have HMO : Hid (MissOk (ai, bi) ps m) := .inr ⟨by omega, h2⟩
     have h3 : decide (m < 0) = false := decide_eq_false h1
     clear h2 hlk
    all_goals (
     go_wp2_with (at_range; refine wpList_range_pairs rfl _ rfl rfl (by rw [← HW5.out]; exact HM5.out) ?_)
     try go_frame
     rw [← HW5.out]
     try rw [HE1.out]
     rw [← HIR.out, ← HNM.out, ← HRBX.out, ← HPL.out, ← HW6.out]
     clear a0 a1 a2 a3 b0 b1 b2 b3 n0 f0 f1
     go_loopg [68] 1601 (fun gk2 v68 wr => ∃ (seen : Array Nat) (qs : List (Int × Int)), PL - seen.size ≤ gk2 ∧ KeptSo (fun q => A (setOf ps) q.1 q.2) ps qs seen ∧ SimW ab bb nb mb a b (.slice la1 la2 la3) (.slice ea1 ea2 ea3) (.slice lb1 lb2 lb3) (.slice eb1 eb2 eb3) ps w wr ∧ Blk wr fb [.int .i64 ai, .int .i64 bi] 92 ∧ Blk wr rbx [.int .i64 a.states, .int .i64 a.initial, .slice la1 la2 la3, .slice ea1 ea2 ea3, .int .i64 b.states, .int .i64 b.initial, .slice lb1 lb2 lb3, .slice eb1 eb2 eb3, .func (.func 63) #[] #[.pointer (some ⟨nb, 0, none⟩)]] 95 ∧ PairMap wr nm qs ∧ IterG wr ir mb PL seen)
     case atStart => exact ⟨#[], [], by have := HGK.out; have := HPL.out; simp; omega, KeptSo.start _ _, HS6.out, HF6.out, HR6.out, HN6.out, HI6.out⟩
     case round =>
      clear HS6 HF6 HR6 HN6 HI6 HM5
      obtain ⟨seen, qs, hgk2, hks, hsw, hf, hrr, hn, hit⟩ := hrel
      obtain ⟨wF, rfl⟩ : ∃ wF : World, wF = wr := ⟨_, rfl⟩
      have HKS := Lib.hid hks
      have HSF := Lib.hid hsw
      have HFF := Lib.hid hf
      have HRF := Lib.hid hrr
      have HNF := Lib.hid hn
      have HIF := Lib.hid hit
      have HGK2 := Lib.hid hgk2
      clear hgk2 hks hsw hf hrr hn hit
      go_wp2_with (first
       | (at_next; refine wpList_next_pairs rfl _ rfl rfl HSF.out.map (by rw [← HPL.out]; exact HIF.out) ?_ ?_)
       | fail)
      ·intro hall
       have HKA : Hid (KeptA A ps qs) := HKS.out.all hall
       have n0 := HSF.out.name.cell 0 rfl
       have len1 := fun ty => HNF.out.len ty
       have len2 := fun ty => HSF.out.map.len ty
       obtain ⟨QL, hQL⟩ : ∃ QL, QL = qs.length := ⟨_, rfl⟩
       rw [← hQL] at len1
       rw [← HPL.out] at len2
       have HQL := Lib.hid hQL
       clear hall hQL
       by_cases hq : QL = PL
       ·have hqb : ((QL : Int) == (PL : Int)) = true := by subst hq; simp
        have HGR : Hid (GreatA A (allG a b) (setOf ps)) := HKA.out.done HNF.out.nodup HAB2.out (by rw [← HQL.out, ← HPL.out]; exact hq)
        clear hq
        go_wp2
        go_ret2
        exact ⟨mb, ps, _, rfl, HSF.out.bel, HSF.out.map, HGR.out, by rw [← HAI.out, ← HBI.out]; exact HMO.out.iff⟩
       ·have hqb : ((QL : Int) == (PL : Int)) = false := by simp; omega
        have HLT : Hid (qs.length < ps.length) := by
         unfold Hid
         have h1 := HKA.out.len HNF.out.nodup
         have h2 := HQL.out
         have h3 := HPL.out
         omega
        have HST := Lib.hid (HSF.out.turn HNF.out hwn)
        have HFT : Hid (Blk (wF.setCell ⟨nb, 0, none⟩ (.map (some nm))) fb [.int .i64 ai, .int .i64 bi] 92) := blk_grown HFF.out (grown_setCell wF ⟨nb, 0, none⟩ _) (blk_type_ne HFF.out HSF.out.name (by decide))
        have HABN : Hid (AboveA A (allG a b) (setOf qs)) := HKA.out.next HA.out HAB2.out
        have n1 := HSF.out.name.frozen 0
        clear hq
        go_wp2
        go_roundg qs.length
        case measure => have := HLT.out; have := HGK.out; omega
        case rel => exact ⟨nm, qs, _, r + 1, rfl, by go_num, by have := HR0.out; omega, by have := HLT.out; have := HGK.out; omega, Nat.le_refl _, HST.out, HFT.out, HABN.out, HMO.out.next HKA.out⟩
      ·intro i hi x2 y2 w1 hxy hns hit1 hg1 hen
       rw [← HPL.out] at hit1
       have hsm : Small2 (x2, y2) := HPM.out (x2, y2) (by rw [← hxy]; exact List.getElem_mem hi)
       have hs1 : SimW ab bb nb mb a b (.slice la1 la2 la3) (.slice ea1 ea2 ea3) (.slice lb1 lb2 lb3) (.slice eb1 eb2 eb3) ps w w1 := HSF.out.iter HIF.out hg1 hwi
       have hf1 := blk_grown HFF.out hg1 (blk_iter_ne HFF.out HIF.out)
       have hr1 := blk_grown HRF.out hg1 (blk_iter_ne HRF.out HIF.out)
       have hn1 : PairMap w1 nm qs := HNF.out.kept hg1 (by simpa using set_iter_ne HNF.out.map HIF.out)
       have hb2 : Below w1.heap.size w1 (w1.alloc (.cells #[.int .i64 x2, .int .i64 y2] 92)) := (Below.refl _ _).alloc (Nat.le_refl _) _
       obtain ⟨W8, hW8⟩ : ∃ W8, W8 = w1.alloc (.cells #[.int .i64 x2, .int .i64 y2] 92) := ⟨_, rfl⟩
       obtain ⟨pb, hpb⟩ : ∃ pb, pb = w1.heap.size := ⟨_, rfl⟩
       rw [← hW8] at hb2
       have HS8 : Hid (SimW ab bb nb mb a b (.slice la1 la2 la3) (.slice ea1 ea2 ea3) (.slice lb1 lb2 lb3) (.slice eb1 eb2 eb3) ps w W8) := hs1.below hb2
       have HF8 : Hid (Blk W8 fb [.int .i64 ai, .int .i64 bi] 92) := hf1.below hb2
       have HR8 : Hid (Blk W8 rbx [.int .i64 a.states, .int .i64 a.initial, .slice la1 la2 la3, .slice ea1 ea2 ea3, .int .i64 b.states, .int .i64 b.initial, .slice lb1 lb2 lb3, .slice eb1 eb2 eb3, .func (.func 63) #[] #[.pointer (some ⟨nb, 0, none⟩)]] 95) := hr1.below hb2
       have HN8 : Hid (PairMap W8 nm qs) := hn1.below hb2
       have HI8 : Hid (IterG W8 ir mb PL (seen.push i)) := hit1.below hb2
       have HP8 : Hid (Blk W8 pb [.int .i64 x2, .int .i64 y2] 92) := by unfold Hid; rw [hW8, hpb]; exact Blk.new _ _ _
       have HC8 := Lib.hid (HSIM.out #[.pointer (some ⟨nb, 0, none⟩)] (setOf ps) W8 HS8.out.bel (hasFn_of HS8.out.name HS8.out.map) x2 y2 hsm)
       obtain ⟨g, hg⟩ : ∃ g, g = A (setOf ps) x2 y2 := ⟨_, rfl⟩
       rw [← hg] at HC8
       have HGG := Lib.hid hg
       have HW8 := Lib.hid hW8
       have HPB := Lib.hid hpb
       have HSM2 := Lib.hid hsm
       have HXY := Lib.hid hxy
       have HNS := Lib.hid hns
       have HII := Lib.hid hi
       have r0 := HR8.out.cell 0 rfl
       have r1 := HR8.out.cell 1 rfl
       have r2 := HR8.out.cell 2 rfl
       have r3 := HR8.out.cell 3 rfl
       have r4 := HR8.out.cell 4 rfl
       have r5 := HR8.out.cell 5 rfl
       have r6 := HR8.out.cell 6 rfl
       have r7 := HR8.out.cell 7 rfl
       have r8 := HR8.out.cell 8 rfl
       have hrl := (hr1 : Blk w1 rbx [.int .i64 a.states, .int .i64 a.initial, .slice la1 la2 la3, .slice ea1 ea2 ea3, .int .i64 b.states, .int .i64 b.initial, .slice lb1 lb2 lb3, .slice eb1 eb2 eb3, .func (.func 63) #[] #[.pointer (some ⟨nb, 0, none⟩)]] 95).lt
       rw [hW8] at r0 r1 r2 r3 r4 r5 r6 r7 r8
       clear hit1 hsm hs1 hf1 hr1 hn1 hb2 hW8 hpb hg hxy hns hg1
       go_wp2_with fail
       rw [← HW8.out]
       try rw [← HPB.out]
       refine Calls.mono HC8.out ?_
       rintro e w9 ⟨rfl, hb9⟩
       have HS9 := Lib.hid (HS8.out.below hb9)
       have HF9 := Lib.hid (HF8.out.below hb9)
       have HR9 := Lib.hid (HR8.out.below hb9)
       have HN9 := Lib.hid (HN8.out.below hb9)
       have HI9 := Lib.hid (HI8.out.below hb9)
       have p0 := (HP8.out.below hb9).cell 0 rfl
       have p1 := (HP8.out.below hb9).cell 1 rfl
       clear hb9 r0 r1 r2 r3 r4 r5 r6 r7 r8 hrl hen
       cases g
       ·have HKN := Lib.hid (HKS.out.noAt HII.out HNS.out HXY.out (show A (setOf ps) x2 y2 = false from HGG.out.symm))
        clear p0 p1
        go_wp2
        go_roundg (PL - (seen.size + 1))
        case measure => have := HGK2.out; have := HKN.out.push_size; have := HPL.out; omega
        case rel => exact ⟨seen.push i, qs, by simp, HKN.out, HS9.out, HF9.out, HR9.out, HN9.out, HI9.out⟩
       ·have HKY := Lib.hid (HKS.out.yesAt HII.out HNS.out HXY.out (show A (setOf ps) x2 y2 = true from HGG.out.symm))
        have hfr := HKS.out.freshAt HPN.out HII.out HNS.out HXY.out
        have hfew := HKS.out.few HN9.out.nodup
        obtain ⟨w10, hup, hn10, hg10⟩ := HN9.out.pushLit HSM2.out hfr (by have := HGK.out; omega)
        have HN10 := Lib.hid hn10
        have HS10 : Hid (SimW ab bb nb mb a b (.slice la1 la2 la3) (.slice ea1 ea2 ea3) (.slice lb1 lb2 lb3) (.slice eb1 eb2 eb3) ps w w10) := HS9.out.kept hg10 hwn (blk_set_ne HS9.out.one HN9.out.map) (blk_set_ne HS9.out.two HN9.out.map) (blk_set_ne HS9.out.name HN9.out.map) HMN.out
        have HF10 := Lib.hid (blk_grown HF9.out hg10 (blk_set_ne HF9.out HN9.out.map))
        have HR10 := Lib.hid (blk_grown HR9.out hg10 (blk_set_ne HR9.out HN9.out.map))
        have HI10 : Hid (IterG w10 ir mb PL (seen.push i)) := HI9.out.kept hg10 (by simpa using (set_iter_ne HN9.out.map HI9.out).symm)
        clear hfr hfew hn10 hg10
        go_wp2
        go_roundg (PL - (seen.size + 1))
        case measure => have := HGK2.out; have := HKY.out.push_size; have := HPL.out; omega
        case rel => exact ⟨seen.push i, qs ++ [(x2, y2)], by simp, HKY.out, HS10.out, HF10.out, HR10.out, HN10.out, HI10.out⟩)

end Go.Proofs.YtbjbjbnbapeajaaGreatDoor

namespace Go.Proofs.YtbjbjbnbapeajaaGreatDoor
open Go Go.RowKit

def idxE (P : Edge → Bool) (xs : List Edge) : Int := if xs.findIdx P < xs.length then (xs.findIdx P : Nat) else -1
theorem idxE_neg {P : Edge → Bool} {xs : List Edge} : idxE P xs = -1 ↔ ∀ x ∈ xs, P x = false := by
 unfold idxE
 by_cases h : xs.findIdx P < xs.length
 ·rw [if_pos h]
  refine ⟨fun e => by omega, fun h2 => ?_⟩
  obtain ⟨x, hx, hp⟩ := List.findIdx_lt_length.1 h
  rw [h2 x hx] at hp
  cases hp
 ·rw [if_neg h]
  refine ⟨fun _ x hx => ?_, fun _ => rfl⟩
  cases hp : P x
  ·rfl
  ·exact absurd (List.findIdx_lt_length.2 ⟨x, hx, hp⟩) h
theorem idxE_any {P : Edge → Bool} {xs : List Edge} : decide (0 ≤ idxE P xs) = xs.any P := by
 unfold idxE
 by_cases h : xs.findIdx P < xs.length
 ·rw [if_pos h]
  obtain ⟨x, hx, hp⟩ := List.findIdx_lt_length.1 h
  rw [List.any_eq_true.2 ⟨x, hx, hp⟩]
  simp
 ·rw [if_neg h]
  have : xs.any P = false := by
   rw [List.any_eq_false]
   intro x hx hp
   exact h (List.findIdx_lt_length.2 ⟨x, hx, hp⟩)
  rw [this]
  rfl
/-- A function of one element that answers P, and turns nothing that was there. -/
def AskE (fid : Nat) (caps : Array Value) (P : Edge → Bool) (xs : List Edge) (B : Nat) (w : World) : Prop :=
 ∀ w', Below B w w' → ∀ x ∈ xs, Calls Tryz.prog fid (#[.agg #[.int .i64 x.src, .int .i64 x.lab, .int .i64 x.dst]] ++ caps) w' fun e w'' => e = .returned (.bool (P x)) ∧ Below w'.heap.size w' w''

set_option maxRecDepth 100000 in
set_option maxHeartbeats 1000000 in
theorem IndexFuncE (lo : Nat) (v : Value) (xs : List Edge) (fid : Nat) (caps : Array Value) (P : Edge → Bool) (w : World) (hv : SliceK 3 encE lo w v xs) (eg : ∀ args w, (callFunc fid args).run Tryz.prog w = .ok (.enter fid args) w) (hP : AskE fid caps P xs w.heap.size w) :
  Calls Tryz.prog 96 #[v, .func (.func fid) #[] caps] w fun e w' => e = .returned (.int .i64 (idxE P xs)) ∧ Below w.heap.size w w' := by
 obtain ⟨a, c, rfl, hcn, hcc, hrow⟩ := hv
 have HR := Lib.hid hrow
 have HP := Lib.hid hP
 clear hP hrow
 go_enter Tryz.func96, Tryz.ntmps96
 go_wp2_with fail
 go_loopw [8] (fun i wr => ∃ k : Nat, k ≤ xs.length ∧ i = .int .i64 k ∧ Below w.heap.size w wr ∧ ∀ j (h : j < xs.length), j < k → P xs[j] = false) (fun i _ => xs.length - (intOf i).toNat)
 case atStart => exact ⟨0, Nat.zero_le _, rfl, Below.refl _ _, fun _ _ h => by omega⟩
 case round =>
  obtain ⟨k, hk, rfl, hbl, ha⟩ := hrel
  have HA := Lib.hid ha
  have HBL := Lib.hid hbl
  clear ha
  by_cases hlt : k < xs.length
  ·obtain ⟨b1, o1, rfl, -, hbs, c1, c2, c3⟩ := (HR.out.below hbl).edge hlt
   clear hbl
   obtain ⟨x, hx⟩ : ∃ x, x = xs[k] := ⟨_, rfl⟩
   rw [← hx] at c1 c2 c3
   have HX := Lib.hid hx
   have HC := Lib.hid (HP.out wr HBL.out x (by rw [hx]; exact List.getElem_mem _))
   obtain ⟨b, hb⟩ : ∃ b, b = P x := ⟨_, rfl⟩
   rw [← hb] at HC
   have HB := Lib.hid hb
   clear hb hx
   go_wp2_with fail
   refine Calls.mono HC.out ?_
   rintro e w1 ⟨rfl, hb1⟩
   have HB1 := Lib.hid (HBL.out.trans (hb1.mono HBL.out.size))
   clear hb1 c1 c2 c3
   cases b
   ·go_wp2_with fail
    go_roundw
    case rel => exact ⟨k + 1, by omega, by go_num, HB1.out, fun j h hj => by
     by_cases e : j = k
     ·subst e; rw [← HX.out]; exact HB.out.symm
     ·exact HA.out j h (by omega)⟩
    case measure => simp [intOf]; omega
   ·have HI : Hid (idxE P xs = (k : Int)) := by
     unfold Hid idxE
     have h1 : xs.findIdx P = k := by
      rw [List.findIdx_eq hlt]
      exact ⟨by rw [← HX.out]; exact HB.out.symm, fun j hj => HA.out j (by omega) hj⟩
     rw [h1, if_pos hlt]
    go_wp2_with fail
    go_ret
    exact ⟨ret_int HI.out.symm, HB1.out⟩
  ·clear hbl
   have HI : Hid (idxE P xs = -1) := by
    unfold Hid
    rw [idxE_neg]
    intro x hx
    obtain ⟨j, hj, rfl⟩ := List.mem_iff_getElem.1 hx
    exact HA.out j hj (by omega)
   go_wp2_with fail
   go_ret
   exact ⟨ret_int HI.out.symm, HBL.out⟩

theorem ContainsFuncE (lo : Nat) (v : Value) (xs : List Edge) (fid : Nat) (caps : Array Value) (P : Edge → Bool) (w : World) (hv : SliceK 3 encE lo w v xs) (eg : ∀ args w, (callFunc fid args).run Tryz.prog w = .ok (.enter fid args) w) (hP : AskE fid caps P xs w.heap.size w) :
  Calls Tryz.prog 73 #[v, .func (.func fid) #[] caps] w fun e w' => e = .returned (.bool (xs.any P)) ∧ Below w.heap.size w w' := by
 have HC := Lib.hid (IndexFuncE lo v xs fid caps P w hv eg hP)
 clear hP
 go_enter Tryz.func73, Tryz.ntmps73
 go_wp2_with fail
 refine Calls.mono HC.out ?_
 rintro e w' ⟨rfl, hb⟩
 have HB := Lib.hid hb
 clear hb
 go_wp2_with fail
 go_ret
 exact ⟨ret_bool idxE_any, HB.out⟩

end Go.Proofs.YtbjbjbnbapeajaaGreatDoor

namespace Go.Proofs.YtbjbjbnbapeajaaGreatDoor
open Go Go.RowKit

theorem box_belowL (w : World) (a : Array Value) (T : TypeId) : Below w.heap.size w (w.alloc (.cells a T)) := (Below.refl _ _).alloc (Nat.le_refl _) _

set_option maxRecDepth 100000 in
set_option maxHeartbeats 1000000 in
theorem below_any (lo : Nat) (t : Lts) (lv ev : Value) (w : World) (hv : Valid t) (hl : SliceK 1 encS lo w lv t.labels) (he : SliceK 3 encE lo w ev t.edges) :
  Calls Tryz.prog 71 #[.agg #[.int .i64 t.states, .int .i64 t.initial, lv, ev]] w fun e w' => ∃ (mb : Nat) (ps : List (Int × Int)), e = .returned (.map (some mb)) ∧ Below w.heap.size w w' ∧ PairMap w' mb ps ∧ Great t t (allG t t) (setOf ps) := by
 obtain ⟨tb, htb⟩ : ∃ tb, tb = w.heap.size := ⟨_, rfl⟩
 obtain ⟨W, hW⟩ : ∃ W, W = w.alloc (.cells #[.int .i64 t.states, .int .i64 t.initial, lv, ev] 29) := ⟨_, rfl⟩
 have hb : Below w.heap.size w W := by rw [hW]; exact box_belowL _ _ _
 have hT : Blk W tb [.int .i64 t.states, .int .i64 t.initial, lv, ev] 29 := by rw [hW, htb]; exact Blk.new w _ _
 have h0 := hv.st0
 have HSI := Lib.hid (simulation_any lo t.states.toNat t.states.toNat 0 (ansG t t) t t lv ev lv ev W (by decide) (ansG_monoA t t) hv hv (by omega) (by omega) (hl.below hb) (he.below hb) (hl.below hb) (he.below hb) (fun caps N w' hw' hH x y _ =>
  simulated_plain lo 63 caps N t t lv ev lv ev x y w' hv hv ((hl.below hb).below hw') ((he.below hb).below hw') ((hl.below hb).below hw') ((he.below hb).below hw') (fun args w => by kernel_rfl) hH))
 have HB := Lib.hid hb
 have HW := Lib.hid hW
 have HTB := Lib.hid htb
 have hsW : w.heap.size ≤ W.heap.size := hb.size
 have t0 := hT.cell 0 rfl
 have t1 := hT.cell 1 rfl
 have t2 := hT.cell 2 rfl
 have t3 := hT.cell 3 rfl
 rw [hW, htb] at t0 t1 t2 t3
 clear hv hl he h0 hb hW htb hT
 go_enter Tryz.func71, Tryz.ntmps71
 go_wp2_with fail
 rw [← HW.out]
 try rw [← HTB.out]
 refine Calls.mono HSI.out ?_
 rintro e w1 ⟨mb, ps, m, rfl, hb1, hm, hg, -⟩
 have HB1 := Lib.hid (HB.out.trans (hb1.mono hsW))
 have HM := Lib.hid hm
 have HG := Lib.hid hg.great
 clear hb1 hm hg t0 t1 t2 t3 HSI
 go_wp2
 go_ret
 exact ⟨mb, ps, rfl, HB1.out, HM.out, HG.out⟩

set_option maxRecDepth 100000 in
set_option maxHeartbeats 1000000 in
theorem lb11_any (eb nb mb : Nat) (ps : List (Int × Int)) (es el ed os ol od : Int) (w : World) (he : Blk w eb [.int .i64 es, .int .i64 el, .int .i64 ed] 73) (hn : Blk w nb [.map (some mb)] 64) (hp : PairMap w mb ps) (h1 : Small2 (ed, od)) :
  Calls Tryz.prog 74 #[.agg #[.int .i64 os, .int .i64 ol, .int .i64 od], .pointer (some ⟨eb, 0, none⟩), .pointer (some ⟨nb, 0, none⟩)] w fun e w' => e = .returned (.bool (os == es && ol == el && setOf ps ed od && !(setOf ps od ed))) ∧ Below w.heap.size w w' := by
 have hb := box_belowL w #[.int .i64 os, .int .i64 ol, .int .i64 od] 73
 have HB := Lib.hid hb
 have l1 := (hp.below hb).lookLit h1
 have l2 := (hp.below hb).lookLit (x := od) (y := ed) ⟨h1.2, h1.1⟩
 have e0 := he.cell 0 rfl
 have e1 := he.cell 1 rfl
 have e2 := he.cell 2 rfl
 have n0 := hn.cell 0 rfl
 have hel := he.lt
 have hnl := hn.lt
 have HS1 : Hid (setOf ps ed od = decide ((ed, od) ∈ ps)) := rfl
 have HS2 : Hid (setOf ps od ed = decide ((od, ed) ∈ ps)) := rfl
 obtain ⟨c1, hc1⟩ : ∃ c, c = decide ((ed, od) ∈ ps) := ⟨_, rfl⟩
 obtain ⟨c2, hc2⟩ : ∃ c, c = decide ((od, ed) ∈ ps) := ⟨_, rfl⟩
 rw [← hc1] at l1 HS1
 rw [← hc2] at l2 HS2
 obtain ⟨R, hR⟩ : ∃ R, R = (os == es && ol == el && setOf ps ed od && !(setOf ps od ed)) := ⟨_, rfl⟩
 rw [← hR]
 have HR : Hid (R = (os == es && ol == el && c1 && !c2)) := by unfold Hid; rw [hR, HS1.out, HS2.out]
 clear he hn hp h1 hb HS1 HS2 hc1 hc2 hR
 go_enter Tryz.func74, Tryz.ntmps74
 cases g1 : (os == es)
 ·have HQ : Hid (R = false) := by rw [HR.out, g1]; rfl
  go_wp2
  go_ret
  exact ⟨ret_bool HQ.out.symm, HB.out⟩
 ·cases g2 : (ol == el)
  ·have HQ : Hid (R = false) := by rw [HR.out, g1, g2]; rfl
   go_wp2
   go_ret
   exact ⟨ret_bool HQ.out.symm, HB.out⟩
  ·cases c1
   ·have HQ : Hid (R = false) := by rw [HR.out, g1, g2]; rfl
    go_wp2
    go_ret
    exact ⟨ret_bool HQ.out.symm, HB.out⟩
   ·cases c2
    ·have HQ : Hid (R = true) := by rw [HR.out, g1, g2]; rfl
     go_wp2
     go_ret
     exact ⟨ret_bool HQ.out.symm, HB.out⟩
    ·have HQ : Hid (R = false) := by rw [HR.out, g1, g2]; rfl
     go_wp2
     go_ret
     exact ⟨ret_bool HQ.out.symm, HB.out⟩

theorem edge_small {t : Lts} (hv : Valid t) {e o : Edge} (he : e ∈ t.edges) (ho : o ∈ t.edges) : Small2 (e.dst, o.dst) := by
 obtain ⟨i, hi, rfl⟩ := List.mem_iff_getElem.1 he
 obtain ⟨j, hj, rfl⟩ := List.mem_iff_getElem.1 ho
 have h1 := hv.edge i hi
 have h2 := hv.edge j hj
 have h3 := hv.st1
 exact ⟨⟨h1.d0, by have := h1.d1; show t.edges[i].dst < 40; omega⟩, h2.d0, by have := h2.d1; show t.edges[j].dst < 40; omega⟩

set_option maxRecDepth 100000 in
set_option maxHeartbeats 1000000 in
theorem lb1_any (lo tb nb mb : Nat) (t : Lts) (lv ev : Value) (ps : List (Int × Int)) (e : Edge) (w : World) (hv : Valid t) (he : SliceK 3 encE lo w ev t.edges) (hT : Blk w tb [.int .i64 t.states, .int .i64 t.initial, lv, ev] 29) (hn : Blk w nb [.map (some mb)] 64) (hp : PairMap w mb ps) (hm : e ∈ t.edges) :
  Calls Tryz.prog 72 #[.agg #[.int .i64 e.src, .int .i64 e.lab, .int .i64 e.dst], .pointer (some ⟨tb, 0, none⟩), .pointer (some ⟨nb, 0, none⟩)] w fun r w' => r = .returned (.bool (brother t (setOf ps) e)) ∧ Below w.heap.size w w' := by
 obtain ⟨eb, heb⟩ : ∃ eb, eb = w.heap.size := ⟨_, rfl⟩
 obtain ⟨W, hW⟩ : ∃ W, W = w.alloc (.cells #[.int .i64 e.src, .int .i64 e.lab, .int .i64 e.dst] 73) := ⟨_, rfl⟩
 have hb : Below w.heap.size w W := by rw [hW]; exact box_belowL _ _ _
 have hE : Blk W eb [.int .i64 e.src, .int .i64 e.lab, .int .i64 e.dst] 73 := by rw [hW, heb]; exact Blk.new w _ _
 have HCF := Lib.hid (ContainsFuncE lo ev t.edges 74 #[.pointer (some ⟨eb, 0, none⟩), .pointer (some ⟨nb, 0, none⟩)] (fun o => o.src == e.src && o.lab == e.lab && setOf ps e.dst o.dst && !(setOf ps o.dst e.dst)) W (he.below hb) (fun args w => by kernel_rfl)
  fun w' hb' o ho => lb11_any eb nb mb ps e.src e.lab e.dst o.src o.lab o.dst w' (hE.below hb') ((hn.below hb).below hb') ((hp.below hb).below hb') (edge_small hv hm ho))
 have HBR : Hid (brother t (setOf ps) e = t.edges.any fun o => o.src == e.src && o.lab == e.lab && setOf ps e.dst o.dst && !(setOf ps o.dst e.dst)) := rfl
 obtain ⟨c, hc⟩ : ∃ c, c = t.edges.any fun o => o.src == e.src && o.lab == e.lab && setOf ps e.dst o.dst && !(setOf ps o.dst e.dst) := ⟨_, rfl⟩
 rw [← hc] at HCF HBR
 have HB := Lib.hid hb
 have HW := Lib.hid hW
 have HEB := Lib.hid heb
 have hsW : w.heap.size ≤ W.heap.size := hb.size
 have t3 := hT.cell 3 rfl
 have htl := hT.lt
 clear hv he hT hn hp hm hb hE hW heb hc
 go_enter Tryz.func72, Tryz.ntmps72
 go_wp2_with fail
 rw [← HW.out]
 try rw [← HEB.out]
 refine Calls.mono HCF.out ?_
 rintro r w1 ⟨rfl, hb1⟩
 have HB1 := Lib.hid (HB.out.trans (hb1.mono hsW))
 clear hb1 HCF t3
 go_wp2
 go_ret
 exact ⟨ret_bool HBR.out.symm, HB1.out⟩

set_option maxRecDepth 100000 in
set_option maxHeartbeats 1000000 in
theorem littleBrothers_any (lo : Nat) (t : Lts) (lv ev : Value) (w : World) (hv : Valid t) (hl : SliceK 1 encS lo w lv t.labels) (he : SliceK 3 encE lo w ev t.edges) :
  Calls Tryz.prog 51 #[.agg #[.int .i64 t.states, .int .i64 t.initial, lv, ev]] w fun e w' => ∃ (tb nb mb : Nat) (ps : List (Int × Int)), e = .returned (.func (.func 72) #[] #[.pointer (some ⟨tb, 0, none⟩), .pointer (some ⟨nb, 0, none⟩)]) ∧ Below w.heap.size w w'
   ∧ Blk w' tb [.int .i64 t.states, .int .i64 t.initial, lv, ev] 29 ∧ Blk w' nb [.map (some mb)] 64 ∧ PairMap w' mb ps ∧ Great t t (allG t t) (setOf ps) := by
 obtain ⟨tb, htb⟩ : ∃ tb, tb = w.heap.size := ⟨_, rfl⟩
 obtain ⟨W, hW⟩ : ∃ W, W = w.alloc (.cells #[.int .i64 t.states, .int .i64 t.initial, lv, ev] 29) := ⟨_, rfl⟩
 have hb : Below w.heap.size w W := by rw [hW]; exact box_belowL _ _ _
 have hT : Blk W tb [.int .i64 t.states, .int .i64 t.initial, lv, ev] 29 := by rw [hW, htb]; exact Blk.new w _ _
 have HBE := Lib.hid (below_any lo t lv ev W hv (hl.below hb) (he.below hb))
 have HB := Lib.hid hb
 have HT := Lib.hid hT
 have HW := Lib.hid hW
 have HTB := Lib.hid htb
 have hsW : w.heap.size ≤ W.heap.size := hb.size
 have t0 := hT.cell 0 rfl
 have t1 := hT.cell 1 rfl
 have t2 := hT.cell 2 rfl
 have t3 := hT.cell 3 rfl
 rw [hW, htb] at t0 t1 t2 t3
 clear hv hl he hb hT hW htb
 go_enter Tryz.func51, Tryz.ntmps51
 go_wp2_with fail
 rw [← HW.out]
 try rw [← HTB.out]
 refine Calls.mono HBE.out ?_
 rintro e w1 ⟨mb, ps, rfl, hb1, hm, hg⟩
 have hb2 := box_belowL w1 #[.map (some mb)] 64
 have HB1 := Lib.hid (HB.out.trans ((hb1.trans (hb2.mono hb1.size)).mono hsW))
 have HT1 := Lib.hid ((HT.out.below hb1).below hb2)
 have HN1 := Lib.hid (Blk.new w1 [.map (some mb)] 64)
 have HM := Lib.hid (hm.below hb2)
 have HG := Lib.hid hg
 clear hb1 hb2 hm hg t0 t1 t2 t3 HBE
 go_wp2
 go_ret
 exact ⟨tb, _, mb, ps, rfl, HB1.out, HT1.out, HN1.out, HM.out, HG.out⟩

end Go.Proofs.YtbjbjbnbapeajaaGreatDoor

namespace Go.Proofs.YtbjbjbnbapeajaaGreatDoor
open Go Go.RowKit

/-- The rows lie in blocks of another type than t. -/
theorem own_type_ne {w : World} {base e size n : Nat} {v : Value} {xs : List Value} (h : w.ownsRow base e size v n xs) {b : Nat} {cs : Array Value} {t : TypeId} {f : Nat × Nat} (hb : w.heap[b]? = some (.cells cs t f)) (he : e ≠ t) : v.ownBlock = none ∨ v.ownBlock ≠ some b := by
 rcases h.2 with ⟨rfl, -⟩ | ⟨g, c, u, rfl, -, hg, -⟩
 ·exact .inl rfl
 ·refine .inr fun e1 => ?_
  simp only [Value.ownBlock, Option.some.injEq] at e1
  subst e1
  rw [hb] at hg
  simp only [Option.some.injEq, Obj.cells.injEq] at hg
  exact he hg.2.1.symm
end Go.Proofs.YtbjbjbnbapeajaaGreatDoor

namespace Go.Proofs.YtbjbjbnbapeajaaGreatDoor
open Go Go.RowKit

theorem flat_len {α : Type} {k : Nat} {enc : α → List Value} (hk : ∀ x, (enc x).length = k) (xs : List α) : (xs.flatMap enc).length = xs.length * k := by
 induction xs with
 | nil => simp
 | cons x r ih => rw [List.flatMap_cons, List.length_append, hk, ih, List.length_cons, Nat.succ_mul]; omega
theorem flat_at {α : Type} {k : Nat} {enc : α → List Value} (hk : ∀ x, (enc x).length = k) : ∀ (xs : List α) (i : Nat) (h : i < xs.length) (j : Nat), j < k → (xs.flatMap enc)[i * k + j]? = (enc xs[i])[j]?
 | x :: r, 0, _, j, hj => by rw [List.flatMap_cons, Nat.zero_mul, Nat.zero_add, List.getElem?_append_left (by rw [hk]; exact hj)]; rfl
 | x :: r, i + 1, h, j, hj => by
  rw [List.flatMap_cons, List.getElem?_append_right (by rw [hk, Nat.succ_mul]; omega), hk, show (i + 1) * k + j - k = i * k + j from by rw [Nat.succ_mul]; omega]
  exact flat_at hk r i (by simpa using h) j hj
theorem run_append_zero {P : Program} {w : World} (base : Nat) (t ty e : TypeId) (i : TypeInfo) (size : Nat) (ht : P.underlying t = some (.slice e)) (hi : P.info? e = some i)
  (v : Value) (n : Nat) (xs : List Value) (hown : w.ownsRow base e size v n xs) (c : Nat) :
  (Builtin.append_ #[t, t] ty #[v, .slice none 0 c]).run P w = .ok v w := by
 rcases hown.2 with ⟨rfl, rfl⟩ | ⟨g, cap, cur, rfl, _, _, hnc, _⟩
 ·simp [Builtin.append_, run_underlying ht, sizeOf, typeInfo, hi, Builtin.lenOf, Builtin.firstCells]
 ·simp [Builtin.append_, run_underlying ht, sizeOf, typeInfo, hi, Builtin.lenOf, Builtin.firstCells, hnc, storeCells]

theorem append_slice {α : Type} {k : Nat} {enc : α → List Value} (hk : ∀ x, (enc x).length = k) (h1 : ∀ x, ∀ u ∈ enc x, u.oneCell' = true) (h0 : 0 < k)
  {P : Program} {ops : Array Oper} {rest : List Oper} {o : Oper} {a : Act} {w : World} {Q : Exit → Act → World → Prop} (hgd : o.guard = none) (s x : Operand) (t : TypeId)
  (ho : o.op = .call { callee := .builtin .append, args := #[s, x], argTypes := #[t, t] })
  (base : Nat) (e : TypeId) (i : TypeInfo) (z : Value) (bytes : Nat) (ht : P.underlying t = some (.slice e)) (hi : P.info? e = some i) (hz : i.zero = some z)
  (hsize : i.size = k) (hby : i.bytes = bytes) (hzs : z.cells.size = k) (v : Value) (n : Nat) (xs : List Value) (hs : a.eval s = v) (hown : w.ownsRow base e k v n xs)
  (lo : Nat) (ys : List α) (hsrc : SliceK k enc lo w (a.eval x) ys) (h63 : n + ys.length ≤ maxLen) (hbytes : (n + ys.length) * bytes ≤ 140737488355328) (hbase : base ≤ w.heap.size)
  (h : ∀ v' w', w'.ownsRow base e k v' (n + ys.length) (xs ++ ys.flatMap enc) → w.grownBy w' v.ownBlock → wpList P ops Q rest (a.put o.dst v') w') :
  wpList P ops Q (o :: rest) a w := by
 obtain ⟨ad, cap, hx, -, -, hrow⟩ := hsrc
 rcases hrow with hz0 | ⟨b, off, rfl, -, hb, hc⟩
 ·obtain rfl : ys = [] := List.eq_nil_of_length_eq_zero hz0
  cases ad with
  | none =>
   refine wpList_plain hgd fun K hK => ?_
   have hrun := run_append_zero (P := P) (w := w) base t o.type e i k ht hi v n xs hown cap
   unfold Oper.wp
   simp [execOp, ho, resolve, invoke, builtin, hs, hx, hrun, Result.andThen]
   exact hK _ _ (h v w (by simpa using hown) (grown_refl _ _))
  | some ad =>
   exact wpList_append_own w hgd s x t ho base e i z k bytes ht hi hz hsize hby hzs h0 v n xs hs hown ad 0 cap [] hx (by simp) (by simp) (by simp) h63 hbytes hbase (fun v' w' k1 k2 _ => h v' w' (by simpa using k1) k2)
 ·refine wpList_append_own w hgd s x t ho base e i z k bytes ht hi hz hsize hby hzs h0 v n xs hs hown ⟨b, off, none⟩ ys.length cap (ys.flatMap enc) hx (flat_len hk ys) ?_ ?_ h63 hbytes hbase (fun v' w' k1 k2 _ => h v' w' k1 k2)
  ·intro j u hu
   have hj : j < ys.length * k := by rw [← flat_len hk]; exact (List.getElem?_eq_some_iff.1 hu).1
   have hi' : j / k < ys.length := (Nat.div_lt_iff_lt_mul h0).2 hj
   have hr : j % k < k := Nat.mod_lt _ h0
   have e0 : j / k * k + j % k = j := by rw [Nat.mul_comm]; exact Nat.div_add_mod _ _
   have e1 := flat_at hk ys (j / k) hi' (j % k) hr
   rw [e0, hu] at e1
   have e2 := hc (j / k) hi' (j % k) hr
   rw [← e1, Nat.add_assoc, e0] at e2
   by_cases hj0 : j = 0
   ·subst hj0; (first | (simp [Addr.add]; exact e2) | (simp only [Nat.add_zero] at e2; simpa [Addr.add] using e2))
   ·simp [Addr.add, hj0]; exact e2
  ·intro u hu
   obtain ⟨y, -, hy⟩ := List.mem_flatMap.1 hu
   exact h1 y u hy
theorem encE_one (x : Edge) : ∀ u ∈ encE x, u.oneCell' = true := by
 intro u hu
 simp [encE] at hu
 rcases hu with rfl | rfl | rfl <;> rfl
theorem encS_one (x : ByteArray) : ∀ u ∈ encS x, u.oneCell' = true := by
 intro u hu
 simp [encS] at hu
 subst hu
 rfl

end Go.Proofs.YtbjbjbnbapeajaaGreatDoor

namespace Go.Proofs.YtbjbjbnbapeajaaGreatDoor
open Go Go.RowKit

theorem put4 {w : World} {b : Nat} {x0 x1 x2 x3 v0 v1 v2 v3 : Value} {T : TypeId} (hb : Blk w b [x0, x1, x2, x3] T) : Blk ((((w.setCell ⟨b, 0, none⟩ v0).setCell ⟨b, 1, none⟩ v1).setCell ⟨b, 2, none⟩ v2).setCell ⟨b, 3, none⟩ v3) b [v0, v1, v2, v3] T := (((hb.set 0 v0).set 1 v1).set 2 v2).set 3 v3
theorem own_put {w : World} {base e size n : Nat} {v : Value} {xs : List Value} (h : w.ownsRow base e size v n xs) {b : Nat} {cs : List Value} {t : TypeId} (hb : Blk w b cs t) (he : e ≠ t) (i : Nat) (u : Value) : (w.setCell ⟨b, i, none⟩ u).ownsRow base e size v n xs :=
 h.kept (grown_setCell w ⟨b, i, none⟩ u) (own_type_ne h hb he)
theorem own_put4 {w : World} {b : Nat} {x0 x1 x2 x3 v0 v1 v2 v3 : Value} {T : TypeId} (hb : Blk w b [x0, x1, x2, x3] T) {base e size n : Nat} {v : Value} {xs : List Value} (h : w.ownsRow base e size v n xs) (he : e ≠ T) :
  ((((w.setCell ⟨b, 0, none⟩ v0).setCell ⟨b, 1, none⟩ v1).setCell ⟨b, 2, none⟩ v2).setCell ⟨b, 3, none⟩ v3).ownsRow base e size v n xs :=
 own_put (own_put (own_put (own_put h hb he 0 _) (hb.set 0 _) he 1 _) ((hb.set 0 _).set 1 _) he 2 _) (((hb.set 0 _).set 1 _).set 2 _) he 3 _
theorem below_put4 {B : Nat} {w0 w : World} {b : Nat} {v0 v1 v2 v3 : Value} (h : Below B w0 w) (hb : B ≤ b) : Below B w0 ((((w.setCell ⟨b, 0, none⟩ v0).setCell ⟨b, 1, none⟩ v1).setCell ⟨b, 2, none⟩ v2).setCell ⟨b, 3, none⟩ v3) :=
 (((h.setCell hb _).setCell hb _).setCell hb _).setCell hb _
theorem blk_put {w : World} {b c : Nat} {ds : List Value} {u : TypeId} (h : Blk w c ds u) (i : Nat) (v : Value) (hne : c ≠ b) : Blk (w.setCell ⟨b, i, none⟩ v) c ds u := h.setOther _ _ hne
end Go.Proofs.YtbjbjbnbapeajaaGreatDoor

namespace Go.Proofs.YtbjbjbnbapeajaaGreatDoor
open Go Go.RowKit

theorem CloneS_own (lo : Nat) (v : Value) (xs : List ByteArray) (w : World) (hv : SliceK 1 encS lo w v xs) (hz : xs.length ≤ 1048576) :
  Calls Tryz.prog 75 #[v] w fun e w' => ∃ v', e = .returned v' ∧ w'.ownsRow w.heap.size 9 1 v' xs.length (xs.map Value.string) ∧ Below w.heap.size w w' := by
 obtain ⟨a, c, rfl, hn, hc, hrow⟩ := hv
 cases a with
 | none =>
  have h0 : xs.length = 0 := by
   rcases hrow with h | ⟨b, o, h, -⟩
   ·exact h
   ·cases h
  have hx : xs = [] := List.eq_nil_of_length_eq_zero h0
  subst hx
  refine (Tryz.slices_Clone_string_nil _ _ w).mono ?_
  rintro e w' ⟨rfl, rfl⟩
  exact ⟨_, rfl, World.ownsRow_nil _ _ _ _, Below.refl _ _⟩
 | some a =>
  rcases hrow with h0 | ⟨b, o, h, -, hb, hcell⟩
  ·have hx : xs = [] := List.eq_nil_of_length_eq_zero h0
   subst hx
   refine (Tryz.slices_Clone_string_zero a c w).mono ?_
   rintro e w' ⟨v', rfl, ho, -, hb⟩
   exact ⟨v', rfl, ho, hb⟩
  ·cases h
   refine (Tryz.slices_Clone_string b o xs.length c xs w (Nat.le_refl _) (by omega) (fun j hj => ?_)).mono ?_
   ·have := hcell j hj 0 (by omega)
    rw [List.getD_eq_getElem?_getD, List.getElem?_eq_getElem hj]
    simpa [encS] using this
   ·rintro e w' ⟨v', rfl, ho, -, hb2⟩
    rw [List.take_length] at ho
    exact ⟨v', rfl, ho, hb2⟩

end Go.Proofs.YtbjbjbnbapeajaaGreatDoor

namespace Go.Proofs.YtbjbjbnbapeajaaGreatDoor
open Go Go.RowKit

/-- A system of the call's own. -/
def OwnLts (lo : Nat) (w : World) (lv ev : Value) (t : Lts) : Prop := w.ownsRow lo 9 1 lv t.labels.length (t.labels.map .string) ∧ w.ownsRow lo 73 3 ev t.edges.length (t.edges.flatMap encE)
theorem OwnLts.below {lo : Nat} {w w' : World} {lv ev : Value} {t : Lts} (h : OwnLts lo w lv ev t) (hb : Below w.heap.size w w') : OwnLts lo w' lv ev t := ⟨owns_below h.1 hb, owns_below h.2 hb⟩
theorem OwnLts.lower {lo lo' : Nat} {w : World} {lv ev : Value} {t : Lts} (h : OwnLts lo w lv ev t) (hl : lo' ≤ lo) : OwnLts lo' w lv ev t := ⟨own_lower h.1 hl, own_lower h.2 hl⟩
theorem OwnLts.turns {base lo hi : Nat} {w w' : World} {lv ev : Value} {t : Lts} (h : OwnLts base w lv ev t) (ht : Turns lo hi w w') (hb : hi ≤ base) : OwnLts base w' lv ev t :=
 ⟨owns_turns h.1 ht (fun b e => .inr (Nat.le_trans hb (h.1.lt b e).1)), owns_turns h.2 ht (fun b e => .inr (Nat.le_trans hb (h.2.lt b e).1))⟩
theorem OwnLts.at {lo : Nat} {w : World} {lv ev : Value} {t : Lts} (h : OwnLts lo w lv ev t) : LtsAt lo w (.agg #[.int .i64 t.states, .int .i64 t.initial, lv, ev]) t :=
 ⟨lv, ev, rfl, SliceK.of_owns (e := 9) encS_len rfl (by rw [flat_encS]; exact h.1), SliceK.of_owns (e := 73) encE_len rfl h.2⟩

end Go.Proofs.YtbjbjbnbapeajaaGreatDoor
