/-
  The program's teller in memory: its system, its rounds, the formulas that it knows.
  The reference's l02Norm: numbers by first sight.
  The program's normal: numbers by first sight.
  The program's normalKeys: the blocks of equal keys.
  The program's teller: depth.
  The library's slices.IndexFunc and slices.ContainsFunc at a slice of edges, with a function that may lay blocks of its own.
-/
import Derived.Test.YtjoacldbgnphkaaGreatDoorE12
import Derived.Test.YtjoacldbgnphkaaGreatDoorE7
import Derived.Test.YtjoacldbgnphkaaGreatDoorE9
import Derived.Test.YtjoacldbgnphkaaGreatDoorE3
import Derived.Maps.AppendAt
import Derived.Test.YtjoacldbgnphkaaGreatDoorE6
import Derived.Test.YtjoacldbgnphkaaGreatDoorE5
import Derived.Deep.AppendLies
import Derived.Test.YtjoacldbgnphkaaGreatDoorProg
import Derived.Test.YtjoacldbgnphkaaGreatDoorE1
namespace Go.Proofs.YtjoacldbgnphkaaGreatDoor
open Go Go.RowKit
open Go.Maps (Keyed)


theorem underTel : Tryz.prog.underlying 81 = some (.map 104 27) := Tryz.underlying81
theorem zeroTel (w : World) : (zeroValue 27).run Tryz.prog w = .ok (.slice none 0 0) w := by kernel_rfl
/-- A formula that is kept: nil where there is none. -/
def KeptV (w : World) (v : Value) (f : List Nd) : Prop := (f = [] ∧ v = .slice none 0 0) ∨ (f ≠ [] ∧ FormO 0 w v f)
theorem KeptV.below {w w' : World} {v : Value} {f : List Nd} (h : KeptV w v f) (hb : Below w.heap.size w w') : KeptV w' v f := h.elim .inl fun h => .inr ⟨h.1, h.2.below hb⟩
theorem KeptV.kept {w w' : World} {v : Value} {f : List Nd} {row : Option Nat} (h : KeptV w v f) (hg : w.grownBy w' row) (hr : ∀ {n : Nat} {xs : List Value}, w.ownsRow 0 55 4 v n xs → v.ownBlock = none ∨ v.ownBlock ≠ row) : KeptV w' v f :=
 h.elim .inl fun h => .inr ⟨h.1, World.ownsRow.kept h.2 hg (hr h.2)⟩
theorem KeptV.at {w : World} {v : Value} {f : List Nd} (h : KeptV w v f) : SliceK 4 encN 0 w v f := by
 rcases h with ⟨rfl, rfl⟩ | ⟨-, h⟩
 ·exact ⟨none, 0, rfl, Nat.le_refl _, by decide, .inl rfl⟩
 ·exact h.at
theorem KeptV.slice {w : World} {v : Value} {f : List Nd} (h : KeptV w v f) : ∃ a c, v = .slice a f.length c ∧ (a = none ↔ f = []) := by
 rcases h with ⟨rfl, rfl⟩ | ⟨hn, h⟩
 ·exact ⟨none, 0, rfl, by simp⟩
 ·obtain ⟨b, o, c, rfl, -⟩ := form_cells h.at hn
  exact ⟨_, c, rfl, by simp [hn]⟩
/-- The formulas that are known. -/
structure TelMap (w : World) (mb : Nat) (t : Lts) (ks : List ((Int × Int) × Value)) : Prop where
 map : ValMap w mb (ks.map fun k => (key2 k.1, k.2))
 nodup : (ks.map Prod.fst).Nodup
 small : ∀ k ∈ ks, Small2 k.1
 val : ∀ k ∈ ks, KeptV w k.2 (tellT t k.1.1 k.1.2)
variable {w w' : World} {mb : Nat} {t : Lts} {ks : List ((Int × Int) × Value)}
theorem TelMap.below (h : TelMap w mb t ks) (hb : Below w.heap.size w w') : TelMap w' mb t ks := ⟨h.map.below hb, h.nodup, h.small, fun k hk => (h.val k hk).below hb⟩
theorem TelMap.kept {row : Option Nat} (h : TelMap w mb t ks) (hg : w.grownBy w' row) (hm : row ≠ some mb) (hr : ∀ {v : Value} {n : Nat} {xs : List Value}, w.ownsRow 0 55 4 v n xs → v.ownBlock = none ∨ v.ownBlock ≠ row) : TelMap w' mb t ks :=
 ⟨h.map.kept hg (fun e => hm e.symm), h.nodup, h.small, fun k hk => (h.val k hk).kept hg hr⟩
theorem TelMap.fsts (ks : List ((Int × Int) × Value)) : (ks.map fun k => (key2 k.1, k.2)).map Prod.fst = (ks.map Prod.fst).map key2 := by rw [List.map_map, List.map_map]; rfl
theorem TelMap.keys (h : TelMap w mb t ks) : ∀ v ∈ (ks.map fun k => (key2 k.1, k.2)).map Prod.fst, ∃ l, keyOf Tryz.prog 104 v = some l := fun v hv => by
 rw [TelMap.fsts] at hv
 obtain ⟨q, hq, rfl⟩ := List.mem_map.1 hv
 obtain ⟨k, hk, rfl⟩ := List.mem_map.1 hq
 exact keyOf2 (h.small k hk)
theorem nodup_key2 : ∀ {l : List (Int × Int)}, l.Nodup → (l.map key2).Nodup
 | [], _ => by simp
 | x :: l, h => by
  rw [List.map_cons, List.nodup_cons]
  rw [List.nodup_cons] at h
  refine ⟨fun hm => h.1 ?_, nodup_key2 h.2⟩
  obtain ⟨y, hy, e⟩ := List.mem_map.1 hm
  rw [← key2_inj e]
  exact hy
theorem TelMap.push (h : TelMap w mb t ks) {a b : Int} (hq : Small2 (a, b)) (hn : (a, b) ∉ ks.map Prod.fst) (hroom : ks.length ≤ 1000000) {v : Value} (hv : KeptV w v (tellT t a b)) :
  ∃ w', (Instr.mapUpdate 81 (.map (some mb)) (.agg #[.int .i64 a, .int .i64 b]) v).run Tryz.prog w = .ok () w' ∧ TelMap w' mb t (ks ++ [((a, b), v)]) ∧ w.grownBy w' (some mb) := by
 obtain ⟨kl, hkl⟩ := keyOf2 hq
 have hnn : key2 (a, b) ∉ (ks.map fun k => (key2 k.1, k.2)).map Prod.fst := by
  rw [TelMap.fsts]
  exact fun hx => hn (mem_key2.1 hx)
 obtain ⟨w', h1, h2, h3⟩ := h.map.store keyed2 underTel h.keys hkl hnn (by rw [List.length_map]; unfold maxLen; omega) v
 have hmb : w.heap[mb]? = some (.map _ _) := h.map
 have hne : ∀ {v : Value} {n : Nat} {xs : List Value}, w.ownsRow 0 55 4 v n xs → v.ownBlock = none ∨ v.ownBlock ≠ some mb := fun ho => own_map_ne ho hmb
 refine ⟨w', h1, ⟨by rw [List.map_append]; exact h2, ?_, fun k hk => ?_, fun k hk => ?_⟩, h3⟩
 ·rw [List.map_append, List.nodup_append]
  refine ⟨h.nodup, by simp, fun x hx y hy e => ?_⟩
  rw [List.map_cons, List.map_nil, List.mem_singleton] at hy
  subst hy
  subst e
  exact hn hx
 ·rcases List.mem_append.1 hk with hk | hk
  ·exact h.small k hk
  ·rw [List.mem_singleton] at hk
   subst hk
   exact hq
 ·rcases List.mem_append.1 hk with hk | hk
  ·exact (h.val k hk).kept h3 hne
  ·rw [List.mem_singleton] at hk
   subst hk
   exact hv.kept h3 hne
theorem pairs_few {n : Nat} : ∀ {l : List (Int × Int)}, l.Nodup → (∀ q ∈ l, (0 ≤ q.1 ∧ q.1 < (n : Int)) ∧ 0 ≤ q.2 ∧ q.2 < (n : Int)) → l.length ≤ n * n := fun {l} hd hs => by
 have h1 : (l.map fun q => q.1.toNat * n + q.2.toNat).Nodup := by
  have key : ∀ {l : List (Int × Int)}, l.Nodup → (∀ q ∈ l, (0 ≤ q.1 ∧ q.1 < (n : Int)) ∧ 0 ≤ q.2 ∧ q.2 < (n : Int)) → (l.map fun q => q.1.toNat * n + q.2.toNat).Nodup := by
   intro l
   induction l with
   | nil => intro _ _; simp
   | cons x l ih =>
    intro hd hs
    rw [List.nodup_cons] at hd
    rw [List.map_cons, List.nodup_cons]
    refine ⟨fun hm => hd.1 ?_, ih hd.2 fun q hq => hs q (List.mem_cons_of_mem _ hq)⟩
    obtain ⟨y, hy, e⟩ := List.mem_map.1 hm
    have hx := hs x (List.mem_cons_self ..)
    have hy2 := hs y (List.mem_cons_of_mem _ hy)
    obtain ⟨e1, e2⟩ := place_inj (S := n) (by omega) (by omega) e
    have : y = x := Prod.ext (by omega) (by omega)
    rw [← this]
    exact hy
  exact key hd hs
 have h2 := List.Nodup.length_le_of_subset h1 (l₂ := List.range (n * n)) fun x hx => by
  obtain ⟨q, hq, rfl⟩ := List.mem_map.1 hx
  have := hs q hq
  exact List.mem_range.2 (place_ltM (by omega) (by omega))
 simpa using h2
theorem TelMap.few (h : TelMap w mb t ks) : ks.length ≤ 1600 := by
 have := pairs_few (n := 40) h.nodup fun q hq => by
  obtain ⟨k, hk, rfl⟩ := List.mem_map.1 hq
  exact h.small k hk
 simpa using this

/-- What lies in cells is no map. -/
theorem RowK.keptMap {α : Type} {k : Nat} {enc : α → List Value} (hk : 0 < k) (hen : ∀ x, (enc x)[0]? ≠ none) {lo : Nat} {a : Option Addr} {xs : List α} (h : RowK k enc lo w a xs) (hg : w.grownBy w' (some mb)) {es : Array MapEntry} {c : Nat} (hm : w.heap[mb]? = some (.map es c)) : RowK k enc lo w' a xs := by
 rcases h with h | ⟨b, off, ha, h1, h2, h3⟩
 ·exact .inl h
 ·by_cases h0 : xs.length = 0
  ·exact .inl h0
  ·have hne : b ≠ mb := by
    rintro rfl
    have h4 := h3 0 (by omega) 0 hk
    have h5 : w.cell? ⟨b, off + 0 * k + 0, none⟩ = none := by simp [World.cell?, hm]
    rw [h5] at h4
    exact hen _ h4.symm
   exact .inr ⟨b, off, ha, h1, Nat.lt_of_lt_of_le h2 hg.size, fun i hi j hj => by
    rw [World.cell?_of_block (w := w) (hg.block b h2 (fun e => by cases e; exact hne rfl))]; exact h3 i hi j hj⟩
theorem SliceK.keptMap {α : Type} {k : Nat} {enc : α → List Value} (hk : 0 < k) (hen : ∀ x, (enc x)[0]? ≠ none) {lo : Nat} {v : Value} {xs : List α} (h : SliceK k enc lo w v xs) (hg : w.grownBy w' (some mb)) {es : Array MapEntry} {c : Nat} (hm : w.heap[mb]? = some (.map es c)) : SliceK k enc lo w' v xs := by
 obtain ⟨a, cap, h1, h2, h4, h3⟩ := h
 exact ⟨a, cap, h1, h2, h4, h3.keptMap hk hen hg hm⟩
theorem IntssAt.keptMap {lo : Nat} {v : Value} {xss : List (List Int)} (h : IntssAt lo w v xss) (hg : w.grownBy w' (some mb)) {es : Array MapEntry} {c : Nat} (hm : w.heap[mb]? = some (.map es c)) : IntssAt lo w' v xss := by
 obtain ⟨vs, h1, h2, h3⟩ := h
 exact ⟨vs, h1, h2.keptMap (by decide) (fun x => by simp [encV]) hg hm, fun i hi hi' => (h3 i hi hi').keptMap (by decide) (fun x => by simp [encI]) hg hm⟩

/-- The teller. -/
structure Tel (w : World) (xb mb lo : Nat) (t : Lts) (lv ev rv : Value) : Prop where
 box : Blk w xb [.int .i64 t.states, .int .i64 t.initial, lv, ev, rv, .map (some mb)] 83
 labs : SliceK 1 encS lo w lv t.labels
 edgs : SliceK 3 encE lo w ev t.edges
 rnds : IntssAt lo w rv (levs t)
variable {xb lo : Nat} {lv ev rv : Value}
theorem Tel.below (h : Tel w xb mb lo t lv ev rv) (hb : Below w.heap.size w w') : Tel w' xb mb lo t lv ev rv := ⟨h.box.below hb, h.labs.below hb, h.edgs.below hb, h.rnds.below hb⟩
theorem Tel.grown (h : Tel w xb mb lo t lv ev rv) (hm : TelMap w mb t ks) (hg : w.grownBy w' (some mb)) : Tel w' xb mb lo t lv ev rv := by
 have hmb : w.heap[mb]? = some (.map _ _) := hm.map
 have hne : xb ≠ mb := by
  rintro rfl
  have h1 := h.box
  unfold Blk at h1
  rw [h1] at hmb
  cases hmb
 exact ⟨h.box.keptM hg (fun e => by cases e; exact hne rfl), h.labs.keptMap (by decide) (fun x => by simp [encS]) hg hmb, h.edgs.keptMap (by decide) (fun x => by simp [encE]) hg hmb, h.rnds.keptMap hg hmb⟩
end Go.Proofs.YtjoacldbgnphkaaGreatDoor

namespace Go.Proofs.YtjoacldbgnphkaaGreatDoor
open Go Go.RowKit

theorem info_int64N : (Tryz.prog.info? 2).map (fun i => (i.zero, i.size, i.bytes)) = some (some (.int .i64 0), 1, 8) := by kernel_rfl
theorem filled_old {α : Type} (xs : List α) (f : α → Value) (z : Value) (k j : Nat) (h : k ≤ xs.length) (hj : j < k) : ((xs.take k).map f ++ List.replicate (xs.length - k) z)[j]? = some (f (xs[j]'(by omega))) := by
 have hl : ((xs.take k).map f).length = k := by simp; omega
 rw [List.getElem?_append_left (by omega), List.getElem?_map, List.getElem?_take_of_lt hj, List.getElem?_eq_getElem (by omega)]
 rfl
theorem normL_of {xs : List Int} {j k : Nat} (hj : j < xs.length) (hk : k < xs.length) (h : xs[j] = xs[k]) : (normL xs)[j]'(by rw [normL_len]; exact hj) = (normL xs)[k]'(by rw [normL_len]; exact hk) := (normL_same hj hk).2 h
theorem normL_new {xs : List Int} {k : Nat} (hk : k < xs.length) (h : ∀ j (hj : j < xs.length), j < k → (xs[j] == xs[k]) = false) : (normL xs)[k]'(by rw [normL_len]; exact hk) = ((firsts (xs.take k)).length : Int) ∧ (firsts (xs.take (k + 1))).length = (firsts (xs.take k)).length + 1 := by
 have hm : xs[k] ∉ firsts (xs.take k) := fun hm => by
  obtain ⟨j, hj, e⟩ := List.mem_iff_getElem.1 ((firsts_mem _ _).1 hm)
  have hj2 : j < k := by rw [List.length_take] at hj; omega
  have h1 := h j (by omega) hj2
  rw [beq_eq_false_iff_ne] at h1
  exact h1 (by rw [← e, List.getElem_take])
 have h1 := normL_at hk
 rw [List.getElem?_eq_getElem (by rw [normL_len]; exact hk), fstIx_not hm] at h1
 refine ⟨Option.some.inj h1, ?_⟩
 rw [List.take_succ_eq_append_getElem hk, firsts_snoc]
 unfold addNew
 rw [if_neg hm]
 simp
theorem firsts_old {xs : List Int} {j k : Nat} (hj : j < k) (hk : k < xs.length) (h : xs[j]'(by omega) = xs[k]) : firsts (xs.take (k + 1)) = firsts (xs.take k) := by
 rw [List.take_succ_eq_append_getElem hk, firsts_snoc]
 unfold addNew
 rw [if_pos ((firsts_mem _ _).2 (by rw [← h]; exact List.mem_iff_getElem.2 ⟨j, by rw [List.length_take]; omega, by rw [List.getElem_take]⟩))]

set_option maxRecDepth 100000 in
set_option maxHeartbeats 4000000 in
theorem l02Norm_any (lo : Nat) (v : Value) (xs : List Int) (w : World) (hz : xs.length ≤ 1000000) (hv : SliceK 1 encI lo w v xs) : Calls Tryz.prog 58 #[v] w (MadeNums (normL xs) w) := by
 obtain ⟨a, cap, rfl, hn, hcap, hrow⟩ := hv
 obtain ⟨Q, hQ⟩ : ∃ Q, Q = normL xs := ⟨_, rfl⟩
 obtain ⟨N, hN⟩ : ∃ N, N = xs.length := ⟨_, rfl⟩
 have hQN : Q.length = N := by rw [hQ, normL_len, hN]
 rw [← hQ]
 rw [← hN] at hz hn ⊢
 have HN := Lib.hid hN
 have HQ := Lib.hid hQ
 have HQN := Lib.hid hQN
 have HR := Lib.hid hrow
 obtain ⟨i1, hi1, hz10, hz11, hz12⟩ := info_parts info_int64N
 clear hrow hN hQ hQN
 go_enter Tryz.func58, Tryz.ntmps58
 go_wp2_with (at_make; refine wpList_make_full _ rfl _ _ 69 rfl w.heap.size 2 i1 _ 1 Tryz.underlying69 hi1 hz10 hz11 .i64 .i64 _ _ N rfl rfl rfl rfl ?_ ?_ ?_ ?_)
 ·rw [hz12]; omega
 ·simp [maxLen]; omega
 ·exact Nat.le_refl _
 intro w1 ho hg
 rw [toList_madeCells_one] at ho
 obtain ⟨G, hG⟩ : ∃ G, G = w.heap.size := ⟨_, rfl⟩
 have HB1 : Hid (Below w.heap.size w w1) := (Below.refl _ w).grown hg (Nat.le_refl _) (fun _ h => by cases h)
 rw [← hG] at ho ⊢
 have HO : Hid (w1.ownsRow G 2 1 (.slice (some ⟨G, 0, none⟩) N N) N (List.replicate N (.int .i64 0))) := by
  unfold Hid; simpa using ho
 have HG := Lib.hid hG
 clear ho hg hG hi1 hz10 hz11 hz12
 go_wp2
 go_loopw [4, 5] (fun v4 v5 wr => ∃ k : Nat, k ≤ N ∧ v5 = .int .i64 k ∧ v4 = .int .i64 (firsts (xs.take k)).length ∧ Below w.heap.size w wr ∧ wr.ownsRow G 2 1 (.slice (some ⟨G, 0, none⟩) N N) N ((Q.take k).map (Value.int .i64) ++ List.replicate (Q.length - k) (.int .i64 0))) (fun _ v5 _ => N - (intOf v5).toNat)
 case atStart => exact ⟨0, Nat.zero_le _, rfl, by simp [firsts], HB1.out, by simpa [HQN.out] using HO.out⟩
 case round =>
  clear HO HB1
  obtain ⟨k, hk, rfl, rfl, hbl, ho⟩ := hrel
  obtain ⟨wC, rfl⟩ : ∃ wC : World, wC = wr := ⟨_, rfl⟩
  have HBL := Lib.hid hbl
  have HO := Lib.hid ho
  have hszC := hbl.size
  obtain ⟨M, hM⟩ : ∃ M, M = (firsts (xs.take k)).length := ⟨_, rfl⟩
  rw [← hM]
  have hMk : M ≤ 1000000 := by
   rw [hM]
   have h1 := firsts_len (xs.take k)
   rw [List.length_take] at h1
   omega
  have HM := Lib.hid hM
  clear hbl ho hM
  by_cases hlt : k < N
  ·have hltx : k < xs.length := by rw [← HN.out]; exact hlt
   have hltq : k < Q.length := by rw [HQN.out]; exact hlt
   go_wp2
   go_loopw [6, 7] (fun v6 v7 wr => ∃ j : Nat, j ≤ k ∧ v7 = .int .i64 j ∧ v6 = .int .i64 (-1) ∧ Below wC.heap.size wC wr ∧ ∀ i (h : i < xs.length), i < j → (xs[i] == xs[k]) = false) (fun _ v7 _ => k - (intOf v7).toNat)
   case atStart => exact ⟨0, Nat.zero_le _, rfl, rfl, Below.refl _ _, fun _ _ h => by omega⟩
   case round =>
    obtain ⟨j, hj, rfl, rfl, hbj, hx⟩ := hrel
    obtain ⟨wD, rfl⟩ : ∃ wD : World, wD = wr := ⟨_, rfl⟩
    have HX := Lib.hid hx
    have HBJ := Lib.hid hbj
    have hB2 := HBL.out.trans (hbj.mono hszC)
    have HB2 := Lib.hid hB2
    have HO2 := Lib.hid (owns_below HO.out hbj)
    have hszD := hB2.size
    have hszj := hbj.size
    clear hx hbj
    by_cases hjk : j < k
    ·have hjx : j < xs.length := by omega
     obtain ⟨b, o, rfl, -, hb, c1⟩ := (HR.out.below hB2).one hjx
     obtain ⟨b', o', e', -, hb', c2⟩ := (HR.out.below hB2).one hltx
     obtain ⟨rfl, rfl⟩ : b = b' ∧ o = o' := by simpa using e'
     simp only [encI, List.getElem?_cons_zero] at c1 c2
     replace c1 := later_cell hb c1
     replace c2 := later_cell hb c2
     clear e' hb' hB2
     cases g : (xs[j] == xs[k])
     ·have HF := Lib.hid g
      go_wp2
      refine wp_region_later (by kernel_rfl) (by kernel_rfl) ?_
      repeat (go_big_quiet_step ((fail)))
      refine wpQuiet_nil ?_
      intro _ hw9
      obtain ⟨nl, hw8⟩ := hw9
      subst hw8
      have HN2 := Lib.hid (HBJ.out.trans (nl.h.mono hszj))
      go_wp2
      go_roundw
      case rel => exact ⟨j + 1, by omega, by go_num, rfl, HN2.out, fun i h h' => by
       by_cases e : i = j
       ·subst e; exact HF.out
       ·exact HX.out i h (by omega)⟩
      case measure => simp [intOf]; omega
     ·have HEQ : Hid (xs[j] = xs[k]) := by rw [beq_iff_eq] at g; exact g
      go_wp2
      refine wp_region_later (by kernel_rfl) (by kernel_rfl) ?_
      repeat (go_big_quiet_step ((fail)))
      refine wpQuiet_nil ?_
      intro _ hw9
      obtain ⟨nl, hw8⟩ := hw9
      subst hw8
      have HB3 := Lib.hid (HB2.out.trans (nl.h.mono hszD))
      have HO3 := Lib.hid (owns_below HO2.out nl.h)
      have hgG := (HO3.out.lt G rfl).2
      have d1 := HO3.out.cellAt j (by omega)
      rw [filled_old _ _ _ _ _ (by omega) hjk] at d1
      have d2 := HO3.out.cellAt k (by omega)
      rw [filled_get _ _ _ _ hltq] at d2
      have d3 := HO3.out.frozenAt k
      have ho4 := (HO3.out.stored k (.int .i64 (Q[j]'(by omega)))).1
      have hQjk : Q[j]'(by omega) = Q[k] := by
       have h := normL_of hjx hltx HEQ.out
       simp only [← HQ.out] at h
       exact h
      have hset := filled_set Q (Value.int .i64) (.int .i64 0) k hltq
      rw [hQjk, hset] at ho4
      rw [hQjk] at d1
      have HO4 := Lib.hid ho4
      have HFO : Hid ((firsts (xs.take (k + 1))).length = M) := by unfold Hid; rw [firsts_old hjk hltx HEQ.out]; exact HM.out.symm
      clear ho4 hset hQjk c1 c2 g
      go_wp2
      go_roundw
      case rel => exact ⟨k + 1, by omega, by go_num, by rw [HFO.out], HB3.out.setCell (by rw [← HG.out]; exact Nat.le_refl _) _, HO4.out⟩
      case measure => simp [intOf]; omega
    ·obtain rfl : j = k := by omega
     have hNW := normL_new hltx HX.out
     have d2 := HO2.out.cellAt j (by omega)
     rw [filled_get _ _ _ _ hltq] at d2
     have d3 := HO2.out.frozenAt j
     have ho4 := (HO2.out.stored j (.int .i64 (M : Int))).1
     have hQM : (M : Int) = Q[j] := by
      have h := hNW.1
      simp only [← HQ.out] at h
      rw [h, HM.out]
     have hset := filled_set Q (Value.int .i64) (.int .i64 0) j hltq
     rw [← hQM] at hset
     rw [hset] at ho4
     have HO4 := Lib.hid ho4
     have HFO : Hid ((firsts (xs.take (j + 1))).length = M + 1) := by unfold Hid; rw [hNW.2, HM.out]
     clear ho4 hset hQM hNW hB2
     go_wp2
     go_roundw
     case rel => exact ⟨j + 1, by omega, by go_num, by rw [HFO.out]; go_num, HB2.out.setCell (by rw [← HG.out]; exact Nat.le_refl _) _, HO4.out⟩
     case measure => simp [intOf]; omega
  ·obtain rfl : k = N := by omega
   have HF : Hid (wC.ownsRow G 2 1 (.slice (some ⟨G, 0, none⟩) Q.length k) Q.length (Q.map (Value.int .i64))) := by
    have h := HO.out
    unfold Hid
    rw [← HQN.out] at h ⊢
    simpa using h
   go_wp2
   go_ret
   refine ⟨_, rfl, HBL.out, ?_⟩
   rw [← HG.out]
   have h := HF.out
   rw [HQN.out] at h ⊢
   exact h

end Go.Proofs.YtjoacldbgnphkaaGreatDoor

namespace Go.Proofs.YtjoacldbgnphkaaGreatDoor
open Go Go.RowKit
open Go.Maps (Keyed)

def I64 (x : Int) : Prop := -9223372036854775808 ≤ x ∧ x ≤ 9223372036854775807
theorem keyedI : Keyed Tryz.prog 2 := Go.Maps.int_keyed Tryz.underlying2
theorem keyOfI {x : Int} (h : I64 x) : ∃ l, keyOf Tryz.prog 2 (.int .i64 x) = some l := ⟨.int .i64 x, by
 have h1 := h.1
 have h2 := h.2
 have hw : (Lit.int .i64 x).wf = true := by
  unfold Lit.wf
  rw [Bool.and_eq_true, decide_eq_true_iff, decide_eq_true_iff]
  exact ⟨h1, h2⟩
 simp [keyOf, mapKey, Tryz.underlying2, hw]⟩
theorem underMapI : Tryz.prog.underlying 156 = some (.map 2 2) := Tryz.underlying156
theorem zeroI64N (w : World) : (zeroValue 2).run Tryz.prog w = .ok (.int .i64 0) w := by kernel_rfl
theorem NumMap.len {P : Program} {k t e : TypeId} {q : IntKind} {w : World} {b : Nat} {ks : List Value} (h : NumMap q w b ks) (ht : P.underlying t = some (.map k e)) (ty : TypeId) : (Builtin.len_ #[t] ty #[.map (some b)]).run P w = .ok (.int .i64 ks.length) w := by
 have hb : w.heap[b]? = some (.map (ks.mapIdx fun i k => (⟨k, .int q i, i⟩ : MapEntry)).toArray ks.length) := h
 simp [Builtin.len_, run_underlying ht, MapKept.run_getObj_map hb, goInt, Result.andThen]
def keysI (D : List Int) : List Value := D.map (Value.int .i64)
theorem keysI_nodup {D : List Int} (h : D.Nodup) : (keysI D).Nodup := by
 unfold keysI
 rw [List.nodup_iff_pairwise_ne, List.pairwise_map]
 exact (List.nodup_iff_pairwise_ne.1 h).imp fun {a b} hne e => hne (by simpa using e)
theorem firsts_nodup (l : List Int) : (firsts l).Nodup := by
 have h : ∀ (m acc : List Int), acc.Nodup → (m.foldl addNew acc).Nodup := by
  intro m
  induction m with
  | nil => exact fun acc h => h
  | cons y m ih =>
   intro acc h
   rw [List.foldl_cons]
   refine ih _ ?_
   unfold addNew
   by_cases hy : y ∈ acc
   ·rw [if_pos hy]; exact h
   ·rw [if_neg hy, List.nodup_append]
    refine ⟨h, by simp, ?_⟩
    intro a ha b hb
    rw [List.mem_singleton] at hb
    subst hb
    exact fun e => hy (e ▸ ha)
 exact h l [] List.nodup_nil

set_option maxRecDepth 100000 in
set_option maxHeartbeats 4000000 in
theorem normal_any (lo : Nat) (v : Value) (xs : List Int) (w : World) (hz : xs.length ≤ 1000000) (h64 : ∀ x ∈ xs, I64 x) (hv : SliceK 1 encI lo w v xs) : Calls Tryz.prog 86 #[v] w (MadeNums (normL xs) w) := by
 obtain ⟨a, cap, rfl, hn, hcap, hrow⟩ := hv
 obtain ⟨Q, hQ⟩ : ∃ Q, Q = normL xs := ⟨_, rfl⟩
 obtain ⟨N, hN⟩ : ∃ N, N = xs.length := ⟨_, rfl⟩
 have hQN : Q.length = N := by rw [hQ, normL_len, hN]
 rw [← hQ]
 rw [← hN] at hz hn ⊢
 have HN := Lib.hid hN
 have HQ := Lib.hid hQ
 have HQN := Lib.hid hQN
 have HR := Lib.hid hrow
 have H64 := Lib.hid h64
 obtain ⟨i1, hi1, hz10, hz11, hz12⟩ := info_parts info_int64N
 obtain ⟨mb, hmb⟩ : ∃ mb, mb = w.heap.size := ⟨_, rfl⟩
 have hMM : NumMap .i64 (w.alloc (.map #[] 0)) mb [] := by rw [hmb]; exact NumMap.made .i64 w
 have hbM : Below w.heap.size w (w.alloc (.map #[] 0)) := (Below.refl _ _).alloc (Nat.le_refl _) _
 have HMM := Lib.hid hMM
 have HBM := Lib.hid hbM
 have HMB := Lib.hid hmb
 have hmm := @run_makeMap Tryz.prog
 have hsm : (w.alloc (.map #[] 0)).heap.size = mb + 1 := by rw [hmb]; simp
 clear hrow hN hQ hQN hMM hbM h64
 go_enter Tryz.func86, Tryz.ntmps86
 go_wp2_with (at_make; refine wpList_make_full _ rfl _ _ 69 rfl (mb + 1) 2 i1 _ 1 Tryz.underlying69 hi1 hz10 hz11 .i64 .i64 _ _ N rfl rfl rfl rfl ?_ ?_ ?_ ?_)
 ·rw [hz12]; omega
 ·simp [maxLen]; omega
 ·simp; omega
 intro w1 ho hg
 rw [toList_madeCells_one] at ho
 try rw [← hmb] at ho
 have HB1 : Hid (Below w.heap.size w w1) := HBM.out.grown hg (by simp) (fun _ h => by cases h)
 have HM1 : Hid (NumMap .i64 w1 mb (keysI [])) := HMM.out.kept hg (by simp)
 have HO : Hid (w1.ownsRow (mb + 1) 2 1 (.slice (some ⟨mb + 1, 0, none⟩) N N) N (List.replicate N (.int .i64 0))) := by
  unfold Hid; simpa using ho
 try rw [hsm]
 try rw [← hmb]
 obtain ⟨G, hG⟩ : ∃ G, G = mb + 1 := ⟨_, rfl⟩
 rw [← hG] at HO
 try rw [← hG]
 have HG := Lib.hid hG
 have hle : w.heap.size ≤ G := by omega
 clear ho hg hi1 hz10 hz11 hz12 HMM HBM hmm hsm hmb hG
 go_wp2
 go_loopw [15] (fun v15 wr => ∃ k : Nat, k ≤ N ∧ v15 = .int .i64 k ∧ Below w.heap.size w wr ∧ NumMap .i64 wr mb (keysI (firsts (xs.take k))) ∧ wr.ownsRow G 2 1 (.slice (some ⟨G, 0, none⟩) N N) N ((Q.take k).map (Value.int .i64) ++ List.replicate (Q.length - k) (.int .i64 0))) (fun v15 _ => N - (intOf v15).toNat)
 case atStart => exact ⟨0, Nat.zero_le _, rfl, HB1.out, HM1.out, by simpa [HQN.out] using HO.out⟩
 case round =>
  clear HO HB1 HM1
  obtain ⟨k, hk, rfl, hbl, hmap, ho⟩ := hrel
  obtain ⟨wC, rfl⟩ : ∃ wC : World, wC = wr := ⟨_, rfl⟩
  have HBL := Lib.hid hbl
  have HO := Lib.hid ho
  have HMP := Lib.hid hmap
  have hszC := hbl.size
  by_cases hlt : k < N
  ·have hltx : k < xs.length := by rw [← HN.out]; exact hlt
   have hltq : k < Q.length := by rw [HQN.out]; exact hlt
   obtain ⟨b, o, rfl, -, hb, c1⟩ := (HR.out.below hbl).one hltx
   simp only [encI, List.getElem?_cons_zero] at c1
   obtain ⟨x, hx⟩ : ∃ x, x = xs[k] := ⟨_, rfl⟩
   rw [← hx] at c1
   obtain ⟨D, hD⟩ : ∃ D, D = firsts (xs.take k) := ⟨_, rfl⟩
   rw [← hD] at HMP hmap
   have hDn : D.Nodup := by rw [hD]; exact firsts_nodup _
   have hDl : D.length ≤ 1000000 := by
    rw [hD]
    have h1 := firsts_len (xs.take k)
    rw [List.length_take] at h1
    omega
   have hks : ∀ v ∈ keysI D, ∃ l, keyOf Tryz.prog 2 v = some l := fun v hv => by
    obtain ⟨y, hy, rfl⟩ := List.mem_map.1 hv
    rw [hD] at hy
    exact keyOfI (H64.out y (List.mem_of_mem_take ((firsts_mem _ _).1 hy)))
   have hQk : Q[k] = (fstIx D x : Int) := by
    have h := normL_at hltx
    rw [← HQ.out, List.getElem?_eq_getElem hltq, ← hD, ← hx] at h
    exact Option.some.inj h
   have hgG := (ho.lt G rfl).2
   by_cases hm : x ∈ D
   ·have hj := fstIx_lt hm
    have hjk : fstIx D x < (keysI D).length := by unfold keysI; rw [List.length_map]; exact hj
    have hfd := hmap.found keyedI underMapI hks (keysI_nodup hDn) hjk
    have hkj : (keysI D)[fstIx D x] = .int .i64 x := by
     have h : (keysI D)[fstIx D x]? = some (.int .i64 x) := by unfold keysI; rw [List.getElem?_map, fstIx_get hm]; rfl
     rw [List.getElem?_eq_getElem hjk] at h
     exact Option.some.inj h
    rw [hkj] at hfd
    obtain ⟨j, hjj⟩ : ∃ j, j = fstIx D x := ⟨_, rfl⟩
    rw [← hjj] at hfd hQk
    have d2 := ho.cellAt k (by omega)
    rw [filled_get _ _ _ _ hltq] at d2
    have d3 := ho.frozenAt k
    have ho4 := (ho.stored k (.int .i64 (j : Int))).1
    have hset := filled_set Q (Value.int .i64) (.int .i64 0) k hltq
    rw [hQk] at hset
    rw [hset] at ho4
    have HO4 := Lib.hid ho4
    have hM4 : NumMap .i64 (wC.setCell ⟨G, k, none⟩ (.int .i64 (j : Int))) mb (keysI (firsts (xs.take (k + 1)))) := by
     have e : firsts (xs.take (k + 1)) = D := by
      rw [List.take_succ_eq_append_getElem hltx, firsts_snoc, ← hD, ← hx]
      unfold addNew
      rw [if_pos hm]
     rw [e]
     exact hmap.kept (grown_setCell wC ⟨G, k, none⟩ _) (by have := HG.out; simp; omega)
    have HM4 := Lib.hid hM4
    clear ho ho4 hset hmap hM4 hkj hjk hj hjj hm hQk hks hDn hDl hD hx hbl
    go_wp2
    go_roundw
    case rel => exact ⟨k + 1, by omega, by go_num, HBL.out.setCell hle _, HM4.out, by simpa using HO4.out⟩
    case measure => simp [intOf]; omega
   ·obtain ⟨kl, hkl⟩ := keyOfI (show I64 x from by rw [hx]; exact H64.out _ (List.getElem_mem hltx))
    have hkn : Value.int .i64 x ∉ keysI D := fun h => by
     obtain ⟨y, hy, e⟩ := List.mem_map.1 h
     rw [show y = x from by simpa using e] at hy
     exact hm hy
    have hmi := hmap.missing keyedI underMapI hks (zeroI64N wC) hkl hkn
    have hln := hmap.len underMapI 3
    obtain ⟨w2, hup, hm2, hg2⟩ := hmap.store keyedI underMapI hks hkl hkn (by unfold keysI; rw [List.length_map]; unfold maxLen; omega)
    have hkl2 : (keysI D).length = D.length := by unfold keysI; rw [List.length_map]
    rw [hkl2] at hln hup
    obtain ⟨M, hM⟩ : ∃ M, M = D.length := ⟨_, rfl⟩
    rw [← hM] at hln hup
    have hQM : Q[k] = (M : Int) := by rw [hQk, fstIx_not hm, hM]
    have hblk : wC.heap[mb]? = some (.map (((keysI D).mapIdx fun i k => (⟨k, .int .i64 i, i⟩ : MapEntry)).toArray) (keysI D).length) := hmap
    have ho2 := ho.kept hg2 (own_map_ne ho hblk)
    have d2 := ho2.cellAt k (by omega)
    rw [filled_get _ _ _ _ hltq] at d2
    have d3 := ho2.frozenAt k
    have ho4 := (ho2.stored k (.int .i64 (M : Int))).1
    have hset := filled_set Q (Value.int .i64) (.int .i64 0) k hltq
    rw [hQM] at hset
    rw [hset] at ho4
    have HO4 := Lib.hid ho4
    have hM4 : NumMap .i64 (w2.setCell ⟨G, k, none⟩ (.int .i64 (M : Int))) mb (keysI (firsts (xs.take (k + 1)))) := by
     have e : firsts (xs.take (k + 1)) = D ++ [x] := by
      rw [List.take_succ_eq_append_getElem hltx, firsts_snoc, ← hD, ← hx]
      unfold addNew
      rw [if_neg hm]
     have e2 : keysI (D ++ [x]) = keysI D ++ [.int .i64 x] := by unfold keysI; rw [List.map_append]; rfl
     rw [e, e2]
     exact hm2.kept (grown_setCell w2 ⟨G, k, none⟩ _) (by have := HG.out; simp; omega)
    have HM4 := Lib.hid hM4
    have HB2 := Lib.hid (HBL.out.grown hg2 hszC (fun b e => by cases e; rw [HMB.out]; exact Nat.le_refl _))
    clear ho ho2 ho4 hset hmap hM4 hm2 hg2 hblk hkl2 hm hQk hQM hks hDn hD hx hbl hkl hkn hM
    go_wp2
    go_roundw
    case rel => exact ⟨k + 1, by omega, by go_num, HB2.out.setCell hle _, HM4.out, by simpa using HO4.out⟩
    case measure => simp [intOf]; omega
  ·obtain rfl : k = N := by omega
   have HF : Hid (wC.ownsRow G 2 1 (.slice (some ⟨G, 0, none⟩) Q.length k) Q.length (Q.map (Value.int .i64))) := by
    have h := HO.out
    unfold Hid
    rw [← HQN.out] at h ⊢
    simpa using h
   clear ho hmap hbl
   go_wp2
   go_ret
   refine ⟨_, rfl, HBL.out, ?_⟩
   have h := HF.out
   rw [HQN.out] at h ⊢
   exact own_lower h hle

end Go.Proofs.YtjoacldbgnphkaaGreatDoor

namespace Go.Proofs.YtjoacldbgnphkaaGreatDoor
open Go Go.RowKit

/-- A function of one element that answers P at the element's place, and turns nothing that was there. -/
def AskK (fid : Nat) (caps : Array Value) (P : Nat → Bool) (vs : List Value) (B : Nat) (w : World) : Prop :=
 ∀ w', Below B w w' → ∀ i (h : i < vs.length), Calls Tryz.prog fid (#[vs[i]] ++ caps) w' fun e w'' => e = .returned (.bool (P i)) ∧ Below w'.heap.size w' w''
def fstP (P : Nat → Bool) (n : Nat) : Int := if (List.range n).findIdx P < n then ((List.range n).findIdx P : Nat) else -1
theorem fstP_hit {P : Nat → Bool} {n k : Nat} (hk : k < n) (hn : ∀ j, j < k → P j = false) (h : P k = true) : fstP P n = k := by
 have e : (List.range n).findIdx P = k := by
  rw [List.findIdx_eq (by simpa using hk)]
  refine ⟨by simpa using h, fun j hj => by simpa using hn j hj⟩
 unfold fstP
 rw [e, if_pos hk]
theorem fstP_none {P : Nat → Bool} {n : Nat} (hn : ∀ j, j < n → P j = false) : fstP P n = -1 := by
 unfold fstP
 rw [if_neg]
 intro h
 have h2 := List.findIdx_getElem (w := show (List.range n).findIdx P < (List.range n).length by simpa using h)
 rw [List.getElem_range, hn _ h] at h2
 cases h2

set_option maxRecDepth 100000 in
set_option maxHeartbeats 1000000 in
theorem IndexFuncK (lo : Nat) (v : Value) (vs : List Value) (fid : Nat) (caps : Array Value) (P : Nat → Bool) (w : World) (hv : SliceK 1 encV lo w v vs) (eg : ∀ args w, (callFunc fid args).run Tryz.prog w = .ok (.enter fid args) w) (hP : AskK fid caps P vs w.heap.size w) :
  Calls Tryz.prog 71 #[v, .func (.func fid) #[] caps] w fun e w' => e = .returned (.int .i64 (fstP P vs.length)) ∧ Below w.heap.size w w' := by
 obtain ⟨a, c, rfl, hcn, hcc, hrow⟩ := hv
 have HR := Lib.hid hrow
 have HP := Lib.hid hP
 clear hP hrow
 go_enter Tryz.func71, Tryz.ntmps71
 go_wp2_with fail
 go_loopw [8] (fun i wr => ∃ k : Nat, k ≤ vs.length ∧ i = .int .i64 k ∧ Below w.heap.size w wr ∧ ∀ j, j < k → P j = false) (fun i _ => vs.length - (intOf i).toNat)
 case atStart => exact ⟨0, Nat.zero_le _, rfl, Below.refl _ _, fun _ h => by omega⟩
 case round =>
  obtain ⟨k, hk, rfl, hbl, ha⟩ := hrel
  have HA := Lib.hid ha
  have HBL := Lib.hid hbl
  clear ha
  by_cases hlt : k < vs.length
  ·obtain ⟨b1, o1, rfl, -, hbs, c1⟩ := (HR.out.below hbl).one hlt
   simp only [encV, List.getElem?_cons_zero] at c1
   clear hbl
   have HC := Lib.hid (HP.out wr HBL.out k hlt)
   obtain ⟨x, hx⟩ : ∃ x, x = vs[k] := ⟨_, rfl⟩
   rw [← hx] at c1 HC
   obtain ⟨b, hb⟩ : ∃ b, b = P k := ⟨_, rfl⟩
   rw [← hb] at HC
   have HB := Lib.hid hb
   clear hb hx
   go_wp2_with fail
   refine Calls.mono HC.out ?_
   rintro e w1 ⟨rfl, hb1⟩
   have HB1 := Lib.hid (HBL.out.trans (hb1.mono HBL.out.size))
   clear hb1 c1
   cases b
   ·go_wp2_with fail
    go_roundw
    case rel => exact ⟨k + 1, by omega, by go_num, HB1.out, fun j hj => by
     by_cases e : j = k
     ·subst e; exact HB.out.symm
     ·exact HA.out j (by omega)⟩
    case measure => simp [intOf]; omega
   ·have HE : Hid (fstP P vs.length = k) := fstP_hit hlt HA.out HB.out.symm
    go_wp2_with fail
    go_ret
    exact ⟨ret_int HE.out.symm, HB1.out⟩
  ·clear hbl
   have HN : Hid (fstP P vs.length = -1) := fstP_none fun j hj => HA.out j (by omega)
   go_wp2_with fail
   go_ret
   exact ⟨ret_int HN.out.symm, HBL.out⟩

theorem rowI_at {lo : Nat} {w : World} {v : Value} {xs : List Int} (h : SliceK 1 encI lo w v xs) (hx : xs ≠ []) : ∃ b o c, v = .slice (some ⟨b, o, none⟩) xs.length c ∧ xs.length ≤ c ∧ c ≤ 9223372036854775807 ∧ ∀ j, j < xs.length → w.cell? ⟨b, o + j, none⟩ = some (.int .i64 (xs.getD j 0)) := by
 obtain ⟨a, c, rfl, hn, hc, hrow⟩ := h
 rcases hrow with h0 | ⟨b, o, rfl, -, -, hcell⟩
 ·exact absurd (List.length_eq_zero_iff.1 h0) hx
 ·refine ⟨b, o, c, rfl, hn, hc, fun j hj => ?_⟩
  have h1 := hcell j hj 0 (by decide)
  simp only [encI, List.getElem?_cons_zero] at h1
  rw [List.getD_eq_getElem?_getD, List.getElem?_eq_getElem hj]
  simpa using h1
theorem EqualI_any (lo lo' : Nat) (va vb : Value) (xs ys : List Int) (w : World) (hva : SliceK 1 encI lo w va xs) (hvb : SliceK 1 encI lo' w vb ys) (hx : xs ≠ []) (hy : ys ≠ []) :
  Calls Tryz.prog 67 #[va, vb] w fun e w' => e = .returned (.bool (xs == ys)) ∧ Below w.heap.size w w' := by
 obtain ⟨b1, o1, c1, rfl, n1, m1, h1⟩ := rowI_at hva hx
 obtain ⟨b2, o2, c2, rfl, n2, m2, h2⟩ := rowI_at hvb hy
 refine (Tryz.slices_Equal_int b1 o1 xs.length c1 b2 o2 ys.length c2 xs ys w (Nat.le_refl _) (Nat.le_refl _) (by omega) (by omega) h1 h2).mono ?_
 rintro e w' ⟨rfl, q, rfl⟩
 refine ⟨by rw [List.take_length, List.take_length], below_drewN (Below.refl _ _) q⟩

set_option maxRecDepth 100000 in
theorem nk1_any (lo lo' tb : Nat) (va vb : Value) (xs ys : List Int) (w : World) (hva : SliceK 1 encI lo w va xs) (hvb : SliceK 1 encI lo' w vb ys) (hx : xs ≠ []) (hy : ys ≠ []) (hb : Blk w tb [vb] 69) :
  Calls Tryz.prog 85 #[va, .pointer (some ⟨tb, 0, none⟩)] w fun e w' => e = .returned (.bool (xs == ys)) ∧ Below w.heap.size w w' := by
 have HE := Lib.hid (EqualI_any lo lo' va vb xs ys w hva hvb hx hy)
 have x0 := hb.cell 0 rfl
 obtain ⟨b, hbb⟩ : ∃ b, b = (xs == ys) := ⟨_, rfl⟩
 rw [← hbb] at HE ⊢
 clear hva hvb hb hbb
 go_enter Tryz.func85, Tryz.ntmps85
 go_wp2_with fail
 refine Calls.mono HE.out ?_
 rintro e w1 ⟨rfl, hb1⟩
 have HB1 := Lib.hid hb1
 clear hb1 x0 HE
 go_wp2
 go_ret
 exact ⟨rfl, HB1.out⟩

theorem SliceK.headK {lo n c : Nat} {a : Option Addr} {w : World} {xs : List Value} (h : SliceK 1 encV lo w (.slice a n c) xs) {m : Nat} (hm : m ≤ n) : SliceK 1 encV lo w (.slice a m c) (xs.take m) := by
 obtain ⟨b9, c9, h2, h3, h4, h5⟩ := h
 simp only [Value.slice.injEq] at h2
 obtain ⟨rfl, rfl, rfl⟩ := h2
 refine ⟨_, _, by rw [List.length_take]; congr 1; omega, by rw [List.length_take]; omega, by omega, ?_⟩
 rcases h5 with h5 | ⟨b, o, h6, h7, h8, h9⟩
 ·left; rw [List.length_take]; omega
 ·refine .inr ⟨b, o, h6, h7, h8, fun i hi j hj => ?_⟩
  rw [List.length_take] at hi
  rw [h9 i (by omega) j hj, List.getElem_take]

theorem info_int64K : (Tryz.prog.info? 2).map (fun i => (i.zero, i.size, i.bytes)) = some (some (.int .i64 0), 1, 8) := by kernel_rfl
theorem firstIx_of {ks : List (List Int)} {k : Nat} (hk : k < ks.length) : (firstIx ks)[k]? = some (if fstP (fun j => ks.getD j [] == ks[k]) k < 0 then (k : Int) else fstP (fun j => ks.getD j [] == ks[k]) k) := by
 rw [firstIx_at hk]
 have hg : ∀ j (h : j < ks.length), ks.getD j [] = ks[j] := fun j h => by rw [List.getD_eq_getElem?_getD, List.getElem?_eq_getElem h]; rfl
 have hle : fstIx ks ks[k] ≤ k := by
  rcases Nat.lt_or_ge k (fstIx ks ks[k]) with h | h
  ·exact absurd (List.getElem?_eq_getElem hk) (fstIx_first h)
  ·exact h
 congr 1
 rcases Nat.lt_or_ge (fstIx ks ks[k]) k with h | h
 ·have h1 : fstP (fun j => ks.getD j [] == ks[k]) k = (fstIx ks ks[k] : Nat) := by
   refine fstP_hit h (fun j hj => ?_) ?_
   ·rw [beq_eq_false_iff_ne, hg j (by omega)]
    intro e
    exact fstIx_first hj (by rw [List.getElem?_eq_getElem (show j < ks.length by omega), e])
   ·rw [beq_iff_eq, hg _ (by omega)]
    have h2 := fstIx_get (List.getElem_mem hk)
    rw [List.getElem?_eq_getElem (show fstIx ks ks[k] < ks.length by omega)] at h2
    exact Option.some.inj h2
  rw [h1, if_neg (by omega)]
 ·have e : fstIx ks ks[k] = k := by omega
  have h1 : fstP (fun j => ks.getD j [] == ks[k]) k = -1 := by
   refine fstP_none fun j hj => ?_
   rw [beq_eq_false_iff_ne, hg j (by omega)]
   intro e2
   exact fstIx_first (by omega : j < fstIx ks ks[k]) (by rw [List.getElem?_eq_getElem (show j < ks.length by omega), e2])
  rw [h1, if_pos (by decide), e]

set_option maxRecDepth 100000 in
set_option maxHeartbeats 1000000 in
theorem normalKeys_any (lo : Nat) (v : Value) (vs : List Value) (ks : List (List Int)) (w : World) (hv : OwnIntss 69 2 lo w v vs ks) (hne : ∀ r ∈ ks, r ≠ []) (hz : ks.length ≤ 1000) :
  Calls Tryz.prog 70 #[v] w (MadeNums (blocksL ks) w) := by
 have hvl := hv.1
 have HSV : Hid (SliceK 1 encV lo w v vs) := SliceK.of_owns (enc := encV) encV_len rfl (by rw [flat_encV]; exact hv.2.1)
 have HRW : Hid (∀ i (h : i < vs.length) (h' : i < ks.length), SliceK 1 encI lo w vs[i] ks[i]) := fun i h h' => SliceK.of_owns (enc := encI) encI_len rfl (by rw [flat_encI]; exact hv.2.2.1 i h h')
 have HNE := Lib.hid hne
 obtain ⟨a, c, rfl, hc, hcm⟩ := owns_slice hv.2.1
 have HROW : Hid (RowK 1 encV lo w a vs) := by
  obtain ⟨a9, c9, e9, -, -, h9⟩ := id HSV.out
  simp only [Value.slice.injEq] at e9
  rw [e9.1]
  exact h9
 obtain ⟨N, hN⟩ : ∃ N, N = vs.length := ⟨_, rfl⟩
 rw [← hN] at HSV hvl hc ⊢
 have HN := Lib.hid hN
 have HVL := Lib.hid hvl
 obtain ⟨Q, hQ⟩ : ∃ Q, Q = firstIx ks := ⟨_, rfl⟩
 have HQ := Lib.hid hQ
 have HQN : Hid (Q.length = N) := by unfold Hid; rw [hQ, firstIx_len, hvl]
 have hbQ : blocksL ks = normL Q := by rw [hQ]; rfl
 rw [hbQ]
 have hzN : N ≤ 1000 := by omega
 obtain ⟨i1, hi1, hz10, hz11, hz12⟩ := info_parts info_int64K
 have eg : ∀ args w, (callFunc 85 args).run Tryz.prog w = .ok (.enter 85 args) w := fun args w => by kernel_rfl
 have HEG := Lib.hid eg
 clear hv hne hN hvl hQ hbQ hz eg
 go_enter Tryz.func70, Tryz.ntmps70
 go_wp2
 go_loopw [3, 9] (fun v3 v9 wr => ∃ k : Nat, k ≤ N ∧ v9 = .int .i64 k ∧ Below w.heap.size w wr ∧ wr.ownsRow w.heap.size 2 1 v3 (Q.take k).length ((Q.take k).map (Value.int .i64))) (fun _ v9 _ => N - (intOf v9).toNat)
 case atStart => exact ⟨0, Nat.zero_le _, rfl, Below.refl _ _, World.ownsRow_nil _ _ _ _⟩
 case round =>
  obtain ⟨k, hk, rfl, hbl, ho⟩ := hrel
  obtain ⟨wC, rfl⟩ : ∃ wC : World, wC = wr := ⟨_, rfl⟩
  have HBL := Lib.hid hbl
  have hszC := hbl.size
  have hTk : (Q.take k).length = k := by rw [List.length_take, HQN.out]; omega
  rw [hTk] at ho
  obtain ⟨oa, oc, rfl, -, -⟩ := owns_slice ho
  have HO := Lib.hid ho
  clear ho hTk
  by_cases hlt : k < N
  ·have hlv : k < vs.length := by rw [← HN.out]; exact hlt
   have hlk : k < ks.length := by rw [← HVL.out]; exact hlt
   obtain ⟨b1, o1, rfl, -, hb1, c1⟩ := (HROW.out.below hbl).one hlv
   simp only [encV, List.getElem?_cons_zero] at c1
   have hkr := HRW.out k hlv hlk
   obtain ⟨ra, rc, hr9, -, -, -⟩ := id hkr
   obtain ⟨RL, hRL⟩ : ∃ RL, RL = ks[k].length := ⟨_, rfl⟩
   rw [← hRL] at hr9
   rw [hr9] at c1
   obtain ⟨tb, htb⟩ : ∃ tb, tb = wC.heap.size := ⟨_, rfl⟩
   obtain ⟨wK, hwK⟩ : ∃ wK, wK = wC.alloc (.cells #[.slice ra RL rc] 69) := ⟨_, rfl⟩
   have hbK : Below wC.heap.size wC wK := by rw [hwK]; exact (Below.refl _ _).alloc (Nat.le_refl _) _
   have hT : Blk wK tb [.slice ra RL rc] 69 := by rw [hwK, htb]; exact Blk.new wC _ _
   have hBK := HBL.out.trans (hbK.mono hszC)
   have HBK := Lib.hid hBK
   have HT := Lib.hid hT
   have HOK := Lib.hid (owns_below HO.out hbK)
   have HTK : Hid ((vs.take k).length = k) := by unfold Hid; rw [List.length_take]; omega
   have HIX := Lib.hid (IndexFuncK lo (.slice (some ⟨b1, o1, none⟩) k c) (vs.take k) 85 #[.pointer (some ⟨tb, 0, none⟩)] (fun j => ks.getD j [] == ks[k]) wK ((HSV.out.below hBK).headK (by omega)) HEG.out (fun w' hb i hi => by
    have hik : i < k := by rw [HTK.out] at hi; exact hi
    have hiv : i < vs.length := by omega
    have hil : i < ks.length := by omega
    rw [List.getElem_take]
    have hg : ks.getD i [] = ks[i] := by rw [List.getD_eq_getElem?_getD, List.getElem?_eq_getElem hil]; rfl
    show Calls Tryz.prog 85 (#[vs[i]] ++ #[.pointer (some ⟨tb, 0, none⟩)]) w' fun e w'' => e = .returned (.bool (ks.getD i [] == ks[k])) ∧ Below w'.heap.size w' w''
    rw [hg]
    exact nk1_any lo lo tb vs[i] (.slice ra RL rc) ks[i] ks[k] w' ((HRW.out i hiv hil).below (HBK.out.trans (hb.mono HBK.out.size))) (by rw [← hr9]; exact (HRW.out k hlv hlk).below (HBK.out.trans (hb.mono HBK.out.size))) (HNE.out _ (List.getElem_mem hil)) (HNE.out _ (List.getElem_mem hlk)) (HT.out.below hb)))
   rw [HTK.out] at HIX
   have hfi := firstIx_of hlk
   rw [← HQ.out] at hfi
   obtain ⟨f, hf⟩ : ∃ f, f = fstP (fun j => ks.getD j [] == ks[k]) k := ⟨_, rfl⟩
   rw [← hf] at HIX hfi
   obtain ⟨z, hz⟩ : ∃ z : Int, z = if f < 0 then (k : Int) else f := ⟨_, rfl⟩
   rw [← hz] at hfi
   have hltq : k < Q.length := by rw [HQN.out]; exact hlt
   have hQk : Q[k] = z := by
    rw [List.getElem?_eq_getElem hltq] at hfi
    exact Option.some.inj hfi
   have HNX : Hid ((Q.take (k + 1)).length = k + 1 ∧ (Q.take (k + 1)).map (Value.int .i64) = (Q.take k).map (Value.int .i64) ++ [.int .i64 z]) := by
    refine ⟨by rw [List.length_take, HQN.out]; omega, ?_⟩
    rw [List.take_succ_eq_append_getElem hltq, List.map_append, hQk]
    rfl
   have HZ := Lib.hid hz
   have HWK := Lib.hid hwK
   have HTB := Lib.hid htb
   have hsK : w.heap.size ≤ wK.heap.size := hBK.size
   clear hkr hr9 hRL hwK hbK hT hBK hfi hf hQk hz htb hbl
   go_wp2_with fail
   rw [← HWK.out]
   try rw [← HTB.out]
   refine Calls.mono HIX.out ?_
   rintro e w3 ⟨rfl, hb3⟩
   have HB3 := Lib.hid (HBK.out.trans (hb3.mono hsK))
   have HO3 := Lib.hid (owns_below HOK.out hb3)
   have hs3 := HB3.out.size
   clear hb3 HIX c1
   by_cases hf0 : f < 0
   ·have HZ2 : Hid (z = (k : Int)) := by unfold Hid; rw [HZ.out, if_pos hf0]
    go_wp2_with (at_builtin; refine wpList_append_own _ rfl _ _ 69 rfl w.heap.size 2 i1 (.int .i64 0) 1 8 Tryz.underlying69 hi1 hz10 hz11 hz12 rfl (by decide) _ k _ rfl (HO3.out.alloc _) ⟨w3.heap.size, 0, none⟩ 1 1 [.int .i64 k] rfl rfl ?c1 ?c2 ?c3 ?c4 ?c5 ?_)
    case c1 => exact World.news_of_block (cs := #[.int .i64 k]) (t := 2) (fr := (0, 0)) (heap_alloc_new _ _)
    case c2 => intro u hu; simp at hu; subst hu; rfl
    case c3 => simp [maxLen]; omega
    case c4 => omega
    case c5 => first | omega | (simp; omega)
    intro v7 w7 ho7 hg7 _
    have HB7 : Hid (Below w.heap.size w w7) := (HB3.out.alloc hs3 _).grown hg7 (by simp; omega) (fun b e => (HO3.out.lt b e).1)
    have HO7 : Hid (w7.ownsRow w.heap.size 2 1 v7 (Q.take (k + 1)).length ((Q.take (k + 1)).map (Value.int .i64))) := by unfold Hid; rw [HNX.out.1, HNX.out.2, HZ2.out, List.map_take]; exact ho7
    clear ho7 hg7
    go_wp2
    go_roundw
    case rel => exact ⟨k + 1, by omega, by go_num, HB7.out, HO7.out⟩
    case measure => simp [intOf]; omega
   ·have HZ2 : Hid (z = f) := by unfold Hid; rw [HZ.out, if_neg hf0]
    go_wp2_with (at_builtin; refine wpList_append_own _ rfl _ _ 69 rfl w.heap.size 2 i1 (.int .i64 0) 1 8 Tryz.underlying69 hi1 hz10 hz11 hz12 rfl (by decide) _ k _ rfl (HO3.out.alloc _) ⟨w3.heap.size, 0, none⟩ 1 1 [.int .i64 f] rfl rfl ?c1 ?c2 ?c3 ?c4 ?c5 ?_)
    case c1 => exact World.news_of_block (cs := #[.int .i64 f]) (t := 2) (fr := (0, 0)) (heap_alloc_new _ _)
    case c2 => intro u hu; simp at hu; subst hu; rfl
    case c3 => simp [maxLen]; omega
    case c4 => omega
    case c5 => first | omega | (simp; omega)
    intro v7 w7 ho7 hg7 _
    have HB7 : Hid (Below w.heap.size w w7) := (HB3.out.alloc hs3 _).grown hg7 (by simp; omega) (fun b e => (HO3.out.lt b e).1)
    have HO7 : Hid (w7.ownsRow w.heap.size 2 1 v7 (Q.take (k + 1)).length ((Q.take (k + 1)).map (Value.int .i64))) := by unfold Hid; rw [HNX.out.1, HNX.out.2, HZ2.out, List.map_take]; exact ho7
    clear ho7 hg7
    go_wp2
    go_roundw
    case rel => exact ⟨k + 1, by omega, by go_num, HB7.out, HO7.out⟩
    case measure => simp [intOf]; omega
  ·obtain rfl : k = N := by omega
   have hof : wC.ownsRow w.heap.size 2 1 (.slice oa k oc) Q.length (Q.map (Value.int .i64)) := by
    have h := HO.out
    rw [← HQN.out] at h ⊢
    simpa using h
   have HNM := Lib.hid (normal_any w.heap.size (.slice oa k oc) Q wC (by rw [HQN.out]; omega) (fun x hx => by
    obtain ⟨i, hi, rfl⟩ := List.mem_iff_getElem.1 hx
    have h := firstIx_at (l := ks) (i := i) (by have := HQN.out; have := HVL.out; omega)
    rw [← HQ.out, List.getElem?_eq_getElem hi] at h
    have h2 := fstIx_le ks (ks[i]'(by have := HQN.out; have := HVL.out; omega))
    rw [Option.some.inj h]
    have := HVL.out
    exact ⟨by omega, by omega⟩) (SliceK.of_owns (enc := encI) encI_len HQN.out.symm (by rw [flat_encI]; rw [HQN.out] at hof; exact hof)))
   clear hof hbl
   go_wp2_with fail
   refine Calls.mono HNM.out ?_
   rintro e w5 ⟨v5, rfl, hb5, ho5⟩
   have HB5 := Lib.hid (HBL.out.trans (hb5.mono hszC))
   have HO5 := Lib.hid (own_lower ho5 hszC)
   clear hb5 ho5 HNM
   go_wp2
   go_ret
   exact ⟨_, rfl, HB5.out, HO5.out⟩

end Go.Proofs.YtjoacldbgnphkaaGreatDoor

namespace Go.Proofs.YtjoacldbgnphkaaGreatDoor
open Go Go.RowKit


def apartP (t : Lts) (a b : Int) (k : Nat) : Bool := (lev t k).getD a.toNat 0 != (lev t k).getD b.toNat 0
/-- What depth answers. -/
def depthI (t : Lts) (a b : Int) : Int := if sepR t a b = 0 then -1 else (sepR t a b : Nat)
theorem depth_is {t : Lts} {a b : Int} (ha : a.toNat < t.states.toNat) (hb : b.toNat < t.states.toNat) : fstP (apartP t a b) (lastR t + 1) = depthI t a b := by
 unfold depthI
 by_cases h : sepR t a b = 0
 ·rw [if_pos h]
  refine fstP_none fun j hj => ?_
  have h1 := sep_zero ha hb h j (by omega)
  unfold apartP
  rw [h1]
  simp
 ·rw [if_neg h]
  obtain ⟨d, hd⟩ : ∃ d, sepR t a b = d + 1 := ⟨sepR t a b - 1, by omega⟩
  obtain ⟨h1, h2, h3⟩ := sep_pos hd
  rw [hd]
  refine fstP_hit (by omega) (fun j hj => ?_) ?_
  ·have := h3 j (by omega)
   unfold apartP
   rw [this]
   simp
  ·unfold apartP
   simpa using h2

set_option maxRecDepth 100000 in
set_option maxHeartbeats 1000000 in
theorem depth1_any (lo ab bb S : Nat) (v : Value) (p : List Int) (A B : Nat) (w : World) (hp : p.length = S) (hA : A < S) (hB : B < S) (hv : SliceK 1 encI lo w v p) (ha : Blk w ab [.int .i64 A] 2) (hb : Blk w bb [.int .i64 B] 2) :
  Calls Tryz.prog 72 #[v, .pointer (some ⟨ab, 0, none⟩), .pointer (some ⟨bb, 0, none⟩)] w fun e w' => e = .returned (.bool (p.getD A 0 != p.getD B 0)) ∧ Below w.heap.size w w' := by
 obtain ⟨a, c, rfl, hcn, hcc, hrow⟩ := hv
 rw [hp] at hcn ⊢
 obtain ⟨b1, o1, rfl, -, hbs, c1⟩ := hrow.one (i := A) (by omega)
 obtain ⟨b2, o2, he2, -, -, c2⟩ := hrow.one (i := B) (by omega)
 simp only [Option.some.injEq, Addr.mk.injEq, and_true] at he2
 obtain ⟨rfl, rfl⟩ := he2
 simp only [encI, List.getElem?_cons_zero] at c1 c2
 have g1 : p.getD A 0 = p[A] := by rw [List.getD_eq_getElem?_getD, List.getElem?_eq_getElem (by omega)]; rfl
 have g2 : p.getD B 0 = p[B] := by rw [List.getD_eq_getElem?_getD, List.getElem?_eq_getElem (by omega)]; rfl
 rw [← g1] at c1
 rw [← g2] at c2
 obtain ⟨x, hx⟩ : ∃ x, x = p.getD A 0 := ⟨_, rfl⟩
 obtain ⟨y, hy⟩ : ∃ y, y = p.getD B 0 := ⟨_, rfl⟩
 rw [← hx] at c1 ⊢
 rw [← hy] at c2 ⊢
 have a1 := later_cell ha.lt (ha.cell 0 rfl)
 have a2 := later_cell hb.lt (hb.cell 0 rfl)
 have a3 := later_cell hbs c1
 have a4 := later_cell hbs c2
 clear hx hy g1 g2 hrow ha hb hp
 go_enter Tryz.func72, Tryz.ntmps72
 go_wp2
 refine wp_region_later (by kernel_rfl) (by kernel_rfl) ?_
 repeat (go_big_quiet_step ((fail)))
 refine wpQuiet_nil ?_
 intro _ hw9
 obtain ⟨nl, hw8⟩ := hw9
 subst hw8
 go_wp2
 go_ret
 exact ⟨rfl, nl.h⟩

set_option maxRecDepth 100000 in
set_option maxHeartbeats 2000000 in
theorem depth_any (xb mb lo S : Nat) (t : Lts) (lv ev rv : Value) (A B : Nat) (w : World) (_hv : Valid t) (hS : (S : Int) = t.states) (hA : A < S) (hB : B < S) (hx : Tel w xb mb lo t lv ev rv) :
  Calls Tryz.prog 48 #[.pointer (some ⟨xb, 0, none⟩), .int .i64 A, .int .i64 B] w fun e w' => e = .returned (.int .i64 (depthI t A B)) ∧ Below w.heap.size w w' := by
 have HD : Hid (fstP (apartP t A B) (lastR t + 1) = depthI t A B) := depth_is (by simp; omega) (by simp; omega)
 have hlv := hx.rnds
 obtain ⟨ra, rc, hre⟩ : ∃ la lc, rv = .slice la (lastR t + 1) lc := by
  obtain ⟨vs, hl, ⟨a, c, rfl, -⟩, -⟩ := hlv
  rw [levs_len] at hl
  exact ⟨a, c, by rw [hl]⟩
 subst hre
 have x4 := hx.box.cell 4 rfl
 have hxl := hx.box.lt
 obtain ⟨W, hW⟩ : ∃ W, W = (w.alloc (.cells #[.int .i64 A] 2)).alloc (.cells #[.int .i64 B] 2) := ⟨_, rfl⟩
 have hB0 : Below w.heap.size w W := by rw [hW]; exact ((Below.refl _ _).alloc (Nat.le_refl _) _).alloc (by simp) _
 obtain ⟨ab, hab⟩ : ∃ ab, ab = w.heap.size := ⟨_, rfl⟩
 have hAB : Blk W ab [.int .i64 A] 2 := by rw [hW, hab]; exact (Blk.new w _ _).alloc _
 have hBB : Blk W (ab + 1) [.int .i64 B] 2 := by
  have h := Blk.new (w.alloc (.cells #[.int .i64 A] 2)) [.int .i64 B] 2
  rw [World.size_alloc, ← hab] at h
  rw [hW]
  exact h
 have x4W := keeps hB0 hxl x4
 have HSN : Hid (t.states.toNat = S) := by unfold Hid; omega
 obtain ⟨vs, hvl, hvr, hvi⟩ := hlv.below hB0
 rw [levs_len] at hvl
 have HVI := Lib.hid hvi
 have HIX := Lib.hid (IndexFuncK lo (.slice ra (lastR t + 1) rc) vs 72 #[.pointer (some ⟨ab, 0, none⟩), .pointer (some ⟨ab + 1, 0, none⟩)] (apartP t A B) W hvr (fun args w => by kernel_rfl) (fun w' hb i hi => by
  have hil : i < (levs t).length := by rw [levs_len]; omega
  have hlk : (levs t)[i] = lev t i := by
   have h := levs_get (t := t) (k := i) (by omega)
   rw [List.getElem?_eq_getElem hil] at h
   exact Option.some.inj h
  have hsl := (HVI.out i hi hil).below hb
  rw [hlk] at hsl
  have h := depth1_any lo ab (ab + 1) S vs[i] (lev t i) A B w' (by rw [lev_len]; exact HSN.out) hA hB hsl (hAB.below hb) (hBB.below hb)
  exact h))
 rw [hvl, HD.out] at HIX
 have HB0 := Lib.hid hB0
 have HWE := Lib.hid hW
 have HABE := Lib.hid hab
 obtain ⟨L, hL⟩ : ∃ L, L = lastR t := ⟨_, rfl⟩
 rw [← hL] at HIX x4 x4W
 clear hx hlv hW hB0 hab hAB hBB hvl hvr hvi hL hS
 go_enter Tryz.func48, Tryz.ntmps48
 go_wp2_with fail
 rw [← HWE.out, ← HABE.out]
 refine Calls.mono HIX.out ?_
 rintro e w1 ⟨rfl, hb1⟩
 have HB1 := Lib.hid (HB0.out.trans (hb1.mono HB0.out.size))
 clear hb1 HIX x4 x4W
 go_wp2
 go_ret
 exact ⟨rfl, HB1.out⟩

end Go.Proofs.YtjoacldbgnphkaaGreatDoor

namespace Go.Proofs.YtjoacldbgnphkaaGreatDoor
open Go Go.RowKit

def idxE (P : Edge → Bool) (xs : List Edge) : Int := if xs.findIdx P < xs.length then (xs.findIdx P : Nat) else -1
theorem idxE_neg {P : Edge → Bool} {xs : List Edge} : idxE P xs = -1 ↔ ∀ x ∈ xs, P x = false := by
 unfold idxE
 by_cases h : xs.findIdx P < xs.length
 ·rw [if_pos h]
  refine ⟨fun e => by omega, fun h2 => ?_⟩
  obtain ⟨x, hx, hp⟩ := List.findIdx_lt_length.1 h
  rw [h2 x hx] at hp
  cases hp
 ·rw [if_neg h]
  refine ⟨fun _ x hx => ?_, fun _ => rfl⟩
  cases hp : P x
  ·rfl
  ·exact absurd (List.findIdx_lt_length.2 ⟨x, hx, hp⟩) h
theorem idxE_any {P : Edge → Bool} {xs : List Edge} : decide (0 ≤ idxE P xs) = xs.any P := by
 unfold idxE
 by_cases h : xs.findIdx P < xs.length
 ·rw [if_pos h]
  obtain ⟨x, hx, hp⟩ := List.findIdx_lt_length.1 h
  rw [List.any_eq_true.2 ⟨x, hx, hp⟩]
  simp
 ·rw [if_neg h]
  have : xs.any P = false := by
   rw [List.any_eq_false]
   intro x hx hp
   exact h (List.findIdx_lt_length.2 ⟨x, hx, hp⟩)
  rw [this]
  rfl
/-- A function of one element that answers P, and turns nothing that was there. -/
def AskE (fid : Nat) (caps : Array Value) (P : Edge → Bool) (xs : List Edge) (B : Nat) (w : World) : Prop :=
 ∀ w', Below B w w' → ∀ x ∈ xs, Calls Tryz.prog fid (#[.agg #[.int .i64 x.src, .int .i64 x.lab, .int .i64 x.dst]] ++ caps) w' fun e w'' => e = .returned (.bool (P x)) ∧ Below w'.heap.size w' w''

set_option maxRecDepth 100000 in
set_option maxHeartbeats 1000000 in
theorem IndexFuncE (lo : Nat) (v : Value) (xs : List Edge) (fid : Nat) (caps : Array Value) (P : Edge → Bool) (w : World) (hv : SliceK 3 encE lo w v xs) (eg : ∀ args w, (callFunc fid args).run Tryz.prog w = .ok (.enter fid args) w) (hP : AskE fid caps P xs w.heap.size w) :
  Calls Tryz.prog 121 #[v, .func (.func fid) #[] caps] w fun e w' => e = .returned (.int .i64 (idxE P xs)) ∧ Below w.heap.size w w' := by
 obtain ⟨a, c, rfl, hcn, hcc, hrow⟩ := hv
 have HR := Lib.hid hrow
 have HP := Lib.hid hP
 clear hP hrow
 go_enter Tryz.func121, Tryz.ntmps121
 go_wp2_with fail
 go_loopw [8] (fun i wr => ∃ k : Nat, k ≤ xs.length ∧ i = .int .i64 k ∧ Below w.heap.size w wr ∧ ∀ j (h : j < xs.length), j < k → P xs[j] = false) (fun i _ => xs.length - (intOf i).toNat)
 case atStart => exact ⟨0, Nat.zero_le _, rfl, Below.refl _ _, fun _ _ h => by omega⟩
 case round =>
  obtain ⟨k, hk, rfl, hbl, ha⟩ := hrel
  have HA := Lib.hid ha
  have HBL := Lib.hid hbl
  clear ha
  by_cases hlt : k < xs.length
  ·obtain ⟨b1, o1, rfl, -, hbs, c1, c2, c3⟩ := (HR.out.below hbl).edge hlt
   clear hbl
   obtain ⟨x, hx⟩ : ∃ x, x = xs[k] := ⟨_, rfl⟩
   rw [← hx] at c1 c2 c3
   have HX := Lib.hid hx
   have HC := Lib.hid (HP.out wr HBL.out x (by rw [hx]; exact List.getElem_mem _))
   obtain ⟨b, hb⟩ : ∃ b, b = P x := ⟨_, rfl⟩
   rw [← hb] at HC
   have HB := Lib.hid hb
   clear hb hx
   go_wp2_with fail
   refine Calls.mono HC.out ?_
   rintro e w1 ⟨rfl, hb1⟩
   have HB1 := Lib.hid (HBL.out.trans (hb1.mono HBL.out.size))
   clear hb1 c1 c2 c3
   cases b
   ·go_wp2_with fail
    go_roundw
    case rel => exact ⟨k + 1, by omega, by go_num, HB1.out, fun j h hj => by
     by_cases e : j = k
     ·subst e; rw [← HX.out]; exact HB.out.symm
     ·exact HA.out j h (by omega)⟩
    case measure => simp [intOf]; omega
   ·have HI : Hid (idxE P xs = (k : Int)) := by
     unfold Hid idxE
     have h1 : xs.findIdx P = k := by
      rw [List.findIdx_eq hlt]
      exact ⟨by rw [← HX.out]; exact HB.out.symm, fun j hj => HA.out j (by omega) hj⟩
     rw [h1, if_pos hlt]
    go_wp2_with fail
    go_ret
    exact ⟨ret_int HI.out.symm, HB1.out⟩
  ·clear hbl
   have HI : Hid (idxE P xs = -1) := by
    unfold Hid
    rw [idxE_neg]
    intro x hx
    obtain ⟨j, hj, rfl⟩ := List.mem_iff_getElem.1 hx
    exact HA.out j hj (by omega)
   go_wp2_with fail
   go_ret
   exact ⟨ret_int HI.out.symm, HBL.out⟩

theorem ContainsFuncE (lo : Nat) (v : Value) (xs : List Edge) (fid : Nat) (caps : Array Value) (P : Edge → Bool) (w : World) (hv : SliceK 3 encE lo w v xs) (eg : ∀ args w, (callFunc fid args).run Tryz.prog w = .ok (.enter fid args) w) (hP : AskE fid caps P xs w.heap.size w) :
  Calls Tryz.prog 88 #[v, .func (.func fid) #[] caps] w fun e w' => e = .returned (.bool (xs.any P)) ∧ Below w.heap.size w w' := by
 have HC := Lib.hid (IndexFuncE lo v xs fid caps P w hv eg hP)
 clear hP
 go_enter Tryz.func88, Tryz.ntmps88
 go_wp2_with fail
 refine Calls.mono HC.out ?_
 rintro e w' ⟨rfl, hb⟩
 have HB := Lib.hid hb
 clear hb
 go_wp2_with fail
 go_ret
 exact ⟨ret_bool idxE_any, HB.out⟩

end Go.Proofs.YtjoacldbgnphkaaGreatDoor
