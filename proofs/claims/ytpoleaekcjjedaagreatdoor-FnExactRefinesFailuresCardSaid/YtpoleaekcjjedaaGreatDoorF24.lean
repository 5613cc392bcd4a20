/-
  The reference's l18Stable, l18Offer, l18Offers, l18Refuses.
  The reference's l18Offers, l18Refuses.
  The reference's l18Within, l18Covered, l18Less.
  What the reference's step by a label computes.
-/
import Derived.Test.YtpoleaekcjjedaaGreatDoorF14
import Derived.Test.YtpoleaekcjjedaaGreatDoorF11
import Derived.Test.YtpoleaekcjjedaaGreatDoorF7
import Derived.Deep.RegionHeld3
import Derived.Deep.AppendLies
import Derived.Test.YtpoleaekcjjedaaGreatDoorF15
import Derived.Test.YtpoleaekcjjedaaGreatDoorF5
import Derived.Test.YtpoleaekcjjedaaGreatDoorF2
namespace Go.Proofs.YtpoleaekcjjedaaGreatDoor
open Go Go.RowKit

theorem info_strV : (Tryz.prog.info? 9).map (fun i => (i.zero, i.size, i.bytes)) = some (some (.string ⟨#[]⟩), 1, 16) := by kernel_rfl
theorem info_strsV : (Tryz.prog.info? 22).map (fun i => (i.zero, i.size, i.bytes)) = some (some (.slice none 0 0), 1, 24) := by kernel_rfl

set_option maxRecDepth 100000 in
set_option maxHeartbeats 1000000 in
theorem l18Stable_any (p lo : Nat) (t : Lts) (s : Int) (w : World) (hp : LtsPtr lo w p t) : Calls Tryz.prog 131 #[.pointer (some ⟨p, 0, none⟩), .int .i64 s] w fun e w' => e = .returned (.bool (stableB t s)) ∧ Below w.heap.size w w' := by
 obtain ⟨lv, ev, hpl, -, -, -, q3, -, he⟩ := hp
 obtain ⟨ae, ce, rfl, hen, hec, hrow⟩ := he
 have HR := Lib.hid hrow
 have HQ3 := Lib.hid q3
 obtain ⟨E, hE⟩ : ∃ E, E = t.edges.length := ⟨_, rfl⟩
 rw [← hE] at q3 HQ3 hen
 have HE := Lib.hid hE
 clear hrow hE q3
 go_enter Tryz.func131, Tryz.ntmps131
 go_wp2
 go_loopw [5] (fun i wr => ∃ k : Nat, k ≤ E ∧ i = .int .i64 k ∧ Below w.heap.size w wr ∧ ∀ j (h : j < t.edges.length), j < k → ((t.edges[j].src == s) && (t.edges[j].lab == 0)) = false) (fun i _ => E - (intOf i).toNat)
 case atStart => exact ⟨0, Nat.zero_le _, rfl, Below.refl _ _, fun _ _ h => by omega⟩
 case round =>
  obtain ⟨k, hk, rfl, hbl, hx⟩ := hrel
  have HX := Lib.hid hx
  have HBL := Lib.hid hbl
  have q3 := keeps hbl hpl HQ3.out
  clear hx
  by_cases hlt : k < E
  ·have hlt2 : k < t.edges.length := by rw [← HE.out]; exact hlt
   obtain ⟨be, oe, rfl, -, hbe, e1, e2, e3⟩ := (HR.out.below hbl).edge hlt2
   clear hbl e3
   cases g : ((t.edges[k].src == s) && (t.edges[k].lab == 0))
   ·have HG := Lib.hid g
    cases g1 : (t.edges[k].src == s)
    ·clear g
     go_wp2
     go_roundw
     case rel => exact ⟨k + 1, by omega, by go_num, HBL.out, fun j h h' => by
       by_cases e : j = k
       ·subst e; exact HG.out
       ·exact HX.out j h (by omega)⟩
     case measure => simp [intOf]; omega
    ·rw [g1, Bool.true_and] at g
     go_wp2
     go_roundw
     case rel => exact ⟨k + 1, by omega, by go_num, HBL.out, fun j h h' => by
       by_cases e : j = k
       ·subst e; exact HG.out
       ·exact HX.out j h (by omega)⟩
     case measure => simp [intOf]; omega
   ·have HG : Hid (stableB t s = false) := by
     unfold Hid stableB
     rw [List.all_eq_false]
     exact ⟨t.edges[k], List.getElem_mem _, by rw [g]; simp⟩
    rw [Bool.and_eq_true] at g
    obtain ⟨g1, g2⟩ := g
    go_wp2
    go_ret
    exact ⟨ret_bool HG.out.symm, HBL.out⟩
  ·clear hbl
   have HG : Hid (stableB t s = true) := by
    unfold Hid stableB
    rw [List.all_eq_true]
    intro e he
    obtain ⟨j, hj, rfl⟩ := List.mem_iff_getElem.1 he
    rw [HX.out j hj (by have := HE.out; omega)]
    rfl
   go_wp2
   go_ret
   exact ⟨ret_bool HG.out.symm, HBL.out⟩

def MadeTx (xs : List ByteArray) (w : World) (e : Ending) (w' : World) : Prop := ∃ v, e = .returned v ∧ Below w.heap.size w w' ∧ OwnStrs w.heap.size w' v xs

set_option maxRecDepth 100000 in
set_option maxHeartbeats 4000000 in
theorem l18Offer_any (p lo : Nat) (t : Lts) (s : Int) (w : World) (hv : Valid t) (hp : LtsPtr lo w p t) : Calls Tryz.prog 132 #[.pointer (some ⟨p, 0, none⟩), .int .i64 s] w (MadeTx (offS t s) w) := by
 have HV := Lib.hid hv
 have hmost := hv.most
 obtain ⟨lv, ev, hpl, -, -, q2, q3, hl, he⟩ := hp
 obtain ⟨ae, ce, rfl, hen, hec, hrow⟩ := he
 obtain ⟨al, cl, rfl, hlc, -, hlrow⟩ := hl
 obtain ⟨E, hE⟩ : ∃ E, E = t.edges.length := ⟨_, rfl⟩
 obtain ⟨LN, hLN⟩ : ∃ LN, LN = t.labels.length := ⟨_, rfl⟩
 have hL1 := hv.labels.pos
 obtain ⟨bl, ol, rfl, hblw, hcl⟩ : ∃ bl ol, al = some ⟨bl, ol, none⟩ ∧ bl < w.heap.size ∧ ∀ i (h : i < t.labels.length), w.cell? ⟨bl, ol + i, none⟩ = some (.string t.labels[i]) := by
  rcases hlrow with h | ⟨bl, ol, h1, -, h3, h4⟩
  ·omega
  ·exact ⟨bl, ol, h1, h3, fun i hi => by have := h4 i hi 0 (by omega); simpa [encS] using this⟩
 rw [← hE] at q3 hen hmost
 rw [← hLN] at q2 hlc hL1
 have HR := Lib.hid hrow
 have HQ3 := Lib.hid q3
 have HQ2 := Lib.hid q2
 have HCL := Lib.hid hcl
 have HE := Lib.hid hE
 have HLN := Lib.hid hLN
 obtain ⟨i3, hi3, hz30, hz31, hz32⟩ := info_parts info_strV
 clear hv hrow hE q2 q3 hcl hLN hlrow
 go_enter Tryz.func132, Tryz.ntmps132
 go_wp2
 go_loopw [5, 6] (fun v i wr => ∃ k : Nat, k ≤ E ∧ i = .int .i64 k ∧ Below w.heap.size w wr ∧ wr.ownsRow w.heap.size 9 1 v (offTo t s k).length (txts (offTo t s k))) (fun _ i _ => E - (intOf i).toNat)
 case atStart => exact ⟨0, Nat.zero_le _, rfl, (Below.refl _ _).alloc (Nat.le_refl _) _, World.ownsRow_lit (size := 1) w #[] 0 (Nat.le_refl _) (by simp [maxLen]) rfl⟩
 case round =>
  obtain ⟨k, hk, rfl, hbl, ho⟩ := hrel
  have HBL := Lib.hid hbl
  have HO := Lib.hid ho
  have hsz := hbl.size
  have q3 := keeps hbl hpl HQ3.out
  have hol := offTo_len t s k
  obtain ⟨va, vc, hv5, -, -⟩ := owns_slice ho
  subst hv5
  by_cases hlt : k < E
  ·have hlt2 : k < t.edges.length := by rw [← HE.out]; exact hlt
   obtain ⟨be, oe, rfl, -, hbe, e1, e2, e3⟩ := (HR.out.below hbl).edge hlt2
   have hok := HV.out.edge k hlt2
   have HNX := Lib.hid (offTo_succ (k := s) hlt2)
   obtain ⟨l, hl⟩ : ∃ l, l = labAt t t.edges[k] := ⟨_, rfl⟩
   rw [← hl] at HNX
   obtain ⟨x, hx⟩ : ∃ x, x = t.edges[k] := ⟨_, rfl⟩
   have hok2 := hok
   rw [← hx] at e1 e2 e3 HNX hl hok2
   obtain ⟨m, hm⟩ : ∃ m : Nat, (m : Int) = x.lab := ⟨x.lab.toNat, by have := hok2.l0; omega⟩
   have hmt : x.lab.toNat = m := by omega
   have hmL2 : m < t.labels.length := by have := hok2.l1; omega
   have hmL : m < LN := by have := HLN.out; omega
   have hlm : l = t.labels[m] := by
    rw [hl]
    unfold labAt
    rw [hmt, List.getD_eq_getElem?_getD, List.getElem?_eq_getElem hmL2]
    rfl
   have hcm : w.cell? ⟨bl, ol + m, none⟩ = some (.string l) := by rw [hlm]; exact HCL.out m hmL2
   have HCM := Lib.hid hcm
   rw [← hm] at e2 HNX
   obtain ⟨xs, hxs⟩ : ∃ xs, xs = x.src := ⟨_, rfl⟩
   obtain ⟨xd, hxd⟩ : ∃ xd, xd = x.dst := ⟨_, rfl⟩
   rw [← hxs] at e1 HNX
   rw [← hxd] at e3
   obtain ⟨os, hos⟩ : ∃ os, os = offTo t s k := ⟨_, rfl⟩
   rw [← hos] at HO HNX hol ⊢
   have HOS := Lib.hid hos
   obtain ⟨ON, hON⟩ : ∃ ON, ON = os.length := ⟨_, rfl⟩
   rw [← hON] at HO hol ⊢
   have HON := Lib.hid hON
   -- the edge's box
   obtain ⟨wD, hwD⟩ : ∃ wD, wD = wr.alloc (.cells #[.int .i64 xs, .int .i64 m, .int .i64 xd] 135) := ⟨_, rfl⟩
   have hX : Blk wD wr.heap.size [.int .i64 xs, .int .i64 m, .int .i64 xd] 135 := by rw [hwD]; exact Blk.new wr _ _
   have hbD : Below w.heap.size w wD := by rw [hwD]; exact hbl.alloc hsz _
   have HBD := Lib.hid hbD
   have HOD : Hid (wD.ownsRow w.heap.size 9 1 (.slice va ON vc) ON (txts os)) := by unfold Hid; rw [hwD]; exact HO.out.alloc _
   have hszD := hbD.size
   have hxlt : wr.heap.size < wD.heap.size := hX.lt
   have x0 := later_cell hX.lt (hX.cell 0 rfl)
   have x1 := later_cell hX.lt (hX.cell 1 rfl)
   have lq2 := later_cell (show p < wD.heap.size by omega) (keeps hbD hpl HQ2.out)
   have lcm := later_cell (show bl < wD.heap.size by omega) (keeps hbD hblw HCM.out)
   have HWD := Lib.hid hwD
   have HFI : Hid (∀ g : Later wD, Calls Tryz.prog 133 #[.slice va ON vc, .string l] g.w fun e w' => e = .returned (.int .i64 (textAt os l)) ∧ Below g.w.heap.size g.w w') := fun g =>
    l11Find_any w.heap.size _ os l g.w (SliceK.of_owns (e := 9) encS_len HON.out (by rw [flat_encS]; exact owns_below HOD.out g.h))
   have hmi : (0 : Int) ≤ (m : Int) := by omega
   clear hbl ho hok hok2 hl hlm hx hm hmt hmL2 hcm hxs hxd hos hX hbD hON HO
   cases g1 : (xs == s)
   ·have HN2 : Hid (offTo t s (k + 1) = os) := by unfold Hid; rw [HNX.out, g1]; simp
    go_wp2
    rw [← HWD.out]
    refine wp_region_later (by kernel_rfl) (by kernel_rfl) ?_
    repeat (go_big_quiet_step ((fail)))
    refine wpQuiet_nil ?_
    intro _ hw9
    obtain ⟨nl, hw8⟩ := hw9
    subst hw8
    have HBN := Lib.hid (HBD.out.trans (nl.h.mono hszD))
    have HON2 := Lib.hid (owns_below HOD.out nl.h)
    clear x0 x1 lq2 lcm
    go_wp2
    go_roundw
    case rel => exact ⟨k + 1, by omega, by go_num, HBN.out, by rw [HN2.out, ← HON.out]; exact HON2.out⟩
    case measure => simp [intOf]; omega
   ·by_cases h0 : m = 0
    ·have hm0 : decide ((0 : Int) < (m : Int)) = false := decide_eq_false (by omega)
     have hm1 : ¬ (0 : Int) < (m : Int) := by omega
     have hm2 : decide (0 < m) = false := decide_eq_false (by omega)
     have HN2 : Hid (offTo t s (k + 1) = os) := by unfold Hid; rw [HNX.out, hm0]; simp
     clear h0
     go_wp2
     rw [← HWD.out]
     refine wp_region_later (by kernel_rfl) (by kernel_rfl) ?_
     repeat (go_big_quiet_step ((fail)))
     refine wpQuiet_nil ?_
     intro _ hw9
     obtain ⟨nl, hw8⟩ := hw9
     subst hw8
     have HBN := Lib.hid (HBD.out.trans (nl.h.mono hszD))
     have HON2 := Lib.hid (owns_below HOD.out nl.h)
     clear x0 x1 lq2 lcm
     go_wp2
     go_roundw
     case rel => exact ⟨k + 1, by omega, by go_num, HBN.out, by rw [HN2.out, ← HON.out]; exact HON2.out⟩
     case measure => simp [intOf]; omega
    ·have hm0 : decide ((0 : Int) < (m : Int)) = true := decide_eq_true (by omega)
     have hm1 : (0 : Int) < (m : Int) := by omega
     have hm2 : decide (0 < m) = true := decide_eq_true (by omega)
     rw [g1, hm0] at HNX
     obtain ⟨tx, htx⟩ : ∃ tx, tx = textAt os l := ⟨_, rfl⟩
     rw [← htx] at HNX HFI
     clear htx h0
     by_cases hneg : tx < 0
     ·have HN2 : Hid (offTo t s (k + 1) = os ++ [l]) := by
       unfold Hid
       rw [HNX.out, decide_eq_true hneg]
       rfl
      go_wp2
      rw [← HWD.out]
      refine wp_region_later (by kernel_rfl) (by kernel_rfl) ?_
      repeat (go_big_quiet_step ((go_at_call 133; exact later_call (HFI.out _))))
      refine wpQuiet_nil ?_
      intro _ hw9
      obtain ⟨nl, hw8⟩ := hw9
      subst hw8
      obtain ⟨wE, hwE⟩ : ∃ wE, wE = nl.w := ⟨_, rfl⟩
      have hbE : Below wD.heap.size wD wE := by rw [hwE]; exact nl.h
      obtain ⟨xb, hxb⟩ : ∃ xb, xb = wr.heap.size := ⟨_, rfl⟩
      have y1 : wE.cell? ⟨xb, 1, none⟩ = some (.int .i64 m) := by rw [hwE, hxb]; exact x1 nl
      have y2 : wE.cell? ⟨p, 2, none⟩ = some (.slice (some ⟨bl, ol, none⟩) LN cl) := by rw [hwE]; exact lq2 nl
      have y3 : wE.cell? ⟨bl, ol + m, none⟩ = some (.string l) := by rw [hwE]; exact lcm nl
      rw [← hwE, ← hxb]
      have hxE : xb < wE.heap.size := by have := hbE.size; omega
      have hwsE : w.heap.size ≤ wE.heap.size := by have := hbE.size; omega
      have HSW : Hid (∀ w', Below wE.heap.size wE w' → w'.cell? ⟨p, 2, none⟩ = some (.slice (some ⟨bl, ol, none⟩) LN cl) ∧ w'.cell? ⟨xb, 1, none⟩ = some (.int .i64 m) ∧ w'.cell? ⟨bl, ol + m, none⟩ = some (.string l)) := fun w' hb =>
       ⟨keeps hb (by omega) y2, keeps hb hxE y1, keeps hb (by omega) y3⟩
      have HBE := Lib.hid (HBD.out.trans (hbE.mono hszD))
      have HOE := Lib.hid (owns_below HOD.out hbE)
      have HD9 : Hid (Below wE.heap.size wE wE.drew) := (Below.refl _ _).drew
      have HDA9 : Hid (∀ o, Below wE.heap.size wE (wE.drew.alloc o)) := fun o => HD9.out.alloc (by simp) _
      have HNX1 : Hid (some xb ≠ (Value.slice va ON vc).ownBlock) := by
       rcases own_type_far HOE.out (show wE.heap[xb]? = _ from by rw [hxb]; have h := nl.h.block wr.heap.size hxlt; rw [hwE]; rw [h, HWD.out]; exact heap_alloc_new wr _) (by decide) with h | h
       ·intro e; rw [h] at e; cases e
       ·exact fun e => h e.symm
      have HNX2 : Hid (some p ≠ (Value.slice va ON vc).ownBlock) := fun e => by have := (HOE.out.lt p e.symm).1; omega
      have HNX3 : Hid (some bl ≠ (Value.slice va ON vc).ownBlock) := fun e => by have := (HOE.out.lt bl e.symm).1; omega
      clear x0 x1 lq2 lcm hbE hwE hxb
      go_wp2
      go_region_held3 (fun w' => w'.cell? ⟨p, 2, none⟩ = some (.slice (some ⟨bl, ol, none⟩) LN cl) ∧ w'.cell? ⟨xb, 1, none⟩ = some (.int .i64 m) ∧ w'.cell? ⟨bl, ol + m, none⟩ = some (.string l))
       (first
        | exact HSW.out _ HD9.out
        | exact HSW.out _ (HDA9.out _)
        | exact hS7
        | go_keep)
       (first
        | (refine step_append_lies _ (by rfl) _ _ 22 (by rfl) w.heap.size 9 i3 _ 1 16 Tryz.underlying22 hi3 hz30 hz31 hz32 rfl (by omega) (.slice va ON vc) ON (txts os) (by rfl) (HOE.out.alloc _) ⟨wE.heap.size, 0, none⟩ 1 1 [.string l] (by rfl) (by rfl) (World.news_of_block (cs := #[.string l]) (t := 9) (fr := (0, 0)) (heap_alloc_new _ _)) (by simp [Value.oneCell']) (by omega) (by simp [maxLen]; omega) (by omega) (by simp; omega) (wE.heap.size + 1) (by simp) ?_; intro gg cap w7 ho7 hg7 hat7 hlt7; have hSA := HSW.out _ (HDA9.out (.cells #[.string l] 9)); have hS7 : w7.cell? ⟨p, 2, none⟩ = some (.slice (some ⟨bl, ol, none⟩) LN cl) ∧ w7.cell? ⟨xb, 1, none⟩ = some (.int .i64 m) ∧ w7.cell? ⟨bl, ol + m, none⟩ = some (.string l) := ⟨(hg7.cell_far ⟨p, 2, none⟩ (by simp; omega) HNX2.out).trans hSA.1, (hg7.cell_far ⟨xb, 1, none⟩ (by simp; omega) HNX1.out).trans hSA.2.1, (hg7.cell_far ⟨bl, ol + m, none⟩ (by simp; omega) HNX3.out).trans hSA.2.2⟩)
        | fail)
      have HB7 : Hid (Below w.heap.size w w7) := ((HBE.out.trans ((HDA9.out (.cells #[.string l] 9)).mono hwsE))).grown hg7 (by simp; omega) (fun b e => (HOE.out.lt b e).1)
      have HO7 : Hid (w7.ownsRow w.heap.size 9 1 (.slice (some ⟨gg, 0, none⟩) (ON + 1) cap) (offTo t s (k + 1)).length (txts (offTo t s (k + 1)))) := by
       unfold Hid txts
       rw [HN2.out, List.length_append, List.map_append, ← HON.out]
       exact ho7
      clear ho7 hg7 hat7 hlt7 hSA hS7
      go_wp2
      go_roundw
      case rel => exact ⟨k + 1, by omega, by go_num, HB7.out, HO7.out⟩
      case measure => simp [intOf]; omega
     ·have HN2 : Hid (offTo t s (k + 1) = os) := by
       unfold Hid
       rw [HNX.out, decide_eq_false hneg]
       rfl
      go_wp2
      rw [← HWD.out]
      refine wp_region_later (by kernel_rfl) (by kernel_rfl) ?_
      repeat (go_big_quiet_step ((go_at_call 133; exact later_call (HFI.out _))))
      refine wpQuiet_nil ?_
      intro _ hw9
      obtain ⟨nl, hw8⟩ := hw9
      subst hw8
      have HBN := Lib.hid (HBD.out.trans (nl.h.mono hszD))
      have HON2 := Lib.hid (owns_below HOD.out nl.h)
      clear x0 x1 lq2 lcm
      go_wp2
      go_roundw
      case rel => exact ⟨k + 1, by omega, by go_num, HBN.out, by rw [HN2.out, ← HON.out]; exact HON2.out⟩
      case measure => simp [intOf]; omega
  ·obtain rfl : k = E := by omega
   have HF : Hid (offTo t s k = offS t s) := by unfold Hid offS; rw [HE.out]
   clear hbl ho
   go_wp2
   go_ret
   exact ⟨_, rfl, HBL.out, by unfold OwnStrs; rw [← HF.out]; exact HO.out⟩

end Go.Proofs.YtpoleaekcjjedaaGreatDoor

namespace Go.Proofs.YtpoleaekcjjedaaGreatDoor
open Go Go.RowKit

theorem stabs_take {t : Lts} {S : List Int} {k : Nat} (h : k < S.length) : stabs t (S.take (k + 1)) = stabs t (S.take k) ++ if stableB t S[k] then [S[k]] else [] := by
 unfold stabs
 rw [List.take_succ_eq_append_getElem h, List.filter_append, List.filter_cons]
 cases stableB t S[k] <;> simp
theorem offersS_len (t : Lts) (S : List Int) : (offersS t S).length ≤ S.length := by unfold offersS stabs; rw [List.length_map]; exact List.length_filter_le _ _

set_option maxRecDepth 100000 in
set_option maxHeartbeats 4000000 in
theorem l18Offers_any (p lo lo2 : Nat) (t : Lts) (v : Value) (S : List Int) (w : World) (hv : Valid t) (hp : LtsPtr lo w p t) (hs : SliceK 1 encI lo2 w v S) (hlen : S.length ≤ 1000) :
  Calls Tryz.prog 71 #[.pointer (some ⟨p, 0, none⟩), v] w fun e w' => ∃ v' vs, e = .returned v' ∧ Below w.heap.size w w' ∧ OwnStrss w.heap.size w' v' vs (offersS t S) := by
 obtain ⟨a, c, rfl, hcn, hcc, hrow⟩ := hs
 have HR := Lib.hid hrow
 have HP := Lib.hid hp
 have HV := Lib.hid hv
 obtain ⟨N, hN⟩ : ∃ N, N = S.length := ⟨_, rfl⟩
 rw [← hN] at hcn hlen ⊢
 have HN := Lib.hid hN
 obtain ⟨i2, hi2, hz20, hz21, hz22⟩ := info_parts info_strsV
 clear hrow hp hv hN
 go_enter Tryz.func71, Tryz.ntmps71
 go_wp2
 go_loopw [5, 6] (fun v5 i wr => ∃ (k : Nat) (vs : List Value), k ≤ N ∧ i = .int .i64 k ∧ Below w.heap.size w wr ∧ OwnStrss w.heap.size wr v5 vs (offersS t (S.take k))) (fun _ i _ => N - (intOf i).toNat)
 case atStart => exact ⟨0, [], Nat.zero_le _, rfl, (Below.refl _ _).alloc (Nat.le_refl _) _, ⟨World.ownsRow_lit (size := 1) w #[] 0 (Nat.le_refl _) (by simp [maxLen]) rfl, by simpa [offersS, stabs] using Pile.nil _ _ _⟩⟩
 case round =>
  obtain ⟨k, vs, hk, rfl, hbl, ho⟩ := hrel
  have HBL := Lib.hid hbl
  have HO := Lib.hid ho
  have hsz := hbl.size
  have hol : (offersS t (S.take k)).length ≤ k := Nat.le_trans (offersS_len t _) (by rw [List.length_take]; exact Nat.min_le_left _ _)
  have hvl : vs.length ≤ k := by rw [ho.len]; exact hol
  obtain ⟨va, vc, hv5, -, -⟩ := owns_slice ho.out
  subst hv5
  by_cases hlt : k < N
  ·have hlt2 : k < S.length := by rw [← HN.out]; exact hlt
   obtain ⟨b, o, rfl, -, hb, cx⟩ := (HR.out.below hbl).one hlt2
   simp only [encI, List.getElem?_cons_zero] at cx
   obtain ⟨x, hx⟩ : ∃ x, x = S[k] := ⟨_, rfl⟩
   have HNX : Hid (offersS t (S.take (k + 1)) = offersS t (S.take k) ++ if stableB t x then [offS t x] else []) := by
    unfold Hid offersS
    rw [stabs_take hlt2, List.map_append, ← hx]
    cases stableB t x <;> rfl
   rw [← hx] at cx
   have HST := Lib.hid (l18Stable_any p lo t x wr (HP.out.below hbl))
   obtain ⟨M, hM⟩ : ∃ M, M = vs.length := ⟨_, rfl⟩
   rw [← hM] at hvl ⊢
   have HM := Lib.hid hM
   obtain ⟨sb, hsb⟩ : ∃ sb, sb = stableB t x := ⟨_, rfl⟩
   rw [← hsb] at HST HNX
   have HCX := Lib.hid cx
   clear hbl ho hx hM hsb
   go_wp2_with fail
   refine Calls.mono HST.out ?_
   rintro e w2 ⟨rfl, hb2⟩
   have HB2 := Lib.hid (HBL.out.trans (hb2.mono hsz))
   have HO2 := Lib.hid (HO.out.below hb2)
   have cx2 := keeps hb2 hb cx
   have HOF := Lib.hid (l18Offer_any p lo t x w2 HV.out (HP.out.below HB2.out))
   have hsz2 := HB2.out.size
   clear hb2 cx HST
   cases sb
   ·go_wp2
    go_roundw
    case rel => exact ⟨k + 1, vs, by omega, by go_num, HB2.out, by rw [HNX.out]; simpa using (by rw [← HM.out] at *; exact HO2.out)⟩
    case measure => simp [intOf]; omega
   ·go_wp2_with fail
    refine Calls.mono HOF.out ?_
    rintro e w3 ⟨v3, rfl, hb3, ho3⟩
    obtain ⟨a3, c3, rfl, -, -⟩ := owns_slice ho3
    obtain ⟨ON, hON⟩ : ∃ ON, ON = (offS t x).length := ⟨_, rfl⟩
    rw [← hON]
    have HON := Lib.hid hON
    clear hON
    have HB3 := Lib.hid (HB2.out.trans (hb3.mono hsz2))
    have HF3 := Lib.hid hb3
    have HO3 := Lib.hid ho3
    have HOR := Lib.hid (owns_below HO2.out.out hb3)
    have hsz3 := HB3.out.size
    have hsz23 := hb3.size
    rw [← HM.out] at HOR
    clear hb3 ho3 HOF cx2
    go_wp2_with (at_builtin; refine wpList_append_own _ rfl _ _ 84 rfl w.heap.size 22 i2 (.slice none 0 0) 1 24 Tryz.underlying84 hi2 hz20 hz21 hz22 rfl (by decide) _ M _ rfl (HOR.out.alloc _) ⟨w3.heap.size, 0, none⟩ 1 1 [.slice a3 ON c3] rfl rfl ?c1 ?c2 ?c3 ?c4 ?c5 ?_)
    case c1 => exact World.news_of_block (cs := #[.slice a3 ON c3]) (t := 22) (fr := (0, 0)) (heap_alloc_new _ _)
    case c2 =>
     intro u hu; simp at hu; subst hu; rfl
    case c3 => simp [maxLen]; omega
    case c4 => omega
    case c5 => simp; omega
    intro v7 w7 ho7 hg7 _
    have HP7 : Hid (OwnStrss w.heap.size w7 v7 (vs ++ [.slice a3 ON c3]) (offersS t (S.take (k + 1)))) := by
     unfold Hid
     rw [HNX.out]
     refine ownStrss_push HO2.out (Nat.le_refl _) (HF3.out.alloc hsz23 (.cells #[.slice a3 ON c3] 22)) (by have h := World.ownsRow.alloc HO3.out (.cells #[.slice a3 ON c3] 22); rw [← HON.out] at h ⊢; exact h) hsz2 ?_ ?_
     ·rw [← HM.out]; exact hg7
     ·rw [← HM.out]; exact ho7
    have HB7 : Hid (Below w.heap.size w w7) := (HB3.out.alloc hsz3 _).grown hg7 (by simp; omega) (fun b e => (HOR.out.lt b e).1)
    clear ho7 hg7
    go_wp2
    go_roundw
    case rel => exact ⟨k + 1, vs ++ [.slice a3 ON c3], by omega, by go_num, HB7.out, HP7.out⟩
    case measure => simp [intOf]; omega
  ·obtain rfl : k = N := by omega
   have HF : Hid (offersS t (S.take k) = offersS t S) := by unfold Hid; rw [List.take_of_length_le (by have := HN.out; omega)]
   clear hbl ho
   go_wp2
   go_ret
   exact ⟨_, vs, rfl, HBL.out, by rw [← HF.out]; exact HO.out⟩

/-- A list of a slice of lists of texts. -/
theorem StrssAt.row {lo : Nat} {w : World} {v : Value} {xss : List (List ByteArray)} (h : StrssAt lo w v xss) {i : Nat} (hi : i < xss.length) :
  ∃ b o c u, v = .slice (some ⟨b, o, Option.none⟩) xss.length c ∧ b < w.heap.size ∧ w.cell? ⟨b, o + i, Option.none⟩ = some u ∧ SliceK 1 encS lo w u xss[i] := by
 obtain ⟨vs, h1, ⟨a, c, rfl, h2, h3, h4⟩, h5⟩ := h
 obtain ⟨b, o, rfl, -, hb, hc⟩ := h4.one (show i < vs.length by omega)
 exact ⟨b, o, c, vs[i], by rw [h1], hb, by simpa [encV] using hc, h5 i (by omega) hi⟩
theorem StrssAt.form {lo : Nat} {w : World} {v : Value} {xss : List (List ByteArray)} (h : StrssAt lo w v xss) : ∃ a c, v = .slice a xss.length c := by
 obtain ⟨vs, h1, ⟨a, c, rfl, -⟩, -⟩ := h
 exact ⟨a, c, by rw [h1]⟩

def freeB (o set : List ByteArray) (k : Nat) : Bool := (set.take k).all fun s => !inT o s
theorem freeB_succ {o set : List ByteArray} {k : Nat} (h : k < set.length) : freeB o set (k + 1) = (freeB o set k && !inT o set[k]) := by
 unfold freeB
 rw [List.take_succ_eq_append_getElem h, List.all_append]
 simp

set_option maxRecDepth 100000 in
set_option maxHeartbeats 4000000 in
theorem l18Refuses_any (lo lo2 : Nat) (v sv : Value) (xss : List (List ByteArray)) (set : List ByteArray) (w : World) (hv : StrssAt lo w v xss) (hs : SliceK 1 encS lo2 w sv set) (hxl : xss.length ≤ 1000) (hsl : set.length ≤ 1000) :
  Calls Tryz.prog 73 #[v, sv] w fun e w' => e = .returned (.bool (xss.any fun o => set.all fun s => !inT o s)) ∧ Below w.heap.size w w' := by
 have HXS := Lib.hid hv
 have HSV := Lib.hid hs
 obtain ⟨a, c, rfl⟩ := hv.form
 obtain ⟨sa, sc, rfl, -, -, -⟩ := hs
 obtain ⟨N, hN⟩ : ∃ N, N = xss.length := ⟨_, rfl⟩
 obtain ⟨M, hM⟩ : ∃ M, M = set.length := ⟨_, rfl⟩
 rw [← hN] at hxl
 rw [← hM] at hsl
 rw [← hN, ← hM]
 have HN := Lib.hid hN
 have HM := Lib.hid hM
 rw [← hN] at HXS
 rw [← hM] at HSV
 clear hv hN hM
 go_enter Tryz.func73, Tryz.ntmps73
 go_wp2
 go_loopw [5] (fun i wr => ∃ k : Nat, k ≤ N ∧ i = .int .i64 k ∧ Below w.heap.size w wr ∧ ∀ j (h : j < xss.length), j < k → (set.all fun s => !inT xss[j] s) = false) (fun i _ => N - (intOf i).toNat)
 case atStart => exact ⟨0, Nat.zero_le _, rfl, Below.refl _ _, fun _ _ h => by omega⟩
 case round =>
  obtain ⟨k, hk, rfl, hbl, hno⟩ := hrel
  have HBL := Lib.hid hbl
  have HNO := Lib.hid hno
  clear hno
  by_cases hlt : k < N
  ·have hlt2 : k < xss.length := by rw [← HN.out]; exact hlt
   clear hbl
   go_wp2
   go_loopw [6, 7] (fun v6 v7 wr => ∃ j : Nat, v6 = .bool (freeB xss[k] set j) ∧ v7 = .int .i64 j ∧ j ≤ M ∧ Below w.heap.size w wr) (fun _ v7 _ => M - (intOf v7).toNat)
   case atStart => exact ⟨0, rfl, rfl, Nat.zero_le _, HBL.out⟩
   case round =>
    clear HBL
    obtain ⟨j, rfl, rfl, hj, hbl⟩ := hrel
    have HBL := Lib.hid hbl
    have hsz := hbl.size
    by_cases hltj : j < M
    ·have hltj2 : j < set.length := by rw [← HM.out]; exact hltj
     have hx := HXS.out.below hbl
     rw [HN.out] at hx
     obtain ⟨b, o, c2, u, hav, hb, hcu, hsu⟩ := hx.row hlt2
     rw [← HN.out] at hav
     simp only [Value.slice.injEq, true_and] at hav
     obtain ⟨rfl, rfl⟩ := hav
     obtain ⟨a9, c9, h9, -, -, hr9⟩ := HSV.out.below hbl
     simp only [Value.slice.injEq] at h9
     obtain ⟨rfl, -, -⟩ := h9
     obtain ⟨b2, o2, rfl, -, hb2, hcs⟩ := hr9.one hltj2
     simp only [encS, List.getElem?_cons_zero] at hcs
     have HNX := Lib.hid (freeB_succ (o := xss[k]) hltj2)
     obtain ⟨s, hs⟩ : ∃ s, s = set[j] := ⟨_, rfl⟩
     rw [← hs] at hcs HNX
     have HFI : Hid (∀ g : Later wr, Calls Tryz.prog 133 #[u, .string s] g.w fun e w' => e = .returned (.int .i64 (textAt xss[k] s)) ∧ Below g.w.heap.size g.w w') := fun g => l11Find_any lo u xss[k] s g.w (hsu.below g.h)
     have hti := textAt_inT (ss := xss[k]) (s := s)
     obtain ⟨tx, htx⟩ : ∃ tx, tx = textAt xss[k] s := ⟨_, rfl⟩
     rw [← htx] at HFI hti
     rw [← hti] at HNX
     obtain ⟨fb, hfb⟩ : ∃ fb, fb = freeB xss[k] set j := ⟨_, rfl⟩
     rw [← hfb] at HNX ⊢
     have lu := later_cell hb hcu
     have ls := later_cell hb2 hcs
     clear hbl hx hsu hr9 hs htx hfb hcu hcs hti
     cases fb
     ·go_wp2
      refine wp_region_later (by kernel_rfl) (by kernel_rfl) ?_
      repeat (go_big_quiet_step ((fail)))
      refine wpQuiet_nil ?_
      intro _ hw9
      obtain ⟨nl, hw8⟩ := hw9
      subst hw8
      have HBN := Lib.hid (HBL.out.trans (nl.h.mono hsz))
      clear lu ls
      go_wp2
      go_roundw
      case rel => exact ⟨j + 1, by rw [HNX.out]; rfl, by go_num, by omega, HBN.out⟩
      case measure => simp [intOf]; omega
     ·go_wp2
      refine wp_region_later (by kernel_rfl) (by kernel_rfl) ?_
      repeat (go_big_quiet_step ((go_at_call 133; exact later_call (HFI.out _))))
      refine wpQuiet_nil ?_
      intro _ hw9
      obtain ⟨nl, hw8⟩ := hw9
      subst hw8
      have HBN := Lib.hid (HBL.out.trans (nl.h.mono hsz))
      clear lu ls
      go_wp2
      go_roundw
      case rel => exact ⟨j + 1, by rw [HNX.out, Bool.true_and], by go_num, by omega, HBN.out⟩
      case measure => simp [intOf]; omega
    ·obtain rfl : j = M := by omega
     have HALL : Hid (freeB xss[k] set j = set.all fun s => !inT xss[k] s) := by unfold Hid freeB; rw [List.take_of_length_le (by have := HM.out; omega)]
     obtain ⟨fb, hfb⟩ : ∃ fb, fb = freeB xss[k] set j := ⟨_, rfl⟩
     rw [← hfb] at HALL ⊢
     clear hbl hfb
     cases fb
     ·go_wp2
      go_roundw
      case rel => exact ⟨k + 1, by omega, by go_num, HBL.out, fun i hi hik => by
       by_cases e : i = k
       ·subst e; exact HALL.out.symm
       ·exact HNO.out i hi (by omega)⟩
      case measure => simp [intOf]; omega
     ·have HF : Hid ((xss.any fun o => set.all fun s => !inT o s) = true) := by
       unfold Hid
       rw [List.any_eq_true]
       exact ⟨xss[k], List.getElem_mem _, HALL.out.symm⟩
      go_wp2
      go_ret
      exact ⟨ret_bool HF.out.symm, HBL.out⟩
  ·have HF : Hid ((xss.any fun o => set.all fun s => !inT o s) = false) := by
    unfold Hid
    rw [List.any_eq_false]
    intro o ho
    obtain ⟨j, hj, rfl⟩ := List.mem_iff_getElem.1 ho
    rw [HNO.out j hj (by have := HN.out; omega)]
    simp
   clear hbl
   go_wp2
   go_ret
   exact ⟨ret_bool HF.out.symm, HBL.out⟩

end Go.Proofs.YtpoleaekcjjedaaGreatDoor

namespace Go.Proofs.YtpoleaekcjjedaaGreatDoor
open Go Go.RowKit

set_option maxRecDepth 100000 in
set_option maxHeartbeats 1000000 in
theorem l18Within_any (lo lo2 : Nat) (av bv : Value) (xs bs : List ByteArray) (w : World) (ha : SliceK 1 encS lo w av xs) (hb : SliceK 1 encS lo2 w bv bs) (hal : xs.length ≤ 1000) :
  Calls Tryz.prog 154 #[av, bv] w fun e w' => e = .returned (.bool (withinL xs bs)) ∧ Below w.heap.size w w' := by
 obtain ⟨a, c, rfl, -, -, hrow⟩ := ha
 have HR := Lib.hid hrow
 have HB := Lib.hid hb
 obtain ⟨N, hN⟩ : ∃ N, N = xs.length := ⟨_, rfl⟩
 rw [← hN] at hal ⊢
 have HN := Lib.hid hN
 clear hrow hb hN
 go_enter Tryz.func154, Tryz.ntmps154
 go_wp2
 go_loopw [5] (fun i wr => ∃ k : Nat, k ≤ N ∧ i = .int .i64 k ∧ Below w.heap.size w wr ∧ ∀ j (h : j < xs.length), j < k → inT bs xs[j] = true) (fun i _ => N - (intOf i).toNat)
 case atStart => exact ⟨0, Nat.zero_le _, rfl, Below.refl _ _, fun _ _ h => by omega⟩
 case round =>
  obtain ⟨k, hk, rfl, hbl, hx⟩ := hrel
  have HX := Lib.hid hx
  have HBL := Lib.hid hbl
  have hsz := hbl.size
  clear hx
  by_cases hlt : k < N
  ·have hlt2 : k < xs.length := by rw [← HN.out]; exact hlt
   obtain ⟨b, o, rfl, -, hbw, cx⟩ := (HR.out.below hbl).one hlt2
   simp only [encS, List.getElem?_cons_zero] at cx
   have hti := textAt_inT (ss := bs) (s := xs[k])
   obtain ⟨s, hs⟩ : ∃ s, s = xs[k] := ⟨_, rfl⟩
   rw [← hs] at cx hti
   have HS := Lib.hid hs
   have HFI := Lib.hid (l11Find_any lo2 bv bs s wr (HB.out.below hbl))
   obtain ⟨tx, htx⟩ : ∃ tx, tx = textAt bs s := ⟨_, rfl⟩
   rw [← htx] at HFI hti
   have HTI := Lib.hid hti
   clear hbl hs htx hti
   go_wp2_with fail
   refine Calls.mono HFI.out ?_
   rintro e w2 ⟨rfl, hb2⟩
   have HB2 := Lib.hid (HBL.out.trans (hb2.mono hsz))
   clear hb2 cx HFI
   by_cases hneg : tx < 0
   ·have HF : Hid (withinL xs bs = false) := by
     unfold Hid withinL
     rw [List.all_eq_false]
     refine ⟨xs[k], List.getElem_mem _, ?_⟩
     have h := HTI.out
     rw [decide_eq_true hneg, HS.out] at h
     simpa using h.symm
    go_wp2
    go_ret
    exact ⟨ret_bool HF.out.symm, HB2.out⟩
   ·have HF : Hid (inT bs xs[k] = true) := by
     have h := HTI.out
     rw [decide_eq_false hneg, HS.out] at h
     unfold Hid
     simpa using h.symm
    go_wp2
    go_roundw
    case rel => exact ⟨k + 1, by omega, by go_num, HB2.out, fun j h h' => by
     by_cases e : j = k
     ·subst e; exact HF.out
     ·exact HX.out j h (by omega)⟩
    case measure => simp [intOf]; omega
  ·clear hbl
   have HF : Hid (withinL xs bs = true) := by
    unfold Hid withinL
    rw [List.all_eq_true]
    intro x hx
    obtain ⟨j, hj, rfl⟩ := List.mem_iff_getElem.1 hx
    exact HX.out j hj (by have := HN.out; omega)
   go_wp2
   go_ret
   exact ⟨ret_bool HF.out.symm, HBL.out⟩

set_option maxRecDepth 100000 in
set_option maxHeartbeats 1000000 in
theorem l18Covered_any (lo lo2 : Nat) (ov lv : Value) (o : List ByteArray) (list : List (List ByteArray)) (w : World) (ho : SliceK 1 encS lo2 w ov o) (hl : StrssAt lo w lv list) (hz : list.length ≤ 1000) (hz2 : ∀ x ∈ list, x.length ≤ 1000) :
  Calls Tryz.prog 138 #[ov, lv] w fun e w' => e = .returned (.bool (covB o list)) ∧ Below w.heap.size w w' := by
 have HO := Lib.hid ho
 have HXS := Lib.hid hl
 have HZ2 := Lib.hid hz2
 obtain ⟨a, c, rfl⟩ := hl.form
 obtain ⟨N, hN⟩ : ∃ N, N = list.length := ⟨_, rfl⟩
 rw [← hN] at hz HXS ⊢
 have HN := Lib.hid hN
 clear ho hl hN hz2
 go_enter Tryz.func138, Tryz.ntmps138
 go_wp2
 go_loopw [5] (fun i wr => ∃ k : Nat, k ≤ N ∧ i = .int .i64 k ∧ Below w.heap.size w wr ∧ ∀ j (h : j < list.length), j < k → withinL list[j] o = false) (fun i _ => N - (intOf i).toNat)
 case atStart => exact ⟨0, Nat.zero_le _, rfl, Below.refl _ _, fun _ _ h => by omega⟩
 case round =>
  obtain ⟨k, hk, rfl, hbl, hx⟩ := hrel
  have HX := Lib.hid hx
  have HBL := Lib.hid hbl
  have hsz := hbl.size
  clear hx
  by_cases hlt : k < N
  ·have hlt2 : k < list.length := by rw [← HN.out]; exact hlt
   have hx := HXS.out.below hbl
   rw [HN.out] at hx
   obtain ⟨b, o2, c2, u, hav, hb, hcu, hsu⟩ := hx.row hlt2
   rw [← HN.out] at hav
   simp only [Value.slice.injEq, true_and] at hav
   obtain ⟨rfl, rfl⟩ := hav
   have HWI := Lib.hid (l18Within_any lo lo2 u ov list[k] o wr hsu (HO.out.below hbl) (HZ2.out _ (List.getElem_mem hlt2)))
   obtain ⟨wb, hwb⟩ : ∃ wb, wb = withinL list[k] o := ⟨_, rfl⟩
   rw [← hwb] at HWI
   have HWB := Lib.hid hwb
   clear hbl hx hsu hwb
   go_wp2_with fail
   refine Calls.mono HWI.out ?_
   rintro e w2 ⟨rfl, hb2⟩
   have HB2 := Lib.hid (HBL.out.trans (hb2.mono hsz))
   clear hb2 hcu HWI
   cases wb
   ·go_wp2
    go_roundw
    case rel => exact ⟨k + 1, by omega, by go_num, HB2.out, fun j h h' => by
     by_cases e : j = k
     ·subst e; exact HWB.out.symm
     ·exact HX.out j h (by omega)⟩
    case measure => simp [intOf]; omega
   ·have HF : Hid (covB o list = true) := by
     unfold Hid covB
     rw [List.any_eq_true]
     exact ⟨list[k], List.getElem_mem _, HWB.out.symm⟩
    go_wp2
    go_ret
    exact ⟨ret_bool HF.out.symm, HB2.out⟩
  ·clear hbl
   have HF : Hid (covB o list = false) := by
    unfold Hid covB
    rw [List.any_eq_false]
    intro x hx
    obtain ⟨j, hj, rfl⟩ := List.mem_iff_getElem.1 hx
    rw [HX.out j hj (by have := HN.out; omega)]
    simp
   go_wp2
   go_ret
   exact ⟨ret_bool HF.out.symm, HBL.out⟩

theorem lack_take {L o : List ByteArray} {k : Nat} (hk : 1 ≤ k) (h : k < L.length) : lackL ((L.take (k + 1)).drop 1) o = lackL ((L.take k).drop 1) o ++ if inT o L[k] then [] else [L[k]] := by
 unfold lackL
 rw [List.take_succ_eq_append_getElem h, List.drop_append_of_le_length (by rw [List.length_take]; omega), List.filter_append, List.filter_cons]
 cases inT o L[k] <;> simp
theorem lack_len (L o : List ByteArray) : (lackL L o).length ≤ L.length := List.length_filter_le _ _

set_option maxRecDepth 100000 in
set_option maxHeartbeats 2000000 in
theorem l18Less_any (lo lo2 : Nat) (lv ov : Value) (L o : List ByteArray) (w : World) (hl : SliceK 1 encS lo w lv L) (ho : SliceK 1 encS lo2 w ov o) (h1 : 1 ≤ L.length) (hz : L.length ≤ 1002) :
  Calls Tryz.prog 139 #[lv, ov] w (MadeTx (lackL (L.drop 1) o) w) := by
 obtain ⟨a, c, rfl, -, -, hrow⟩ := hl
 have HR := Lib.hid hrow
 have HO := Lib.hid ho
 obtain ⟨N, hN⟩ : ∃ N, N = L.length := ⟨_, rfl⟩
 rw [← hN] at h1 hz ⊢
 have HN := Lib.hid hN
 obtain ⟨i3, hi3, hz30, hz31, hz32⟩ := info_parts info_strV
 clear hrow ho hN
 go_enter Tryz.func139, Tryz.ntmps139
 go_wp2
 go_loopw [5, 6] (fun v5 v6 wr => ∃ k : Nat, 1 ≤ k ∧ k ≤ N ∧ v6 = .int .i64 k ∧ Below w.heap.size w wr ∧ OwnStrs w.heap.size wr v5 (lackL ((L.take k).drop 1) o)) (fun _ v6 _ => N - (intOf v6).toNat)
 case atStart =>
  refine ⟨1, Nat.le_refl _, h1, rfl, (Below.refl _ _).alloc (Nat.le_refl _) _, ?_⟩
  have h : (L.take 1).drop 1 = [] := List.drop_eq_nil_of_le (by rw [List.length_take]; omega)
  rw [h]
  exact World.ownsRow_lit (size := 1) w #[] 0 (Nat.le_refl _) (by simp [maxLen]) rfl
 case round =>
  obtain ⟨k, hk1, hk, rfl, hbl, hown⟩ := hrel
  have HBL := Lib.hid hbl
  have HOW := Lib.hid hown
  have hsz := hbl.size
  obtain ⟨va, vc, rfl, -, -⟩ := owns_slice hown
  by_cases hlt : k < N
  ·have hlt2 : k < L.length := by rw [← HN.out]; exact hlt
   obtain ⟨b, o2, rfl, -, hbw, cx⟩ := (HR.out.below hbl).one hlt2
   simp only [encS, List.getElem?_cons_zero] at cx
   have hti := textAt_inT (ss := o) (s := L[k])
   have hnx := lack_take (o := o) hk1 hlt2
   obtain ⟨s, hs⟩ : ∃ s, s = L[k] := ⟨_, rfl⟩
   rw [← hs] at cx hti hnx
   have HFI := Lib.hid (l11Find_any lo2 ov o s wr (HO.out.below hbl))
   obtain ⟨tx, htx⟩ : ∃ tx, tx = textAt o s := ⟨_, rfl⟩
   rw [← htx] at HFI hti
   have HTI := Lib.hid hti
   have HNX := Lib.hid hnx
   obtain ⟨xs, hxs⟩ : ∃ xs, xs = lackL ((L.take k).drop 1) o := ⟨_, rfl⟩
   rw [← hxs] at HOW HNX ⊢
   have hxl : xs.length ≤ 1002 := by
    rw [hxs]
    refine Nat.le_trans (lack_len _ _) ?_
    rw [List.length_drop, List.length_take]
    omega
   obtain ⟨XN, hXN⟩ : ∃ XN, XN = xs.length := ⟨_, rfl⟩
   have hHOW : wr.ownsRow w.heap.size 9 1 (.slice va XN vc) XN (txts xs) := by rw [hXN]; exact HOW.out
   have HOX := Lib.hid hHOW
   rw [← hXN] at hxl ⊢
   have HXN := Lib.hid hXN
   have HCX := Lib.hid cx
   clear hbl hown hs htx hti hnx hxs hXN hHOW
   go_wp2_with fail
   refine Calls.mono HFI.out ?_
   rintro e w2 ⟨rfl, hb2⟩
   have HB2 := Lib.hid (HBL.out.trans (hb2.mono hsz))
   have HO2 := Lib.hid (owns_below HOX.out hb2)
   have cx2 := keeps hb2 hbw cx
   have hsz2 := HB2.out.size
   have hbw2 : b < w2.heap.size := by have := hb2.size; omega
   clear hb2 cx HFI
   by_cases hneg : tx < 0
   ·have HT : Hid (lackL ((L.take (k + 1)).drop 1) o = xs ++ [s]) := by
     unfold Hid
     have h := HTI.out
     rw [decide_eq_true hneg] at h
     have h2 : inT o s = false := by simpa using h.symm
     rw [HNX.out, h2]
     rfl
    go_wp2_with (at_builtin; refine wpList_append_own _ rfl _ _ 22 rfl w.heap.size 9 i3 (.string ⟨#[]⟩) 1 16 Tryz.underlying22 hi3 hz30 hz31 hz32 rfl (by decide) _ XN _ rfl (HO2.out.alloc _) ⟨w2.heap.size, 0, none⟩ 1 1 [.string s] rfl rfl ?c1 ?c2 ?c3 ?c4 ?c5 ?_)
    case c1 => exact World.news_of_block (cs := #[.string s]) (t := 9) (fr := (0, 0)) (heap_alloc_new _ _)
    case c2 => intro u hu; simp at hu; subst hu; rfl
    case c3 => simp [maxLen]; omega
    case c4 => omega
    case c5 => simp; omega
    intro v7 w7 ho7 hg7 _
    have HB7 : Hid (Below w.heap.size w w7) := (HB2.out.alloc hsz2 _).grown hg7 (by simp; omega) (fun b e => (HO2.out.lt b e).1)
    have HO7 : Hid (OwnStrs w.heap.size w7 v7 (lackL ((L.take (k + 1)).drop 1) o)) := by
     unfold Hid OwnStrs txts
     rw [HT.out, List.length_append, List.map_append, ← HXN.out]
     exact ho7
    clear ho7 hg7 cx2
    go_wp2
    go_roundw
    case rel => exact ⟨k + 1, by omega, by omega, by go_num, HB7.out, HO7.out⟩
    case measure => simp [intOf]; omega
   ·have HT : Hid (lackL ((L.take (k + 1)).drop 1) o = xs) := by
     unfold Hid
     have h := HTI.out
     rw [decide_eq_false hneg] at h
     have h2 : inT o s = true := by simpa using h.symm
     rw [HNX.out, h2]
     simp
    clear cx2
    go_wp2
    go_roundw
    case rel => exact ⟨k + 1, by omega, by omega, by go_num, HB2.out, by rw [HT.out]; unfold OwnStrs; rw [← HXN.out]; exact HO2.out⟩
    case measure => simp [intOf]; omega
  ·obtain rfl : k = N := by omega
   have HF : Hid ((L.take k).drop 1 = L.drop 1) := by unfold Hid; rw [List.take_of_length_le (by have := HN.out; omega)]
   clear hbl hown
   go_wp2
   go_ret
   exact ⟨_, rfl, HBL.out, by rw [← HF.out]; exact HOW.out⟩

end Go.Proofs.YtpoleaekcjjedaaGreatDoor

namespace Go.Proofs.YtpoleaekcjjedaaGreatDoor
open Go Go.RowKit

set_option maxRecDepth 100000 in
set_option maxHeartbeats 4000000 in
theorem l12Go_any (p lo : Nat) (t : Lts) (q : Int) (s : ByteArray) (w : World) (hE : ∀ i (h : i < t.edges.length), EdgeOk t t.edges[i]) (hp : LtsPtr lo w p t) :
  Calls Tryz.prog 72 #[.pointer (some ⟨p, 0, none⟩), .int .i64 q, .string s] w fun e w' => e = .returned (.int .i64 (goTo t q s)) ∧ Below w.heap.size w w' := by
 obtain ⟨lv, ev, hpl, -, -, q2, q3, hl, he⟩ := hp
 obtain ⟨ae, ce, rfl, hen, hec, hrow⟩ := he
 obtain ⟨al, cl, rfl, hln, hlc, hlrow⟩ := hl
 have HQ3 := Lib.hid q3
 have HQ2 := Lib.hid q2
 have HE := Lib.hid hE
 clear hE q2
 by_cases hq : q < 0
 ·have hq' : decide (0 ≤ q) = false := by rw [decide_eq_false_iff_not]; omega
  have hg : Hid (goTo t q s = -1) := by unfold Hid goTo; rw [if_pos hq]
  by_cases h0 : 0 < t.edges.length
  ·go_enter Tryz.func72, Tryz.ntmps72
   go_wp2
   go_loopw [7] (fun i wr => i = .int .i64 0 ∧ wr = w) (fun _ _ => 0)
   case atStart => exact ⟨rfl, rfl⟩
   case round =>
    obtain ⟨rfl, rfl⟩ := hrel
    go_wp2
    go_ret
    exact ⟨ret_int hg.out.symm, Below.refl _ _⟩
  ·go_enter Tryz.func72, Tryz.ntmps72
   go_wp2
   go_loopw [7] (fun i wr => i = .int .i64 0 ∧ wr = w) (fun _ _ => 0)
   case atStart => exact ⟨rfl, rfl⟩
   case round =>
    obtain ⟨rfl, rfl⟩ := hrel
    go_wp2
    go_ret
    exact ⟨ret_int hg.out.symm, Below.refl _ _⟩
 ·have hq0 : 0 ≤ q := by omega
  have hg : Hid (goTo t q s = ((t.edges.find? (hitB t q s)).map Edge.dst).getD (-1)) := by unfold Hid goTo; rw [if_neg hq]
  clear hq
  go_enter Tryz.func72, Tryz.ntmps72
  go_wp2
  clear q3
  go_loopw [7] (fun i wr => ∃ k : Nat, k ≤ t.edges.length ∧ i = .int .i64 k ∧ Below w.heap.size w wr ∧ ∀ j (h : j < t.edges.length), j < k → hitB t q s t.edges[j] = false) (fun i _ => t.edges.length - (intOf i).toNat)
  case atStart => exact ⟨0, Nat.zero_le _, rfl, Below.refl _ _, fun _ _ h => by omega⟩
  case round =>
   obtain ⟨k, hk, rfl, hbl, hx⟩ := hrel
   have HX := Lib.hid hx
   have HBL := Lib.hid hbl
   have hsz := hbl.size
   have q3 := keeps hbl hpl HQ3.out
   have q2 := keeps hbl hpl HQ2.out
   clear hx hbl
   by_cases hlt : k < t.edges.length
   ·have hek := HE.out k hlt
    have hk0 := hek.l0
    have hk1 := hek.l1
    have hkn : t.edges[k].lab.toNat < t.labels.length := by omega
    obtain ⟨be, oe, rfl, -, hbe, e1, e2, e3⟩ := (hrow.below HBL.out).edge hlt
    obtain ⟨bl, ol, rfl, -, hbl, c1⟩ := (hlrow.below HBL.out).one hkn
    simp only [encS, List.getElem?_cons_zero] at c1
    rw [labAt_get] at c1
    have HH : Hid (hitB t q s t.edges[k] = ((t.edges[k].src == q) && ((labAt t t.edges[k]).toList == s.toList))) := rfl
    have hee : ∃ e, e = t.edges[k] := ⟨_, rfl⟩
    obtain ⟨e, hee⟩ := hee
    rw [← hee] at e1 e2 e3 c1 HH hk0 hk1 hkn
    have HEE := Lib.hid hee
    clear hee hek
    generalize labAt t e = ls at *
    have hlab : ∃ n : Nat, (n : Int) = e.lab := ⟨e.lab.toNat, by omega⟩
    obtain ⟨n, hn⟩ := hlab
    rw [← hn] at e2 c1 hk0 hk1 hkn
    simp only [Int.toNat_natCast] at c1 hkn
    clear hn hrow hlrow hk0 hk1
    have s2 := later_cell (show p < wr.heap.size by omega) q2
    have s3 := later_cell (show p < wr.heap.size by omega) q3
    have f3 := later_cell hbe e3
    replace e1 := later_cell hbe e1
    replace e2 := later_cell hbe e2
    replace c1 := later_cell hbl c1
    cases g1 : (e.src == q)
    ·have HF : Hid (hitB t q s t.edges[k] = false) := by unfold Hid; rw [← HEE.out, HH.out, g1]; rfl
     go_wp2
     refine wp_region_later (by kernel_rfl) (by kernel_rfl) ?_
     repeat (go_big_quiet_step ((fail)))
     refine wpQuiet_nil ?_
     intro _ hw9
     obtain ⟨nl, hw8⟩ := hw9
     subst hw8
     clear e1 e2 e3 f3 c1 s2 g1
     have s3 := s3 nl
     go_wp2
     go_roundw
     case rel => exact ⟨k + 1, by omega, by go_num, HBL.out.trans (nl.h.mono hsz), fun j h h' => by
       by_cases e : j = k
       ·subst e; exact HF.out
       ·exact HX.out j h (by omega)⟩
     case measure => simp [intOf]; omega
    ·cases g2 : (ls.toList == s.toList)
     ·have HF : Hid (hitB t q s t.edges[k] = false) := by unfold Hid; rw [← HEE.out, HH.out, g1, g2]; rfl
      go_wp2
      refine wp_region_later (by kernel_rfl) (by kernel_rfl) ?_
      repeat (go_big_quiet_step ((fail)))
      refine wpQuiet_nil ?_
      intro _ hw9
      obtain ⟨nl, hw8⟩ := hw9
      subst hw8
      clear e1 e2 e3 f3 c1 s2 g1 g2
      have s3 := s3 nl
      go_wp2
      go_roundw
      case rel => exact ⟨k + 1, by omega, by go_num, HBL.out.trans (nl.h.mono hsz), fun j h h' => by
        by_cases e : j = k
        ·subst e; exact HF.out
        ·exact HX.out j h (by omega)⟩
      case measure => simp [intOf]; omega
     ·have HF : Hid (goTo t q s = e.dst) := by
       unfold Hid
       have : hitB t q s t.edges[k] = true := by rw [← HEE.out, HH.out, g1, g2]; rfl
       rw [hg.out, find_at hlt HX.out this, ← HEE.out]; rfl
      go_wp2
      refine wp_region_later (by kernel_rfl) (by kernel_rfl) ?_
      repeat (go_big_quiet_step ((fail)))
      refine wpQuiet_nil ?_
      intro _ hw9
      obtain ⟨nl, hw8⟩ := hw9
      subst hw8
      clear e1 e2 e3 c1 s2 g1 g2
      have s3 := s3 nl
      have f3 := f3 nl
      go_wp2
      go_ret
      exact ⟨ret_int HF.out.symm, HBL.out.trans (nl.h.mono hsz)⟩
   ·clear hrow hlrow
    go_wp2
    go_ret
    refine ⟨ret_int ?_, HBL.out⟩
    rw [hg.out, find_none (fun j h => HX.out j h (by omega))]; rfl

end Go.Proofs.YtpoleaekcjjedaaGreatDoor
