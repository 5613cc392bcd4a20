/-
  The reference's l18Stable, l18Offer, l18Offers, l18Refuses.
  The reference's l18Offers, l18Refuses.
  The reference's place of a number among numbers.
  How the words to the states lie in the reference's memory.
-/
import Derived.Test.YtpoleaekcjjedaaGreatDoorD27
import Derived.Test.YtpoleaekcjjedaaGreatDoorD10
import Derived.Test.YtpoleaekcjjedaaGreatDoorD7
import Derived.Deep.RegionHeld3
import Derived.Deep.AppendLies
import Derived.Test.YtpoleaekcjjedaaGreatDoorD11
namespace Go.Proofs.YtpoleaekcjjedaaGreatDoor
open Go Go.RowKit

theorem info_strV : (Tryz.prog.info? 9).map (fun i => (i.zero, i.size, i.bytes)) = some (some (.string ⟨#[]⟩), 1, 16) := by kernel_rfl
theorem info_strsV : (Tryz.prog.info? 22).map (fun i => (i.zero, i.size, i.bytes)) = some (some (.slice none 0 0), 1, 24) := by kernel_rfl

set_option maxRecDepth 100000 in
set_option maxHeartbeats 1000000 in
theorem l18Stable_any (p lo : Nat) (t : Lts) (s : Int) (w : World) (hp : LtsPtr lo w p t) : Calls Tryz.prog 131 #[.pointer (some ⟨p, 0, none⟩), .int .i64 s] w fun e w' => e = .returned (.bool (stableB t s)) ∧ Below w.heap.size w w' := by
  obtain ⟨lv, ev, hpl, -, -, -, q3, -, he⟩ := hp
  obtain ⟨ae, ce, rfl, hen, hec, hrow⟩ := he
  have HR := Lib.hid hrow
  have HQ3 := Lib.hid q3
  obtain ⟨E, hE⟩ : ∃ E, E = t.edges.length := ⟨_, rfl⟩
  rw [← hE] at q3 HQ3 hen
  have HE := Lib.hid hE
  clear hrow hE q3
  go_enter Tryz.func131, Tryz.ntmps131
  go_wp2
  go_loopw [5] (fun i wr => ∃ k : Nat, k ≤ E ∧ i = .int .i64 k ∧ Below w.heap.size w wr ∧ ∀ j (h : j < t.edges.length), j < k → ((t.edges[j].src == s) && (t.edges[j].lab == 0)) = false) (fun i _ => E - (intOf i).toNat)
  case atStart => exact ⟨0, Nat.zero_le _, rfl, Below.refl _ _, fun _ _ h => by omega⟩
  case round =>
    obtain ⟨k, hk, rfl, hbl, hx⟩ := hrel
    have HX := Lib.hid hx
    have HBL := Lib.hid hbl
    have q3 := keeps hbl hpl HQ3.out
    clear hx
    by_cases hlt : k < E
    · have hlt2 : k < t.edges.length := by rw [← HE.out]; exact hlt
      obtain ⟨be, oe, rfl, -, hbe, e1, e2, e3⟩ := (HR.out.below hbl).edge hlt2
      clear hbl e3
      cases g : ((t.edges[k].src == s) && (t.edges[k].lab == 0))
      · have HG := Lib.hid g
        cases g1 : (t.edges[k].src == s)
        · clear g
          go_wp2
          go_roundw
          case rel => exact ⟨k + 1, by omega, by go_num, HBL.out, fun j h h' => by
              by_cases e : j = k
              · subst e; exact HG.out
              · exact HX.out j h (by omega)⟩
          case measure => simp [intOf]; omega
        · rw [g1, Bool.true_and] at g
          go_wp2
          go_roundw
          case rel => exact ⟨k + 1, by omega, by go_num, HBL.out, fun j h h' => by
              by_cases e : j = k
              · subst e; exact HG.out
              · exact HX.out j h (by omega)⟩
          case measure => simp [intOf]; omega
      · have HG : Hid (stableB t s = false) := by
          unfold Hid stableB
          rw [List.all_eq_false]
          exact ⟨t.edges[k], List.getElem_mem _, by rw [g]; simp⟩
        rw [Bool.and_eq_true] at g
        obtain ⟨g1, g2⟩ := g
        go_wp2
        go_ret
        exact ⟨ret_bool HG.out.symm, HBL.out⟩
    · clear hbl
      have HG : Hid (stableB t s = true) := by
        unfold Hid stableB
        rw [List.all_eq_true]
        intro e he
        obtain ⟨j, hj, rfl⟩ := List.mem_iff_getElem.1 he
        rw [HX.out j hj (by have := HE.out; omega)]
        rfl
      go_wp2
      go_ret
      exact ⟨ret_bool HG.out.symm, HBL.out⟩

def MadeTx (xs : List ByteArray) (w : World) (e : Ending) (w' : World) : Prop := ∃ v, e = .returned v ∧ Below w.heap.size w w' ∧ OwnStrs w.heap.size w' v xs

set_option maxRecDepth 100000 in
set_option maxHeartbeats 4000000 in
theorem l18Offer_any (p lo : Nat) (t : Lts) (s : Int) (w : World) (hv : Valid t) (hp : LtsPtr lo w p t) : Calls Tryz.prog 132 #[.pointer (some ⟨p, 0, none⟩), .int .i64 s] w (MadeTx (offS t s) w) := by
  have HV := Lib.hid hv
  have hmost := hv.most
  obtain ⟨lv, ev, hpl, -, -, q2, q3, hl, he⟩ := hp
  obtain ⟨ae, ce, rfl, hen, hec, hrow⟩ := he
  obtain ⟨al, cl, rfl, hlc, -, hlrow⟩ := hl
  obtain ⟨E, hE⟩ : ∃ E, E = t.edges.length := ⟨_, rfl⟩
  obtain ⟨LN, hLN⟩ : ∃ LN, LN = t.labels.length := ⟨_, rfl⟩
  have hL1 := hv.labels.pos
  obtain ⟨bl, ol, rfl, hblw, hcl⟩ : ∃ bl ol, al = some ⟨bl, ol, none⟩ ∧ bl < w.heap.size ∧ ∀ i (h : i < t.labels.length), w.cell? ⟨bl, ol + i, none⟩ = some (.string t.labels[i]) := by
    rcases hlrow with h | ⟨bl, ol, h1, -, h3, h4⟩
    · omega
    · exact ⟨bl, ol, h1, h3, fun i hi => by have := h4 i hi 0 (by omega); simpa [encS] using this⟩
  rw [← hE] at q3 hen hmost
  rw [← hLN] at q2 hlc hL1
  have HR := Lib.hid hrow
  have HQ3 := Lib.hid q3
  have HQ2 := Lib.hid q2
  have HCL := Lib.hid hcl
  have HE := Lib.hid hE
  have HLN := Lib.hid hLN
  obtain ⟨i3, hi3, hz30, hz31, hz32⟩ := info_parts info_strV
  clear hv hrow hE q2 q3 hcl hLN hlrow
  go_enter Tryz.func132, Tryz.ntmps132
  go_wp2
  go_loopw [5, 6] (fun v i wr => ∃ k : Nat, k ≤ E ∧ i = .int .i64 k ∧ Below w.heap.size w wr ∧ wr.ownsRow w.heap.size 9 1 v (offTo t s k).length (txts (offTo t s k))) (fun _ i _ => E - (intOf i).toNat)
  case atStart => exact ⟨0, Nat.zero_le _, rfl, (Below.refl _ _).alloc (Nat.le_refl _) _, World.ownsRow_lit (size := 1) w #[] 0 (Nat.le_refl _) (by simp [maxLen]) rfl⟩
  case round =>
    obtain ⟨k, hk, rfl, hbl, ho⟩ := hrel
    have HBL := Lib.hid hbl
    have HO := Lib.hid ho
    have hsz := hbl.size
    have q3 := keeps hbl hpl HQ3.out
    have hol := offTo_len t s k
    obtain ⟨va, vc, hv5, -, -⟩ := owns_slice ho
    subst hv5
    by_cases hlt : k < E
    · have hlt2 : k < t.edges.length := by rw [← HE.out]; exact hlt
      obtain ⟨be, oe, rfl, -, hbe, e1, e2, e3⟩ := (HR.out.below hbl).edge hlt2
      have hok := HV.out.edge k hlt2
      have HNX := Lib.hid (offTo_succ (k := s) hlt2)
      obtain ⟨l, hl⟩ : ∃ l, l = labAt t t.edges[k] := ⟨_, rfl⟩
      rw [← hl] at HNX
      obtain ⟨x, hx⟩ : ∃ x, x = t.edges[k] := ⟨_, rfl⟩
      have hok2 := hok
      rw [← hx] at e1 e2 e3 HNX hl hok2
      obtain ⟨m, hm⟩ : ∃ m : Nat, (m : Int) = x.lab := ⟨x.lab.toNat, by have := hok2.l0; omega⟩
      have hmt : x.lab.toNat = m := by omega
      have hmL2 : m < t.labels.length := by have := hok2.l1; omega
      have hmL : m < LN := by have := HLN.out; omega
      have hlm : l = t.labels[m] := by
        rw [hl]
        unfold labAt
        rw [hmt, List.getD_eq_getElem?_getD, List.getElem?_eq_getElem hmL2]
        rfl
      have hcm : w.cell? ⟨bl, ol + m, none⟩ = some (.string l) := by rw [hlm]; exact HCL.out m hmL2
      have HCM := Lib.hid hcm
      rw [← hm] at e2 HNX
      obtain ⟨xs, hxs⟩ : ∃ xs, xs = x.src := ⟨_, rfl⟩
      obtain ⟨xd, hxd⟩ : ∃ xd, xd = x.dst := ⟨_, rfl⟩
      rw [← hxs] at e1 HNX
      rw [← hxd] at e3
      obtain ⟨os, hos⟩ : ∃ os, os = offTo t s k := ⟨_, rfl⟩
      rw [← hos] at HO HNX hol ⊢
      have HOS := Lib.hid hos
      obtain ⟨ON, hON⟩ : ∃ ON, ON = os.length := ⟨_, rfl⟩
      rw [← hON] at HO hol ⊢
      have HON := Lib.hid hON
      -- the edge's box
      obtain ⟨wD, hwD⟩ : ∃ wD, wD = wr.alloc (.cells #[.int .i64 xs, .int .i64 m, .int .i64 xd] 135) := ⟨_, rfl⟩
      have hX : Blk wD wr.heap.size [.int .i64 xs, .int .i64 m, .int .i64 xd] 135 := by rw [hwD]; exact Blk.new wr _ _
      have hbD : Below w.heap.size w wD := by rw [hwD]; exact hbl.alloc hsz _
      have HBD := Lib.hid hbD
      have HOD : Hid (wD.ownsRow w.heap.size 9 1 (.slice va ON vc) ON (txts os)) := by unfold Hid; rw [hwD]; exact HO.out.alloc _
      have hszD := hbD.size
      have hxlt : wr.heap.size < wD.heap.size := hX.lt
      have x0 := later_cell hX.lt (hX.cell 0 rfl)
      have x1 := later_cell hX.lt (hX.cell 1 rfl)
      have lq2 := later_cell (show p < wD.heap.size by omega) (keeps hbD hpl HQ2.out)
      have lcm := later_cell (show bl < wD.heap.size by omega) (keeps hbD hblw HCM.out)
      have HWD := Lib.hid hwD
      have HFI : Hid (∀ g : Later wD, Calls Tryz.prog 133 #[.slice va ON vc, .string l] g.w fun e w' => e = .returned (.int .i64 (textAt os l)) ∧ Below g.w.heap.size g.w w') := fun g =>
        l11Find_any w.heap.size _ os l g.w (SliceK.of_owns (e := 9) encS_len HON.out (by rw [flat_encS]; exact owns_below HOD.out g.h))
      have hmi : (0 : Int) ≤ (m : Int) := by omega
      clear hbl ho hok hok2 hl hlm hx hm hmt hmL2 hcm hxs hxd hos hX hbD hON HO
      cases g1 : (xs == s)
      · have HN2 : Hid (offTo t s (k + 1) = os) := by unfold Hid; rw [HNX.out, g1]; simp
        go_wp2
        rw [← HWD.out]
        refine wp_region_later (by kernel_rfl) (by kernel_rfl) ?_
        repeat (go_big_quiet_step ((fail)))
        refine wpQuiet_nil ?_
        intro _ hw9
        obtain ⟨nl, hw8⟩ := hw9
        subst hw8
        have HBN := Lib.hid (HBD.out.trans (nl.h.mono hszD))
        have HON2 := Lib.hid (owns_below HOD.out nl.h)
        clear x0 x1 lq2 lcm
        go_wp2
        go_roundw
        case rel => exact ⟨k + 1, by omega, by go_num, HBN.out, by rw [HN2.out, ← HON.out]; exact HON2.out⟩
        case measure => simp [intOf]; omega
      · by_cases h0 : m = 0
        · have hm0 : decide ((0 : Int) < (m : Int)) = false := decide_eq_false (by omega)
          have hm1 : ¬ (0 : Int) < (m : Int) := by omega
          have hm2 : decide (0 < m) = false := decide_eq_false (by omega)
          have HN2 : Hid (offTo t s (k + 1) = os) := by unfold Hid; rw [HNX.out, hm0]; simp
          clear h0
          go_wp2
          rw [← HWD.out]
          refine wp_region_later (by kernel_rfl) (by kernel_rfl) ?_
          repeat (go_big_quiet_step ((fail)))
          refine wpQuiet_nil ?_
          intro _ hw9
          obtain ⟨nl, hw8⟩ := hw9
          subst hw8
          have HBN := Lib.hid (HBD.out.trans (nl.h.mono hszD))
          have HON2 := Lib.hid (owns_below HOD.out nl.h)
          clear x0 x1 lq2 lcm
          go_wp2
          go_roundw
          case rel => exact ⟨k + 1, by omega, by go_num, HBN.out, by rw [HN2.out, ← HON.out]; exact HON2.out⟩
          case measure => simp [intOf]; omega
        · have hm0 : decide ((0 : Int) < (m : Int)) = true := decide_eq_true (by omega)
          have hm1 : (0 : Int) < (m : Int) := by omega
          have hm2 : decide (0 < m) = true := decide_eq_true (by omega)
          rw [g1, hm0] at HNX
          obtain ⟨tx, htx⟩ : ∃ tx, tx = textAt os l := ⟨_, rfl⟩
          rw [← htx] at HNX HFI
          clear htx h0
          by_cases hneg : tx < 0
          · have HN2 : Hid (offTo t s (k + 1) = os ++ [l]) := by
              unfold Hid
              rw [HNX.out, decide_eq_true hneg]
              rfl
            go_wp2
            rw [← HWD.out]
            refine wp_region_later (by kernel_rfl) (by kernel_rfl) ?_
            repeat (go_big_quiet_step ((go_at_call 133; exact later_call (HFI.out _))))
            refine wpQuiet_nil ?_
            intro _ hw9
            obtain ⟨nl, hw8⟩ := hw9
            subst hw8
            obtain ⟨wE, hwE⟩ : ∃ wE, wE = nl.w := ⟨_, rfl⟩
            have hbE : Below wD.heap.size wD wE := by rw [hwE]; exact nl.h
            obtain ⟨xb, hxb⟩ : ∃ xb, xb = wr.heap.size := ⟨_, rfl⟩
            have y1 : wE.cell? ⟨xb, 1, none⟩ = some (.int .i64 m) := by rw [hwE, hxb]; exact x1 nl
            have y2 : wE.cell? ⟨p, 2, none⟩ = some (.slice (some ⟨bl, ol, none⟩) LN cl) := by rw [hwE]; exact lq2 nl
            have y3 : wE.cell? ⟨bl, ol + m, none⟩ = some (.string l) := by rw [hwE]; exact lcm nl
            rw [← hwE, ← hxb]
            have hxE : xb < wE.heap.size := by have := hbE.size; omega
            have hwsE : w.heap.size ≤ wE.heap.size := by have := hbE.size; omega
            have HSW : Hid (∀ w', Below wE.heap.size wE w' → w'.cell? ⟨p, 2, none⟩ = some (.slice (some ⟨bl, ol, none⟩) LN cl) ∧ w'.cell? ⟨xb, 1, none⟩ = some (.int .i64 m) ∧ w'.cell? ⟨bl, ol + m, none⟩ = some (.string l)) := fun w' hb =>
              ⟨keeps hb (by omega) y2, keeps hb hxE y1, keeps hb (by omega) y3⟩
            have HBE := Lib.hid (HBD.out.trans (hbE.mono hszD))
            have HOE := Lib.hid (owns_below HOD.out hbE)
            have HD9 : Hid (Below wE.heap.size wE wE.drew) := (Below.refl _ _).drew
            have HDA9 : Hid (∀ o, Below wE.heap.size wE (wE.drew.alloc o)) := fun o => HD9.out.alloc (by simp) _
            have HNX1 : Hid (some xb ≠ (Value.slice va ON vc).ownBlock) := by
              rcases own_type_far HOE.out (show wE.heap[xb]? = _ from by rw [hxb]; have h := nl.h.block wr.heap.size hxlt; rw [hwE]; rw [h, HWD.out]; exact heap_alloc_new wr _) (by decide) with h | h
              · intro e; rw [h] at e; cases e
              · exact fun e => h e.symm
            have HNX2 : Hid (some p ≠ (Value.slice va ON vc).ownBlock) := fun e => by have := (HOE.out.lt p e.symm).1; omega
            have HNX3 : Hid (some bl ≠ (Value.slice va ON vc).ownBlock) := fun e => by have := (HOE.out.lt bl e.symm).1; omega
            clear x0 x1 lq2 lcm hbE hwE hxb
            go_wp2
            go_region_held3 (fun w' => w'.cell? ⟨p, 2, none⟩ = some (.slice (some ⟨bl, ol, none⟩) LN cl) ∧ w'.cell? ⟨xb, 1, none⟩ = some (.int .i64 m) ∧ w'.cell? ⟨bl, ol + m, none⟩ = some (.string l))
              (first
                | exact HSW.out _ HD9.out
                | exact HSW.out _ (HDA9.out _)
                | exact hS7
                | go_keep)
              (first
                | (refine step_append_lies _ (by rfl) _ _ 22 (by rfl) w.heap.size 9 i3 _ 1 16 Tryz.underlying22 hi3 hz30 hz31 hz32 rfl (by omega) (.slice va ON vc) ON (txts os) (by rfl) (HOE.out.alloc _) ⟨wE.heap.size, 0, none⟩ 1 1 [.string l] (by rfl) (by rfl) (World.news_of_block (cs := #[.string l]) (t := 9) (fr := (0, 0)) (heap_alloc_new _ _)) (by simp [Value.oneCell']) (by omega) (by simp [maxLen]; omega) (by omega) (by simp; omega) (wE.heap.size + 1) (by simp) ?_; intro gg cap w7 ho7 hg7 hat7 hlt7; have hSA := HSW.out _ (HDA9.out (.cells #[.string l] 9)); have hS7 : w7.cell? ⟨p, 2, none⟩ = some (.slice (some ⟨bl, ol, none⟩) LN cl) ∧ w7.cell? ⟨xb, 1, none⟩ = some (.int .i64 m) ∧ w7.cell? ⟨bl, ol + m, none⟩ = some (.string l) := ⟨(hg7.cell_far ⟨p, 2, none⟩ (by simp; omega) HNX2.out).trans hSA.1, (hg7.cell_far ⟨xb, 1, none⟩ (by simp; omega) HNX1.out).trans hSA.2.1, (hg7.cell_far ⟨bl, ol + m, none⟩ (by simp; omega) HNX3.out).trans hSA.2.2⟩)
                | fail)
            have HB7 : Hid (Below w.heap.size w w7) := ((HBE.out.trans ((HDA9.out (.cells #[.string l] 9)).mono hwsE))).grown hg7 (by simp; omega) (fun b e => (HOE.out.lt b e).1)
            have HO7 : Hid (w7.ownsRow w.heap.size 9 1 (.slice (some ⟨gg, 0, none⟩) (ON + 1) cap) (offTo t s (k + 1)).length (txts (offTo t s (k + 1)))) := by
              unfold Hid txts
              rw [HN2.out, List.length_append, List.map_append, ← HON.out]
              exact ho7
            clear ho7 hg7 hat7 hlt7 hSA hS7
            go_wp2
            go_roundw
            case rel => exact ⟨k + 1, by omega, by go_num, HB7.out, HO7.out⟩
            case measure => simp [intOf]; omega
          · have HN2 : Hid (offTo t s (k + 1) = os) := by
              unfold Hid
              rw [HNX.out, decide_eq_false hneg]
              rfl
            go_wp2
            rw [← HWD.out]
            refine wp_region_later (by kernel_rfl) (by kernel_rfl) ?_
            repeat (go_big_quiet_step ((go_at_call 133; exact later_call (HFI.out _))))
            refine wpQuiet_nil ?_
            intro _ hw9
            obtain ⟨nl, hw8⟩ := hw9
            subst hw8
            have HBN := Lib.hid (HBD.out.trans (nl.h.mono hszD))
            have HON2 := Lib.hid (owns_below HOD.out nl.h)
            clear x0 x1 lq2 lcm
            go_wp2
            go_roundw
            case rel => exact ⟨k + 1, by omega, by go_num, HBN.out, by rw [HN2.out, ← HON.out]; exact HON2.out⟩
            case measure => simp [intOf]; omega
    · obtain rfl : k = E := by omega
      have HF : Hid (offTo t s k = offS t s) := by unfold Hid offS; rw [HE.out]
      clear hbl ho
      go_wp2
      go_ret
      exact ⟨_, rfl, HBL.out, by unfold OwnStrs; rw [← HF.out]; exact HO.out⟩

end Go.Proofs.YtpoleaekcjjedaaGreatDoor

namespace Go.Proofs.YtpoleaekcjjedaaGreatDoor
open Go Go.RowKit

theorem stabs_take {t : Lts} {S : List Int} {k : Nat} (h : k < S.length) : stabs t (S.take (k + 1)) = stabs t (S.take k) ++ if stableB t S[k] then [S[k]] else [] := by
  unfold stabs
  rw [List.take_succ_eq_append_getElem h, List.filter_append, List.filter_cons]
  cases stableB t S[k] <;> simp
theorem offersS_len (t : Lts) (S : List Int) : (offersS t S).length ≤ S.length := by unfold offersS stabs; rw [List.length_map]; exact List.length_filter_le _ _

set_option maxRecDepth 100000 in
set_option maxHeartbeats 4000000 in
theorem l18Offers_any (p lo lo2 : Nat) (t : Lts) (v : Value) (S : List Int) (w : World) (hv : Valid t) (hp : LtsPtr lo w p t) (hs : SliceK 1 encI lo2 w v S) (hlen : S.length ≤ 1000) :
    Calls Tryz.prog 71 #[.pointer (some ⟨p, 0, none⟩), v] w fun e w' => ∃ v' vs, e = .returned v' ∧ Below w.heap.size w w' ∧ OwnStrss w.heap.size w' v' vs (offersS t S) := by
  obtain ⟨a, c, rfl, hcn, hcc, hrow⟩ := hs
  have HR := Lib.hid hrow
  have HP := Lib.hid hp
  have HV := Lib.hid hv
  obtain ⟨N, hN⟩ : ∃ N, N = S.length := ⟨_, rfl⟩
  rw [← hN] at hcn hlen ⊢
  have HN := Lib.hid hN
  obtain ⟨i2, hi2, hz20, hz21, hz22⟩ := info_parts info_strsV
  clear hrow hp hv hN
  go_enter Tryz.func71, Tryz.ntmps71
  go_wp2
  go_loopw [5, 6] (fun v5 i wr => ∃ (k : Nat) (vs : List Value), k ≤ N ∧ i = .int .i64 k ∧ Below w.heap.size w wr ∧ OwnStrss w.heap.size wr v5 vs (offersS t (S.take k))) (fun _ i _ => N - (intOf i).toNat)
  case atStart => exact ⟨0, [], Nat.zero_le _, rfl, (Below.refl _ _).alloc (Nat.le_refl _) _, ⟨World.ownsRow_lit (size := 1) w #[] 0 (Nat.le_refl _) (by simp [maxLen]) rfl, by simpa [offersS, stabs] using Pile.nil _ _ _⟩⟩
  case round =>
    obtain ⟨k, vs, hk, rfl, hbl, ho⟩ := hrel
    have HBL := Lib.hid hbl
    have HO := Lib.hid ho
    have hsz := hbl.size
    have hol : (offersS t (S.take k)).length ≤ k := Nat.le_trans (offersS_len t _) (by rw [List.length_take]; exact Nat.min_le_left _ _)
    have hvl : vs.length ≤ k := by rw [ho.len]; exact hol
    obtain ⟨va, vc, hv5, -, -⟩ := owns_slice ho.out
    subst hv5
    by_cases hlt : k < N
    · have hlt2 : k < S.length := by rw [← HN.out]; exact hlt
      obtain ⟨b, o, rfl, -, hb, cx⟩ := (HR.out.below hbl).one hlt2
      simp only [encI, List.getElem?_cons_zero] at cx
      obtain ⟨x, hx⟩ : ∃ x, x = S[k] := ⟨_, rfl⟩
      have HNX : Hid (offersS t (S.take (k + 1)) = offersS t (S.take k) ++ if stableB t x then [offS t x] else []) := by
        unfold Hid offersS
        rw [stabs_take hlt2, List.map_append, ← hx]
        cases stableB t x <;> rfl
      rw [← hx] at cx
      have HST := Lib.hid (l18Stable_any p lo t x wr (HP.out.below hbl))
      obtain ⟨M, hM⟩ : ∃ M, M = vs.length := ⟨_, rfl⟩
      rw [← hM] at hvl ⊢
      have HM := Lib.hid hM
      obtain ⟨sb, hsb⟩ : ∃ sb, sb = stableB t x := ⟨_, rfl⟩
      rw [← hsb] at HST HNX
      have HCX := Lib.hid cx
      clear hbl ho hx hM hsb
      go_wp2_with fail
      refine Calls.mono HST.out ?_
      rintro e w2 ⟨rfl, hb2⟩
      have HB2 := Lib.hid (HBL.out.trans (hb2.mono hsz))
      have HO2 := Lib.hid (HO.out.below hb2)
      have cx2 := keeps hb2 hb cx
      have HOF := Lib.hid (l18Offer_any p lo t x w2 HV.out (HP.out.below HB2.out))
      have hsz2 := HB2.out.size
      clear hb2 cx HST
      cases sb
      · go_wp2
        go_roundw
        case rel => exact ⟨k + 1, vs, by omega, by go_num, HB2.out, by rw [HNX.out]; simpa using (by rw [← HM.out] at *; exact HO2.out)⟩
        case measure => simp [intOf]; omega
      · go_wp2_with fail
        refine Calls.mono HOF.out ?_
        rintro e w3 ⟨v3, rfl, hb3, ho3⟩
        obtain ⟨a3, c3, rfl, -, -⟩ := owns_slice ho3
        obtain ⟨ON, hON⟩ : ∃ ON, ON = (offS t x).length := ⟨_, rfl⟩
        rw [← hON]
        have HON := Lib.hid hON
        clear hON
        have HB3 := Lib.hid (HB2.out.trans (hb3.mono hsz2))
        have HF3 := Lib.hid hb3
        have HO3 := Lib.hid ho3
        have HOR := Lib.hid (owns_below HO2.out.out hb3)
        have hsz3 := HB3.out.size
        have hsz23 := hb3.size
        rw [← HM.out] at HOR
        clear hb3 ho3 HOF cx2
        go_wp2_with (at_builtin; refine wpList_append_own _ rfl _ _ 84 rfl w.heap.size 22 i2 (.slice none 0 0) 1 24 Tryz.underlying84 hi2 hz20 hz21 hz22 rfl (by decide) _ M _ rfl (HOR.out.alloc _) ⟨w3.heap.size, 0, none⟩ 1 1 [.slice a3 ON c3] rfl rfl ?c1 ?c2 ?c3 ?c4 ?c5 ?_)
        case c1 => exact World.news_of_block (cs := #[.slice a3 ON c3]) (t := 22) (fr := (0, 0)) (heap_alloc_new _ _)
        case c2 =>
          intro u hu; simp at hu; subst hu; rfl
        case c3 => simp [maxLen]; omega
        case c4 => omega
        case c5 => simp; omega
        intro v7 w7 ho7 hg7 _
        have HP7 : Hid (OwnStrss w.heap.size w7 v7 (vs ++ [.slice a3 ON c3]) (offersS t (S.take (k + 1)))) := by
          unfold Hid
          rw [HNX.out]
          refine ownStrss_push HO2.out (Nat.le_refl _) (HF3.out.alloc hsz23 (.cells #[.slice a3 ON c3] 22)) (by have h := World.ownsRow.alloc HO3.out (.cells #[.slice a3 ON c3] 22); rw [← HON.out] at h ⊢; exact h) hsz2 ?_ ?_
          · rw [← HM.out]; exact hg7
          · rw [← HM.out]; exact ho7
        have HB7 : Hid (Below w.heap.size w w7) := (HB3.out.alloc hsz3 _).grown hg7 (by simp; omega) (fun b e => (HOR.out.lt b e).1)
        clear ho7 hg7
        go_wp2
        go_roundw
        case rel => exact ⟨k + 1, vs ++ [.slice a3 ON c3], by omega, by go_num, HB7.out, HP7.out⟩
        case measure => simp [intOf]; omega
    · obtain rfl : k = N := by omega
      have HF : Hid (offersS t (S.take k) = offersS t S) := by unfold Hid; rw [List.take_of_length_le (by have := HN.out; omega)]
      clear hbl ho
      go_wp2
      go_ret
      exact ⟨_, vs, rfl, HBL.out, by rw [← HF.out]; exact HO.out⟩

/-- A list of a slice of lists of texts. -/
theorem StrssAt.row {lo : Nat} {w : World} {v : Value} {xss : List (List ByteArray)} (h : StrssAt lo w v xss) {i : Nat} (hi : i < xss.length) :
    ∃ b o c u, v = .slice (some ⟨b, o, Option.none⟩) xss.length c ∧ b < w.heap.size ∧ w.cell? ⟨b, o + i, Option.none⟩ = some u ∧ SliceK 1 encS lo w u xss[i] := by
  obtain ⟨vs, h1, ⟨a, c, rfl, h2, h3, h4⟩, h5⟩ := h
  obtain ⟨b, o, rfl, -, hb, hc⟩ := h4.one (show i < vs.length by omega)
  exact ⟨b, o, c, vs[i], by rw [h1], hb, by simpa [encV] using hc, h5 i (by omega) hi⟩
theorem StrssAt.form {lo : Nat} {w : World} {v : Value} {xss : List (List ByteArray)} (h : StrssAt lo w v xss) : ∃ a c, v = .slice a xss.length c := by
  obtain ⟨vs, h1, ⟨a, c, rfl, -⟩, -⟩ := h
  exact ⟨a, c, by rw [h1]⟩

def freeB (o set : List ByteArray) (k : Nat) : Bool := (set.take k).all fun s => !inT o s
theorem freeB_succ {o set : List ByteArray} {k : Nat} (h : k < set.length) : freeB o set (k + 1) = (freeB o set k && !inT o set[k]) := by
  unfold freeB
  rw [List.take_succ_eq_append_getElem h, List.all_append]
  simp

set_option maxRecDepth 100000 in
set_option maxHeartbeats 4000000 in
theorem l18Refuses_any (lo lo2 : Nat) (v sv : Value) (xss : List (List ByteArray)) (set : List ByteArray) (w : World) (hv : StrssAt lo w v xss) (hs : SliceK 1 encS lo2 w sv set) (hxl : xss.length ≤ 1000) (hsl : set.length ≤ 1000) :
    Calls Tryz.prog 73 #[v, sv] w fun e w' => e = .returned (.bool (xss.any fun o => set.all fun s => !inT o s)) ∧ Below w.heap.size w w' := by
  have HXS := Lib.hid hv
  have HSV := Lib.hid hs
  obtain ⟨a, c, rfl⟩ := hv.form
  obtain ⟨sa, sc, rfl, -, -, -⟩ := hs
  obtain ⟨N, hN⟩ : ∃ N, N = xss.length := ⟨_, rfl⟩
  obtain ⟨M, hM⟩ : ∃ M, M = set.length := ⟨_, rfl⟩
  rw [← hN] at hxl
  rw [← hM] at hsl
  rw [← hN, ← hM]
  have HN := Lib.hid hN
  have HM := Lib.hid hM
  rw [← hN] at HXS
  rw [← hM] at HSV
  clear hv hN hM
  go_enter Tryz.func73, Tryz.ntmps73
  go_wp2
  go_loopw [5] (fun i wr => ∃ k : Nat, k ≤ N ∧ i = .int .i64 k ∧ Below w.heap.size w wr ∧ ∀ j (h : j < xss.length), j < k → (set.all fun s => !inT xss[j] s) = false) (fun i _ => N - (intOf i).toNat)
  case atStart => exact ⟨0, Nat.zero_le _, rfl, Below.refl _ _, fun _ _ h => by omega⟩
  case round =>
    obtain ⟨k, hk, rfl, hbl, hno⟩ := hrel
    have HBL := Lib.hid hbl
    have HNO := Lib.hid hno
    clear hno
    by_cases hlt : k < N
    · have hlt2 : k < xss.length := by rw [← HN.out]; exact hlt
      clear hbl
      go_wp2
      go_loopw [6, 7] (fun v6 v7 wr => ∃ j : Nat, v6 = .bool (freeB xss[k] set j) ∧ v7 = .int .i64 j ∧ j ≤ M ∧ Below w.heap.size w wr) (fun _ v7 _ => M - (intOf v7).toNat)
      case atStart => exact ⟨0, rfl, rfl, Nat.zero_le _, HBL.out⟩
      case round =>
        clear HBL
        obtain ⟨j, rfl, rfl, hj, hbl⟩ := hrel
        have HBL := Lib.hid hbl
        have hsz := hbl.size
        by_cases hltj : j < M
        · have hltj2 : j < set.length := by rw [← HM.out]; exact hltj
          have hx := HXS.out.below hbl
          rw [HN.out] at hx
          obtain ⟨b, o, c2, u, hav, hb, hcu, hsu⟩ := hx.row hlt2
          rw [← HN.out] at hav
          simp only [Value.slice.injEq, true_and] at hav
          obtain ⟨rfl, rfl⟩ := hav
          obtain ⟨a9, c9, h9, -, -, hr9⟩ := HSV.out.below hbl
          simp only [Value.slice.injEq] at h9
          obtain ⟨rfl, -, -⟩ := h9
          obtain ⟨b2, o2, rfl, -, hb2, hcs⟩ := hr9.one hltj2
          simp only [encS, List.getElem?_cons_zero] at hcs
          have HNX := Lib.hid (freeB_succ (o := xss[k]) hltj2)
          obtain ⟨s, hs⟩ : ∃ s, s = set[j] := ⟨_, rfl⟩
          rw [← hs] at hcs HNX
          have HFI : Hid (∀ g : Later wr, Calls Tryz.prog 133 #[u, .string s] g.w fun e w' => e = .returned (.int .i64 (textAt xss[k] s)) ∧ Below g.w.heap.size g.w w') := fun g => l11Find_any lo u xss[k] s g.w (hsu.below g.h)
          have hti := textAt_inT (ss := xss[k]) (s := s)
          obtain ⟨tx, htx⟩ : ∃ tx, tx = textAt xss[k] s := ⟨_, rfl⟩
          rw [← htx] at HFI hti
          rw [← hti] at HNX
          obtain ⟨fb, hfb⟩ : ∃ fb, fb = freeB xss[k] set j := ⟨_, rfl⟩
          rw [← hfb] at HNX ⊢
          have lu := later_cell hb hcu
          have ls := later_cell hb2 hcs
          clear hbl hx hsu hr9 hs htx hfb hcu hcs hti
          cases fb
          · go_wp2
            refine wp_region_later (by kernel_rfl) (by kernel_rfl) ?_
            repeat (go_big_quiet_step ((fail)))
            refine wpQuiet_nil ?_
            intro _ hw9
            obtain ⟨nl, hw8⟩ := hw9
            subst hw8
            have HBN := Lib.hid (HBL.out.trans (nl.h.mono hsz))
            clear lu ls
            go_wp2
            go_roundw
            case rel => exact ⟨j + 1, by rw [HNX.out]; rfl, by go_num, by omega, HBN.out⟩
            case measure => simp [intOf]; omega
          · go_wp2
            refine wp_region_later (by kernel_rfl) (by kernel_rfl) ?_
            repeat (go_big_quiet_step ((go_at_call 133; exact later_call (HFI.out _))))
            refine wpQuiet_nil ?_
            intro _ hw9
            obtain ⟨nl, hw8⟩ := hw9
            subst hw8
            have HBN := Lib.hid (HBL.out.trans (nl.h.mono hsz))
            clear lu ls
            go_wp2
            go_roundw
            case rel => exact ⟨j + 1, by rw [HNX.out, Bool.true_and], by go_num, by omega, HBN.out⟩
            case measure => simp [intOf]; omega
        · obtain rfl : j = M := by omega
          have HALL : Hid (freeB xss[k] set j = set.all fun s => !inT xss[k] s) := by unfold Hid freeB; rw [List.take_of_length_le (by have := HM.out; omega)]
          obtain ⟨fb, hfb⟩ : ∃ fb, fb = freeB xss[k] set j := ⟨_, rfl⟩
          rw [← hfb] at HALL ⊢
          clear hbl hfb
          cases fb
          · go_wp2
            go_roundw
            case rel => exact ⟨k + 1, by omega, by go_num, HBL.out, fun i hi hik => by
              by_cases e : i = k
              · subst e; exact HALL.out.symm
              · exact HNO.out i hi (by omega)⟩
            case measure => simp [intOf]; omega
          · have HF : Hid ((xss.any fun o => set.all fun s => !inT o s) = true) := by
              unfold Hid
              rw [List.any_eq_true]
              exact ⟨xss[k], List.getElem_mem _, HALL.out.symm⟩
            go_wp2
            go_ret
            exact ⟨ret_bool HF.out.symm, HBL.out⟩
    · have HF : Hid ((xss.any fun o => set.all fun s => !inT o s) = false) := by
        unfold Hid
        rw [List.any_eq_false]
        intro o ho
        obtain ⟨j, hj, rfl⟩ := List.mem_iff_getElem.1 ho
        rw [HNO.out j hj (by have := HN.out; omega)]
        simp
      clear hbl
      go_wp2
      go_ret
      exact ⟨ret_bool HF.out.symm, HBL.out⟩

end Go.Proofs.YtpoleaekcjjedaaGreatDoor

namespace Go.Proofs.YtpoleaekcjjedaaGreatDoor
open Go Go.RowKit

/-- The first place of a number, or -1. -/
def placeI (xs : List Int) (n : Int) : Int := if xs.findIdx (fun x => x == n) < xs.length then (xs.findIdx (fun x => x == n) : Nat) else -1
/-- The numbers below n. -/
def upI (n : Nat) : List Int := (List.range n).map fun (j : Nat) => (j : Int)
theorem upI_len (n : Nat) : (upI n).length = n := by simp [upI]
theorem upI_get {n j : Nat} (h : j < n) : (upI n)[j]? = some (j : Int) := by simp [upI, h]
theorem upI_succ (n : Nat) : upI (n + 1) = upI n ++ [(n : Int)] := by simp [upI, List.range_succ]
theorem placeI_up {n : Nat} {x : Int} (h0 : 0 ≤ x) : placeI (upI n) x = if x < (n : Int) then x else -1 := by
  unfold placeI
  by_cases h : x < (n : Int)
  · have h1 : (upI n).findIdx (fun y => y == x) = x.toNat := by
      refine findIdx_hit (by rw [upI_len]; omega) (fun j hj hjx => ?_) ?_
      · rw [beq_eq_false_iff_ne]
        simp [upI]
        omega
      · rw [beq_iff_eq]
        simp [upI]
        omega
    rw [h1, upI_len, if_pos (by omega), if_pos h]
    omega
  · have h1 : (upI n).findIdx (fun y => y == x) = (upI n).length := by
      refine findIdx_none fun j hj => ?_
      rw [beq_eq_false_iff_ne]
      rw [upI_len] at hj
      simp [upI]
      omega
    rw [h1, if_neg (by omega), if_neg h]

set_option maxRecDepth 100000 in
set_option maxHeartbeats 1000000 in
theorem l11Place_any (lo : Nat) (v : Value) (xs : List Int) (n : Int) (w : World) (hv : SliceK 1 encI lo w v xs) : Calls Tryz.prog 119 #[v, .int .i64 n] w fun e w' => e = .returned (.int .i64 (placeI xs n)) ∧ Below w.heap.size w w' := by
  obtain ⟨a, cap, rfl, hn, hcap, hrow⟩ := hv
  go_enter Tryz.func119, Tryz.ntmps119
  go_wp2
  go_loopw [5] (fun i wr => ∃ k : Nat, k ≤ xs.length ∧ i = .int .i64 k ∧ Below w.heap.size w wr ∧ ∀ j (h : j < xs.length), j < k → (xs[j] == n) = false) (fun i _ => xs.length - (intOf i).toNat)
  case atStart => exact ⟨0, Nat.zero_le _, rfl, Below.refl _ _, fun _ _ h => by omega⟩
  case round =>
    obtain ⟨k, hk, rfl, hbl, hx⟩ := hrel
    have HX := Lib.hid hx
    have HBL := Lib.hid hbl
    have hsz := hbl.size
    clear hx
    by_cases hlt : k < xs.length
    · obtain ⟨b, o, rfl, -, hb, c⟩ := (hrow.below hbl).one hlt
      simp only [encI, List.getElem?_cons_zero] at c
      clear hrow hbl
      cases g : (xs[k] == n)
      · have HG := Lib.hid g
        go_wp2
        go_roundw
        case rel => exact ⟨k + 1, by omega, by go_num, HBL.out, fun j h h' => by
            by_cases e : j = k
            · subst e; exact HG.out
            · exact HX.out j h (by omega)⟩
        case measure => simp [intOf]; omega
      · have HG : Hid (placeI xs n = (k : Int)) := by
          unfold Hid placeI
          rw [findIdx_hit hlt HX.out g, if_pos hlt]
        go_wp2
        go_ret
        exact ⟨ret_int HG.out.symm, HBL.out⟩
    · clear hrow hbl
      go_wp2
      go_ret
      refine ⟨ret_int ?_, HBL.out⟩
      unfold placeI
      rw [findIdx_none (fun j h => HX.out j h (by omega)), if_neg (by omega)]

end Go.Proofs.YtpoleaekcjjedaaGreatDoor

namespace Go.Proofs.YtpoleaekcjjedaaGreatDoor
open Go Go.RowKit

/-- One row is another one, which lies behind all that was there. -/
theorem Pile.swap {ei lo B : Nat} {w0 w : World} {rv : Value} {vs : List Value} {css : List (List Value)} {ys : List Value} (h : Pile ei lo w0 vs css) (hB : w0.heap.size ≤ B) (hb : Below w0.heap.size w0 w) (hr : w.ownsRow B ei 1 rv ys.length ys) (hlo : lo ≤ B) (j : Nat) :
    Pile ei lo w (vs.set j rv) (css.set j ys) := by
  have hk := h.below hb
  have hl := h.len
  have hold : ∀ (i : Nat) (h : i < vs.length) b, vs[i].ownBlock = some b → b < w0.heap.size := fun i hi b e => ((h.row i hi (by omega)).lt b e).2
  have hnb : ∀ b, rv.ownBlock = some b → B ≤ b := fun b e => (hr.lt b e).1
  refine ⟨by simp [hl], fun i hi hi' => ?_, fun i k hi hk2 hik => ?_⟩
  · rw [List.length_set] at hi hi'
    by_cases e : j = i
    · subst e
      simp only [List.getElem_set_self]
      exact own_lower hr hlo
    · simp only [List.getElem_set_ne e]
      exact hk.row i hi hi'
  · rw [List.length_set] at hi hk2
    by_cases e1 : j = i
    · subst e1
      rw [List.getElem_set_self, List.getElem_set_ne hik]
      cases hb1 : rv.ownBlock with
      | none => exact .inl rfl
      | some b => exact .inr fun e => by have := hold k hk2 b e.symm; have := hnb b hb1; omega
    · rw [List.getElem_set_ne e1]
      by_cases e2 : j = k
      · subst e2
        rw [List.getElem_set_self]
        cases hb1 : vs[i].ownBlock with
        | none => exact .inl rfl
        | some b => exact .inr fun e => by have := hold i hi b hb1; have := hnb b e.symm; omega
      · rw [List.getElem_set_ne e2]
        exact h.far i k hi hk2 hik
theorem ownStrss_setRow {lo B g n c : Nat} {w0 w : World} {vs : List Value} {xss : List (List ByteArray)} {rv : Value} {ys : List ByteArray} (h : OwnStrss lo w0 (.slice (some ⟨g, 0, none⟩) n c) vs xss) (hn : n = vs.length) (hB : w0.heap.size ≤ B) (hb : Below w0.heap.size w0 w)
    (hr : w.ownsRow B 9 1 rv ys.length (txts ys)) (hlo : lo ≤ B) {j : Nat} (_hj : j < n) : OwnStrss lo (w.setCell ⟨g, j, none⟩ rv) (.slice (some ⟨g, 0, none⟩) n c) (vs.set j rv) (xss.set j ys) := by
  have ho := owns_below h.out hb
  rw [← hn] at ho
  have hp := h.rows.swap hB hb (by rw [txts_len]; exact hr) hlo j
  refine ⟨?_, ?_⟩
  · rw [List.length_set, ← hn]
    exact (ho.stored j rv).1
  · rw [List.map_set]
    exact hp.other (by decide) ho (grown_setCell w ⟨g, j, none⟩ rv)

/-- The traces of the words met; none for the other states. -/
def outW (L : List ByteArray) (n : Nat) (N : List (List Nat)) : List (List ByteArray) := N.map (txtsOf L) ++ List.replicate (n - N.length) []
theorem outW_len {L : List ByteArray} {n : Nat} {N : List (List Nat)} (h : N.length ≤ n) : (outW L n N).length = n := by unfold outW; simp; omega
theorem outW_get {L : List ByteArray} {n : Nat} {N : List (List Nat)} {j : Nat} {u : List Nat} (h : N[j]? = some u) : (outW L n N)[j]? = some (txtsOf L u) := by
  have hj := (List.getElem?_eq_some_iff.1 h).1
  unfold outW
  rw [List.getElem?_append_left (by simpa using hj), List.getElem?_map, h]
  rfl
theorem outW_set {L : List ByteArray} {n : Nat} {N : List (List Nat)} (h : N.length < n) (u : List Nat) : (outW L n N).set N.length (txtsOf L u) = outW L n (N ++ [u]) := by
  unfold outW
  rw [List.set_append_right _ _ (by simp), List.length_map, Nat.sub_self, show n - N.length = (n - (N ++ [u]).length) + 1 from by simp; omega, List.replicate_succ, List.set_cons_zero, List.map_append, List.append_assoc]
  rfl
theorem outW_all {L : List ByteArray} {n : Nat} {N : List (List Nat)} (h : N.length = n) : outW L n N = N.map (txtsOf L) := by unfold outW; rw [h, Nat.sub_self]; simp
theorem outW_start (L : List ByteArray) {n : Nat} (h : 1 ≤ n) : outW L n [[]] = List.replicate n [] := by
  unfold outW
  obtain ⟨m, rfl⟩ : ∃ m, n = m + 1 := ⟨n - 1, by omega⟩
  simp [txtsOf, List.replicate_succ]
theorem ownStrss_nils {lo g n : Nat} {w : World} (h : w.ownsRow lo 22 1 (.slice (some ⟨g, 0, none⟩) n n) n (List.replicate n (.slice none 0 0))) : OwnStrss lo w (.slice (some ⟨g, 0, none⟩) n n) (List.replicate n (.slice none 0 0)) (List.replicate n []) := by
  refine ⟨by rw [List.length_replicate]; exact h, by simp, fun i hi hi' => ?_, fun i j hi hj _ => .inl (by rw [List.getElem_replicate]; rfl)⟩
  simp only [List.getElem_replicate, List.map_replicate, txts, List.map_nil, List.length_nil]
  exact World.ownsRow_nil _ _ _ _

def MadeWays (t : Lts) (st : DNet) (w : World) (e : Ending) (w' : World) : Prop :=
  ∃ (v : Value) (vs : List Value) (N : List (List Nat)), e = .returned v ∧ Below w.heap.size w w' ∧ WaysAll t st N ∧ OwnStrss w.heap.size w' v vs (N.map (txtsOf t.labels))

end Go.Proofs.YtpoleaekcjjedaaGreatDoor
