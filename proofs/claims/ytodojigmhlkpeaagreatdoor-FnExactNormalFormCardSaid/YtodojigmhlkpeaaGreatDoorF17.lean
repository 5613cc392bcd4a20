/-
  NormalForm: what is returned.
  The reference's l18Stable, l18Offer, l18Offers, l18Refuses.
  Slices of slices of texts: one row, one row more.
  The reference's l18Offers.
  The reference's l18Within.
  The library's comparison of lists of texts.
  slices.SortFunc at lists of texts of the call's own, by slices.Compare: a permutation in order.
  Plain notions for a row that is written over in place: what is kept so far, what is still to be looked at.
  A rising list of edges with one edge more: plain, and how it lies in place.
-/
import Derived.Test.YtodojigmhlkpeaaGreatDoorF15
import Derived.Test.YtodojigmhlkpeaaGreatDoorF16
import Derived.Test.YtodojigmhlkpeaaGreatDoorF14
import Derived.Test.YtodojigmhlkpeaaGreatDoorF6
import Derived.Deep.RegionHeld3
import Derived.Deep.AppendLies
import Derived.Test.YtodojigmhlkpeaaGreatDoorF10
import Derived.Shelf.SlSortCmp.Whole1
import Derived.Test.YtodojigmhlkpeaaGreatDoorF1
import Derived.Lib.SliceRun
import Derived.Lib.LazyBuf
import Derived.Test.YtodojigmhlkpeaaGreatDoorF5
namespace Go.Proofs.YtodojigmhlkpeaaGreatDoor
open Go Go.RowKit

theorem nodup_le {α : Type} [DecidableEq α] : ∀ {a b : List α}, a.Nodup → (∀ x ∈ a, x ∈ b) → a.length ≤ b.length
 | [], b, _, _ => Nat.zero_le _
 | y :: a, b, hn, hs => by
  rw [List.nodup_cons] at hn
  have hy : y ∈ b := hs y (by simp)
  have h1 : ∀ z ∈ a, z ∈ b.erase y := fun z hz => (List.mem_erase_of_ne (fun e2 => hn.1 (by rw [← e2]; exact hz))).2 (hs z (List.mem_cons_of_mem _ hz))
  have h2 := nodup_le hn.2 h1
  have h3 : 0 < b.length := List.length_pos_of_mem hy
  rw [List.length_erase_of_mem hy] at h2
  simp only [List.length_cons]
  omega
theorem leastIs.len {O l : List (List ByteArray)} (h : leastIs O l) : l.length ≤ O.length :=
 nodup_le (h.1.imp fun {a b} k e => by subst e; rw [befL_irrefl] at k; cases k) fun x hx => ((h.2 x).1 hx).1
theorem leastIs.rows {t : Lts} (hv : Valid t) {S : List Int} {l : List (List ByteArray)} (h : leastIs (offersS t S) l) : ∀ o ∈ l, o.length ≤ 300 := fun o ho => by
 obtain ⟨k, -, rfl⟩ := List.mem_map.1 ((h.2 o).1 ho).1
 exact Nat.le_trans (offTo_len t k _) hv.most
theorem offersS_short (t : Lts) (S : List Int) : (offersS t S).length ≤ S.length := by unfold offersS stabs; rw [List.length_map]; exact List.length_filter_le _ _
/-- The system, the least offers at each of its sets, the code. -/
def NfIs (t : Lts) (d : Lts) (x : List (List (List ByteArray))) (code : Int) : Prop :=
 ∃ xss, DetIs t d xss code ∧ x.length = xss.length ∧ ∀ i (h : i < x.length) (h' : i < xss.length), leastIs (offersS t xss[i]) x[i]
theorem NfIs.unique {t d d' : Lts} {x x' : List (List (List ByteArray))} {code code' : Int} (h : NfIs t d x code) (k : NfIs t d' x' code') : d = d' ∧ x = x' ∧ code = code' := by
 obtain ⟨xss, h1, h2, h3⟩ := h
 obtain ⟨yss, k1, k2, k3⟩ := k
 obtain ⟨rfl, rfl, rfl⟩ := h1.unique k1
 refine ⟨rfl, List.ext_getElem (by omega) fun i hi hi' => ?_, rfl⟩
 exact (h3 i hi (by omega)).unique (k3 i hi' (by omega))
theorem flat_few {α : Type} {n : Nat} : ∀ {l : List (List α)}, (∀ r ∈ l, r.length ≤ n) → l.flatten.length ≤ n * l.length
 | [], _ => by simp
 | a :: l, h => by
  have h1 := h a (by simp)
  have h2 := flat_few (l := l) (fun r hr => h r (List.mem_cons_of_mem _ hr))
  simp only [List.flatten_cons, List.length_append, List.length_cons, Nat.mul_add, Nat.mul_one]
  omega
theorem NfIs.few {t d : Lts} {x : List (List (List ByteArray))} {code : Int} (h : NfIs t d x code) : (d.labels.length ≤ 12 ∧ d.edges.length ≤ 300) ∧ totalS x.flatten ≤ 500000 := by
 obtain ⟨xss, h1, h2, h3⟩ := h
 refine ⟨h1.few.1, ?_⟩
 rcases h1 with ⟨-, -, rfl, -⟩ | ⟨-, -, -, rfl, -⟩ | ⟨hv, st, hok, -, rfl, -⟩
 ·have : x = [] := List.eq_nil_of_length_eq_zero h2
  subst this
  simp [totalS]
 ·have : x = [] := List.eq_nil_of_length_eq_zero h2
  subst this
  simp [totalS]
 ·have hG := dok_good hv hok
  have hs := hv.st1
  have h0 := hv.st0
  have hr : ∀ r ∈ x, r.length ≤ 40 ∧ ∀ o ∈ r, o.length ≤ 300 := fun r hr => by
   obtain ⟨i, hi, rfl⟩ := List.mem_iff_getElem.1 hr
   have hle := h3 i hi (by omega)
   have hm : (st.rows[i]'(by omega)) ∈ st.rows := List.getElem_mem _
   have hsl := asc_few 40 _ (hG.rows _ hm).2.1 (fun x hx => by have := (hG.rows _ hm).1 x hx; omega)
   exact ⟨Nat.le_trans hle.len (Nat.le_trans (offersS_short t _) hsl), hle.rows hv⟩
  have h4 := flat_few (n := 40) (l := x) fun r hx => (hr r hx).1
  have h5 := totalS_few (n := 300) (l := x.flatten) fun o ho => by
   obtain ⟨r, hx, ho2⟩ := List.mem_flatten.1 ho
   exact (hr r hx).2 o ho2
  have h6 := hok.2.1
  have h7 : 40 * x.length ≤ 40 * 40 := Nat.mul_le_mul_left 40 (by omega)
  have h8 : 300 * x.flatten.length ≤ 300 * 1600 := Nat.mul_le_mul_left 300 (by omega)
  omega
def RetNf (t : Lts) (w : World) (e : Ending) (w' : World) : Prop :=
 Below w.heap.size w w' ∧ ∃ (d : Lts) (x : List (List (List ByteArray))) (code : Int) (lv ev v : Value) (vs : List Value) (us : List (List Value)), e = .returned (.tuple #[.agg #[.int .i64 d.states, .int .i64 d.initial, lv, ev], v, .int .i64 code]) ∧ NfIs t d x code ∧ OwnLts w.heap.size w' lv ev d ∧ OwnStrsss w.heap.size w' v vs us x ∧ FarT lv us
theorem nf_none {t : Lts} {code : Int} {w w' : World} (hb : Below w.heap.size w w') (h : DetIs t ⟨0, 0, [], []⟩ [] code) : RetNf t w (.returned (.tuple #[.agg #[.int .i64 0, .int .i64 0, .slice none 0 0, .slice none 0 0], .slice none 0 0, .int .i64 code])) w' :=
 ⟨hb, ⟨0, 0, [], []⟩, [], code, _, _, _, [], [], rfl, ⟨[], h, rfl, fun _ h => absurd h (Nat.not_lt_zero _)⟩, ⟨World.ownsRow_nil _ _ _ _, World.ownsRow_nil _ _ _ _⟩, OwnStrsss.none _ _, FarT.none _⟩

end Go.Proofs.YtodojigmhlkpeaaGreatDoor

namespace Go.Proofs.YtodojigmhlkpeaaGreatDoor
open Go Go.RowKit

theorem info_strV : (Tryz.prog.info? 9).map (fun i => (i.zero, i.size, i.bytes)) = some (some (.string ⟨#[]⟩), 1, 16) := by kernel_rfl
theorem info_strsV : (Tryz.prog.info? 22).map (fun i => (i.zero, i.size, i.bytes)) = some (some (.slice none 0 0), 1, 24) := by kernel_rfl

set_option maxRecDepth 100000 in
set_option maxHeartbeats 1000000 in
theorem l18Stable_any (p lo : Nat) (t : Lts) (s : Int) (w : World) (hp : LtsPtr lo w p t) : Calls Tryz.prog 60 #[.pointer (some ⟨p, 0, none⟩), .int .i64 s] w fun e w' => e = .returned (.bool (stableB t s)) ∧ Below w.heap.size w w' := by
 obtain ⟨lv, ev, hpl, -, -, -, q3, -, he⟩ := hp
 obtain ⟨ae, ce, rfl, hen, hec, hrow⟩ := he
 have HR := Lib.hid hrow
 have HQ3 := Lib.hid q3
 obtain ⟨E, hE⟩ : ∃ E, E = t.edges.length := ⟨_, rfl⟩
 rw [← hE] at q3 HQ3 hen
 have HE := Lib.hid hE
 clear hrow hE q3
 go_enter Tryz.func60, Tryz.ntmps60
 go_wp2
 go_loopw [5] (fun i wr => ∃ k : Nat, k ≤ E ∧ i = .int .i64 k ∧ Below w.heap.size w wr ∧ ∀ j (h : j < t.edges.length), j < k → ((t.edges[j].src == s) && (t.edges[j].lab == 0)) = false) (fun i _ => E - (intOf i).toNat)
 case atStart => exact ⟨0, Nat.zero_le _, rfl, Below.refl _ _, fun _ _ h => by omega⟩
 case round =>
  obtain ⟨k, hk, rfl, hbl, hx⟩ := hrel
  have HX := Lib.hid hx
  have HBL := Lib.hid hbl
  have q3 := keeps hbl hpl HQ3.out
  clear hx
  by_cases hlt : k < E
  ·have hlt2 : k < t.edges.length := by rw [← HE.out]; exact hlt
   obtain ⟨be, oe, rfl, -, hbe, e1, e2, e3⟩ := (HR.out.below hbl).edge hlt2
   clear hbl e3
   cases g : ((t.edges[k].src == s) && (t.edges[k].lab == 0))
   ·have HG := Lib.hid g
    cases g1 : (t.edges[k].src == s)
    ·clear g
     go_wp2
     go_roundw
     case rel => exact ⟨k + 1, by omega, by go_num, HBL.out, fun j h h' => by
       by_cases e : j = k
       ·subst e; exact HG.out
       ·exact HX.out j h (by omega)⟩
     case measure => simp [intOf]; omega
    ·rw [g1, Bool.true_and] at g
     go_wp2
     go_roundw
     case rel => exact ⟨k + 1, by omega, by go_num, HBL.out, fun j h h' => by
       by_cases e : j = k
       ·subst e; exact HG.out
       ·exact HX.out j h (by omega)⟩
     case measure => simp [intOf]; omega
   ·have HG : Hid (stableB t s = false) := by
     unfold Hid stableB
     rw [List.all_eq_false]
     exact ⟨t.edges[k], List.getElem_mem _, by rw [g]; simp⟩
    rw [Bool.and_eq_true] at g
    obtain ⟨g1, g2⟩ := g
    go_wp2
    go_ret
    exact ⟨ret_bool HG.out.symm, HBL.out⟩
  ·clear hbl
   have HG : Hid (stableB t s = true) := by
    unfold Hid stableB
    rw [List.all_eq_true]
    intro e he
    obtain ⟨j, hj, rfl⟩ := List.mem_iff_getElem.1 he
    rw [HX.out j hj (by have := HE.out; omega)]
    rfl
   go_wp2
   go_ret
   exact ⟨ret_bool HG.out.symm, HBL.out⟩

def MadeTx (xs : List ByteArray) (w : World) (e : Ending) (w' : World) : Prop := ∃ v, e = .returned v ∧ Below w.heap.size w w' ∧ OwnStrs w.heap.size w' v xs

set_option maxRecDepth 100000 in
set_option maxHeartbeats 4000000 in
theorem l18Offer_any (p lo : Nat) (t : Lts) (s : Int) (w : World) (hv : Valid t) (hp : LtsPtr lo w p t) : Calls Tryz.prog 61 #[.pointer (some ⟨p, 0, none⟩), .int .i64 s] w (MadeTx (offS t s) w) := by
 have HV := Lib.hid hv
 have hmost := hv.most
 obtain ⟨lv, ev, hpl, -, -, q2, q3, hl, he⟩ := hp
 obtain ⟨ae, ce, rfl, hen, hec, hrow⟩ := he
 obtain ⟨al, cl, rfl, hlc, -, hlrow⟩ := hl
 obtain ⟨E, hE⟩ : ∃ E, E = t.edges.length := ⟨_, rfl⟩
 obtain ⟨LN, hLN⟩ : ∃ LN, LN = t.labels.length := ⟨_, rfl⟩
 have hL1 := hv.labels.pos
 obtain ⟨bl, ol, rfl, hblw, hcl⟩ : ∃ bl ol, al = some ⟨bl, ol, none⟩ ∧ bl < w.heap.size ∧ ∀ i (h : i < t.labels.length), w.cell? ⟨bl, ol + i, none⟩ = some (.string t.labels[i]) := by
  rcases hlrow with h | ⟨bl, ol, h1, -, h3, h4⟩
  ·omega
  ·exact ⟨bl, ol, h1, h3, fun i hi => by have := h4 i hi 0 (by omega); simpa [encS] using this⟩
 rw [← hE] at q3 hen hmost
 rw [← hLN] at q2 hlc hL1
 have HR := Lib.hid hrow
 have HQ3 := Lib.hid q3
 have HQ2 := Lib.hid q2
 have HCL := Lib.hid hcl
 have HE := Lib.hid hE
 have HLN := Lib.hid hLN
 obtain ⟨i3, hi3, hz30, hz31, hz32⟩ := info_parts info_strV
 clear hv hrow hE q2 q3 hcl hLN hlrow
 go_enter Tryz.func61, Tryz.ntmps61
 go_wp2
 go_loopw [5, 6] (fun v i wr => ∃ k : Nat, k ≤ E ∧ i = .int .i64 k ∧ Below w.heap.size w wr ∧ wr.ownsRow w.heap.size 9 1 v (offTo t s k).length (txts (offTo t s k))) (fun _ i _ => E - (intOf i).toNat)
 case atStart => exact ⟨0, Nat.zero_le _, rfl, (Below.refl _ _).alloc (Nat.le_refl _) _, World.ownsRow_lit (size := 1) w #[] 0 (Nat.le_refl _) (by simp [maxLen]) rfl⟩
 case round =>
  obtain ⟨k, hk, rfl, hbl, ho⟩ := hrel
  have HBL := Lib.hid hbl
  have HO := Lib.hid ho
  have hsz := hbl.size
  have q3 := keeps hbl hpl HQ3.out
  have hol := offTo_len t s k
  obtain ⟨va, vc, hv5, -, -⟩ := owns_slice ho
  subst hv5
  by_cases hlt : k < E
  ·have hlt2 : k < t.edges.length := by rw [← HE.out]; exact hlt
   obtain ⟨be, oe, rfl, -, hbe, e1, e2, e3⟩ := (HR.out.below hbl).edge hlt2
   have hok := HV.out.edge k hlt2
   have HNX := Lib.hid (offTo_succ (k := s) hlt2)
   obtain ⟨l, hl⟩ : ∃ l, l = labAt t t.edges[k] := ⟨_, rfl⟩
   rw [← hl] at HNX
   obtain ⟨x, hx⟩ : ∃ x, x = t.edges[k] := ⟨_, rfl⟩
   have hok2 := hok
   rw [← hx] at e1 e2 e3 HNX hl hok2
   obtain ⟨m, hm⟩ : ∃ m : Nat, (m : Int) = x.lab := ⟨x.lab.toNat, by have := hok2.l0; omega⟩
   have hmt : x.lab.toNat = m := by omega
   have hmL2 : m < t.labels.length := by have := hok2.l1; omega
   have hmL : m < LN := by have := HLN.out; omega
   have hlm : l = t.labels[m] := by
    rw [hl]
    unfold labAt
    rw [hmt, List.getD_eq_getElem?_getD, List.getElem?_eq_getElem hmL2]
    rfl
   have hcm : w.cell? ⟨bl, ol + m, none⟩ = some (.string l) := by rw [hlm]; exact HCL.out m hmL2
   have HCM := Lib.hid hcm
   rw [← hm] at e2 HNX
   obtain ⟨xs, hxs⟩ : ∃ xs, xs = x.src := ⟨_, rfl⟩
   obtain ⟨xd, hxd⟩ : ∃ xd, xd = x.dst := ⟨_, rfl⟩
   rw [← hxs] at e1 HNX
   rw [← hxd] at e3
   obtain ⟨os, hos⟩ : ∃ os, os = offTo t s k := ⟨_, rfl⟩
   rw [← hos] at HO HNX hol ⊢
   have HOS := Lib.hid hos
   obtain ⟨ON, hON⟩ : ∃ ON, ON = os.length := ⟨_, rfl⟩
   rw [← hON] at HO hol ⊢
   have HON := Lib.hid hON
   -- the edge's box
   obtain ⟨wD, hwD⟩ : ∃ wD, wD = wr.alloc (.cells #[.int .i64 xs, .int .i64 m, .int .i64 xd] 62) := ⟨_, rfl⟩
   have hX : Blk wD wr.heap.size [.int .i64 xs, .int .i64 m, .int .i64 xd] 62 := by rw [hwD]; exact Blk.new wr _ _
   have hbD : Below w.heap.size w wD := by rw [hwD]; exact hbl.alloc hsz _
   have HBD := Lib.hid hbD
   have HOD : Hid (wD.ownsRow w.heap.size 9 1 (.slice va ON vc) ON (txts os)) := by unfold Hid; rw [hwD]; exact HO.out.alloc _
   have hszD := hbD.size
   have hxlt : wr.heap.size < wD.heap.size := hX.lt
   have x0 := later_cell hX.lt (hX.cell 0 rfl)
   have x1 := later_cell hX.lt (hX.cell 1 rfl)
   have lq2 := later_cell (show p < wD.heap.size by omega) (keeps hbD hpl HQ2.out)
   have lcm := later_cell (show bl < wD.heap.size by omega) (keeps hbD hblw HCM.out)
   have HWD := Lib.hid hwD
   have HFI : Hid (∀ g : Later wD, Calls Tryz.prog 62 #[.slice va ON vc, .string l] g.w fun e w' => e = .returned (.int .i64 (textAt os l)) ∧ Below g.w.heap.size g.w w') := fun g =>
    l11Find_any w.heap.size _ os l g.w (SliceK.of_owns (e := 9) encS_len HON.out (by rw [flat_encS]; exact owns_below HOD.out g.h))
   have hmi : (0 : Int) ≤ (m : Int) := by omega
   clear hbl ho hok hok2 hl hlm hx hm hmt hmL2 hcm hxs hxd hos hX hbD hON HO
   cases g1 : (xs == s)
   ·have HN2 : Hid (offTo t s (k + 1) = os) := by unfold Hid; rw [HNX.out, g1]; simp
    go_wp2
    rw [← HWD.out]
    refine wp_region_later (by kernel_rfl) (by kernel_rfl) ?_
    repeat (go_big_quiet_step ((fail)))
    refine wpQuiet_nil ?_
    intro _ hw9
    obtain ⟨nl, hw8⟩ := hw9
    subst hw8
    have HBN := Lib.hid (HBD.out.trans (nl.h.mono hszD))
    have HON2 := Lib.hid (owns_below HOD.out nl.h)
    clear x0 x1 lq2 lcm
    go_wp2
    go_roundw
    case rel => exact ⟨k + 1, by omega, by go_num, HBN.out, by rw [HN2.out, ← HON.out]; exact HON2.out⟩
    case measure => simp [intOf]; omega
   ·by_cases h0 : m = 0
    ·have hm0 : decide ((0 : Int) < (m : Int)) = false := decide_eq_false (by omega)
     have hm1 : ¬ (0 : Int) < (m : Int) := by omega
     have hm2 : decide (0 < m) = false := decide_eq_false (by omega)
     have HN2 : Hid (offTo t s (k + 1) = os) := by unfold Hid; rw [HNX.out, hm0]; simp
     clear h0
     go_wp2
     rw [← HWD.out]
     refine wp_region_later (by kernel_rfl) (by kernel_rfl) ?_
     repeat (go_big_quiet_step ((fail)))
     refine wpQuiet_nil ?_
     intro _ hw9
     obtain ⟨nl, hw8⟩ := hw9
     subst hw8
     have HBN := Lib.hid (HBD.out.trans (nl.h.mono hszD))
     have HON2 := Lib.hid (owns_below HOD.out nl.h)
     clear x0 x1 lq2 lcm
     go_wp2
     go_roundw
     case rel => exact ⟨k + 1, by omega, by go_num, HBN.out, by rw [HN2.out, ← HON.out]; exact HON2.out⟩
     case measure => simp [intOf]; omega
    ·have hm0 : decide ((0 : Int) < (m : Int)) = true := decide_eq_true (by omega)
     have hm1 : (0 : Int) < (m : Int) := by omega
     have hm2 : decide (0 < m) = true := decide_eq_true (by omega)
     rw [g1, hm0] at HNX
     obtain ⟨tx, htx⟩ : ∃ tx, tx = textAt os l := ⟨_, rfl⟩
     rw [← htx] at HNX HFI
     clear htx h0
     by_cases hneg : tx < 0
     ·have HN2 : Hid (offTo t s (k + 1) = os ++ [l]) := by
       unfold Hid
       rw [HNX.out, decide_eq_true hneg]
       rfl
      go_wp2
      rw [← HWD.out]
      refine wp_region_later (by kernel_rfl) (by kernel_rfl) ?_
      repeat (go_big_quiet_step ((go_at_call 62; exact later_call (HFI.out _))))
      refine wpQuiet_nil ?_
      intro _ hw9
      obtain ⟨nl, hw8⟩ := hw9
      subst hw8
      obtain ⟨wE, hwE⟩ : ∃ wE, wE = nl.w := ⟨_, rfl⟩
      have hbE : Below wD.heap.size wD wE := by rw [hwE]; exact nl.h
      obtain ⟨xb, hxb⟩ : ∃ xb, xb = wr.heap.size := ⟨_, rfl⟩
      have y1 : wE.cell? ⟨xb, 1, none⟩ = some (.int .i64 m) := by rw [hwE, hxb]; exact x1 nl
      have y2 : wE.cell? ⟨p, 2, none⟩ = some (.slice (some ⟨bl, ol, none⟩) LN cl) := by rw [hwE]; exact lq2 nl
      have y3 : wE.cell? ⟨bl, ol + m, none⟩ = some (.string l) := by rw [hwE]; exact lcm nl
      rw [← hwE, ← hxb]
      have hxE : xb < wE.heap.size := by have := hbE.size; omega
      have hwsE : w.heap.size ≤ wE.heap.size := by have := hbE.size; omega
      have HSW : Hid (∀ w', Below wE.heap.size wE w' → w'.cell? ⟨p, 2, none⟩ = some (.slice (some ⟨bl, ol, none⟩) LN cl) ∧ w'.cell? ⟨xb, 1, none⟩ = some (.int .i64 m) ∧ w'.cell? ⟨bl, ol + m, none⟩ = some (.string l)) := fun w' hb =>
       ⟨keeps hb (by omega) y2, keeps hb hxE y1, keeps hb (by omega) y3⟩
      have HBE := Lib.hid (HBD.out.trans (hbE.mono hszD))
      have HOE := Lib.hid (owns_below HOD.out hbE)
      have HD9 : Hid (Below wE.heap.size wE wE.drew) := (Below.refl _ _).drew
      have HDA9 : Hid (∀ o, Below wE.heap.size wE (wE.drew.alloc o)) := fun o => HD9.out.alloc (by simp) _
      have HNX1 : Hid (some xb ≠ (Value.slice va ON vc).ownBlock) := by
       rcases own_type_far HOE.out (show wE.heap[xb]? = _ from by rw [hxb]; have h := nl.h.block wr.heap.size hxlt; rw [hwE]; rw [h, HWD.out]; exact heap_alloc_new wr _) (by decide) with h | h
       ·intro e; rw [h] at e; cases e
       ·exact fun e => h e.symm
      have HNX2 : Hid (some p ≠ (Value.slice va ON vc).ownBlock) := fun e => by have := (HOE.out.lt p e.symm).1; omega
      have HNX3 : Hid (some bl ≠ (Value.slice va ON vc).ownBlock) := fun e => by have := (HOE.out.lt bl e.symm).1; omega
      clear x0 x1 lq2 lcm hbE hwE hxb
      go_wp2
      go_region_held3 (fun w' => w'.cell? ⟨p, 2, none⟩ = some (.slice (some ⟨bl, ol, none⟩) LN cl) ∧ w'.cell? ⟨xb, 1, none⟩ = some (.int .i64 m) ∧ w'.cell? ⟨bl, ol + m, none⟩ = some (.string l))
       (first
        | exact HSW.out _ HD9.out
        | exact HSW.out _ (HDA9.out _)
        | exact hS7
        | go_keep)
       (first
        | (refine step_append_lies _ (by rfl) _ _ 22 (by rfl) w.heap.size 9 i3 _ 1 16 Tryz.underlying22 hi3 hz30 hz31 hz32 rfl (by omega) (.slice va ON vc) ON (txts os) (by rfl) (HOE.out.alloc _) ⟨wE.heap.size, 0, none⟩ 1 1 [.string l] (by rfl) (by rfl) (World.news_of_block (cs := #[.string l]) (t := 9) (fr := (0, 0)) (heap_alloc_new _ _)) (by simp [Value.oneCell']) (by omega) (by simp [maxLen]; omega) (by omega) (by simp; omega) (wE.heap.size + 1) (by simp) ?_; intro gg cap w7 ho7 hg7 hat7 hlt7; have hSA := HSW.out _ (HDA9.out (.cells #[.string l] 9)); have hS7 : w7.cell? ⟨p, 2, none⟩ = some (.slice (some ⟨bl, ol, none⟩) LN cl) ∧ w7.cell? ⟨xb, 1, none⟩ = some (.int .i64 m) ∧ w7.cell? ⟨bl, ol + m, none⟩ = some (.string l) := ⟨(hg7.cell_far ⟨p, 2, none⟩ (by simp; omega) HNX2.out).trans hSA.1, (hg7.cell_far ⟨xb, 1, none⟩ (by simp; omega) HNX1.out).trans hSA.2.1, (hg7.cell_far ⟨bl, ol + m, none⟩ (by simp; omega) HNX3.out).trans hSA.2.2⟩)
        | fail)
      have HB7 : Hid (Below w.heap.size w w7) := ((HBE.out.trans ((HDA9.out (.cells #[.string l] 9)).mono hwsE))).grown hg7 (by simp; omega) (fun b e => (HOE.out.lt b e).1)
      have HO7 : Hid (w7.ownsRow w.heap.size 9 1 (.slice (some ⟨gg, 0, none⟩) (ON + 1) cap) (offTo t s (k + 1)).length (txts (offTo t s (k + 1)))) := by
       unfold Hid txts
       rw [HN2.out, List.length_append, List.map_append, ← HON.out]
       exact ho7
      clear ho7 hg7 hat7 hlt7 hSA hS7
      go_wp2
      go_roundw
      case rel => exact ⟨k + 1, by omega, by go_num, HB7.out, HO7.out⟩
      case measure => simp [intOf]; omega
     ·have HN2 : Hid (offTo t s (k + 1) = os) := by
       unfold Hid
       rw [HNX.out, decide_eq_false hneg]
       rfl
      go_wp2
      rw [← HWD.out]
      refine wp_region_later (by kernel_rfl) (by kernel_rfl) ?_
      repeat (go_big_quiet_step ((go_at_call 62; exact later_call (HFI.out _))))
      refine wpQuiet_nil ?_
      intro _ hw9
      obtain ⟨nl, hw8⟩ := hw9
      subst hw8
      have HBN := Lib.hid (HBD.out.trans (nl.h.mono hszD))
      have HON2 := Lib.hid (owns_below HOD.out nl.h)
      clear x0 x1 lq2 lcm
      go_wp2
      go_roundw
      case rel => exact ⟨k + 1, by omega, by go_num, HBN.out, by rw [HN2.out, ← HON.out]; exact HON2.out⟩
      case measure => simp [intOf]; omega
  ·obtain rfl : k = E := by omega
   have HF : Hid (offTo t s k = offS t s) := by unfold Hid offS; rw [HE.out]
   clear hbl ho
   go_wp2
   go_ret
   exact ⟨_, rfl, HBL.out, by unfold OwnStrs; rw [← HF.out]; exact HO.out⟩

end Go.Proofs.YtodojigmhlkpeaaGreatDoor

namespace Go.Proofs.YtodojigmhlkpeaaGreatDoor
open Go Go.RowKit

theorem StrssAt.row {lo : Nat} {w : World} {v : Value} {xss : List (List ByteArray)} (h : StrssAt lo w v xss) {i : Nat} (hi : i < xss.length) :
  ∃ b o c u, v = .slice (some ⟨b, o, Option.none⟩) xss.length c ∧ b < w.heap.size ∧ w.cell? ⟨b, o + i, Option.none⟩ = some u ∧ SliceK 1 encS lo w u xss[i] := by
 obtain ⟨vs, h1, ⟨a, c, rfl, h2, h3, h4⟩, h5⟩ := h
 obtain ⟨b, o, rfl, -, hb, hc⟩ := h4.one (show i < vs.length by omega)
 exact ⟨b, o, c, vs[i], by rw [h1], hb, by simpa [encV] using hc, h5 i (by omega) hi⟩
theorem StrssAt.form {lo : Nat} {w : World} {v : Value} {xss : List (List ByteArray)} (h : StrssAt lo w v xss) : ∃ a c, v = .slice a xss.length c := by
 obtain ⟨vs, h1, ⟨a, c, rfl, -⟩, -⟩ := h
 exact ⟨a, c, by rw [h1]⟩
theorem OwnStrss.push {B GE : Nat} {w wA w6 : World} {v v' tv : Value} {vs : List Value} {xss : List (List ByteArray)} {tr : List ByteArray} (h : OwnStrss B w v vs xss) (hGE : w.heap.size ≤ GE) (hB : B ≤ GE) (hb : Below w.heap.size w wA) (hr : wA.ownsRow GE 9 1 tv tr.length (txts tr))
  (hg : wA.grownBy w6 v.ownBlock) (ho : w6.ownsRow B 22 1 v' (vs.length + 1) (vs ++ [tv])) : OwnStrss B w6 v' (vs ++ [tv]) (xss ++ [tr]) := by
 refine ⟨?_, ?_⟩
 ·rw [List.length_append]
  exact ho
 ·have h1 := h.rows.push hGE hb (by rw [txts_len]; exact hr) hB
  have h2 := h1.other (by decide) (owns_below h.out hb) hg
  simpa using h2

end Go.Proofs.YtodojigmhlkpeaaGreatDoor

namespace Go.Proofs.YtodojigmhlkpeaaGreatDoor
open Go Go.RowKit

theorem stabs_take {t : Lts} {S : List Int} {k : Nat} (h : k < S.length) : stabs t (S.take (k + 1)) = stabs t (S.take k) ++ if stableB t S[k] then [S[k]] else [] := by
 unfold stabs
 rw [List.take_succ_eq_append_getElem h, List.filter_append, List.filter_cons]
 cases stableB t S[k] <;> simp
theorem offersS_len (t : Lts) (S : List Int) : (offersS t S).length ≤ S.length := by unfold offersS stabs; rw [List.length_map]; exact List.length_filter_le _ _

set_option maxRecDepth 100000 in
set_option maxHeartbeats 4000000 in
theorem l18Offers_any (p lo lo2 : Nat) (t : Lts) (v : Value) (S : List Int) (w : World) (hv : Valid t) (hp : LtsPtr lo w p t) (hs : SliceK 1 encI lo2 w v S) (hlen : S.length ≤ 1000) :
  Calls Tryz.prog 38 #[.pointer (some ⟨p, 0, none⟩), v] w fun e w' => ∃ v' vs, e = .returned v' ∧ Below w.heap.size w w' ∧ OwnStrss w.heap.size w' v' vs (offersS t S) := by
 obtain ⟨a, c, rfl, hcn, hcc, hrow⟩ := hs
 have HR := Lib.hid hrow
 have HP := Lib.hid hp
 have HV := Lib.hid hv
 obtain ⟨N, hN⟩ : ∃ N, N = S.length := ⟨_, rfl⟩
 rw [← hN] at hcn hlen ⊢
 have HN := Lib.hid hN
 obtain ⟨i2, hi2, hz20, hz21, hz22⟩ := info_parts info_strsV
 clear hrow hp hv hN
 go_enter Tryz.func38, Tryz.ntmps38
 go_wp2
 go_loopw [5, 6] (fun v5 i wr => ∃ (k : Nat) (vs : List Value), k ≤ N ∧ i = .int .i64 k ∧ Below w.heap.size w wr ∧ OwnStrss w.heap.size wr v5 vs (offersS t (S.take k))) (fun _ i _ => N - (intOf i).toNat)
 case atStart => exact ⟨0, [], Nat.zero_le _, rfl, (Below.refl _ _).alloc (Nat.le_refl _) _, ⟨World.ownsRow_lit (size := 1) w #[] 0 (Nat.le_refl _) (by simp [maxLen]) rfl, by simpa [offersS, stabs] using Pile.nil _ _ _⟩⟩
 case round =>
  obtain ⟨k, vs, hk, rfl, hbl, ho⟩ := hrel
  have HBL := Lib.hid hbl
  have HO := Lib.hid ho
  have hsz := hbl.size
  have hol : (offersS t (S.take k)).length ≤ k := Nat.le_trans (offersS_len t _) (by rw [List.length_take]; exact Nat.min_le_left _ _)
  have hvl : vs.length ≤ k := by rw [ho.len]; exact hol
  obtain ⟨va, vc, hv5, -, -⟩ := owns_slice ho.out
  subst hv5
  by_cases hlt : k < N
  ·have hlt2 : k < S.length := by rw [← HN.out]; exact hlt
   obtain ⟨b, o, rfl, -, hb, cx⟩ := (HR.out.below hbl).one hlt2
   simp only [encI, List.getElem?_cons_zero] at cx
   obtain ⟨x, hx⟩ : ∃ x, x = S[k] := ⟨_, rfl⟩
   have HNX : Hid (offersS t (S.take (k + 1)) = offersS t (S.take k) ++ if stableB t x then [offS t x] else []) := by
    unfold Hid offersS
    rw [stabs_take hlt2, List.map_append, ← hx]
    cases stableB t x <;> rfl
   rw [← hx] at cx
   have HST := Lib.hid (l18Stable_any p lo t x wr (HP.out.below hbl))
   obtain ⟨M, hM⟩ : ∃ M, M = vs.length := ⟨_, rfl⟩
   rw [← hM] at hvl ⊢
   have HM := Lib.hid hM
   obtain ⟨sb, hsb⟩ : ∃ sb, sb = stableB t x := ⟨_, rfl⟩
   rw [← hsb] at HST HNX
   have HCX := Lib.hid cx
   clear hbl ho hx hM hsb
   go_wp2_with fail
   refine Calls.mono HST.out ?_
   rintro e w2 ⟨rfl, hb2⟩
   have HB2 := Lib.hid (HBL.out.trans (hb2.mono hsz))
   have HO2 := Lib.hid (HO.out.below hb2)
   have cx2 := keeps hb2 hb cx
   have HOF := Lib.hid (l18Offer_any p lo t x w2 HV.out (HP.out.below HB2.out))
   have hsz2 := HB2.out.size
   clear hb2 cx HST
   cases sb
   ·go_wp2
    go_roundw
    case rel => exact ⟨k + 1, vs, by omega, by go_num, HB2.out, by rw [HNX.out]; simpa using (by rw [← HM.out] at *; exact HO2.out)⟩
    case measure => simp [intOf]; omega
   ·go_wp2_with fail
    refine Calls.mono HOF.out ?_
    rintro e w3 ⟨v3, rfl, hb3, ho3⟩
    obtain ⟨a3, c3, rfl, -, -⟩ := owns_slice ho3
    obtain ⟨ON, hON⟩ : ∃ ON, ON = (offS t x).length := ⟨_, rfl⟩
    rw [← hON]
    have HON := Lib.hid hON
    clear hON
    have HB3 := Lib.hid (HB2.out.trans (hb3.mono hsz2))
    have HF3 := Lib.hid hb3
    have HO3 := Lib.hid ho3
    have HOR := Lib.hid (owns_below HO2.out.out hb3)
    have hsz3 := HB3.out.size
    have hsz23 := hb3.size
    rw [← HM.out] at HOR
    clear hb3 ho3 HOF cx2
    go_wp2_with (at_builtin; refine wpList_append_own _ rfl _ _ 46 rfl w.heap.size 22 i2 (.slice none 0 0) 1 24 Tryz.underlying46 hi2 hz20 hz21 hz22 rfl (by decide) _ M _ rfl (HOR.out.alloc _) ⟨w3.heap.size, 0, none⟩ 1 1 [.slice a3 ON c3] rfl rfl ?c1 ?c2 ?c3 ?c4 ?c5 ?_)
    case c1 => exact World.news_of_block (cs := #[.slice a3 ON c3]) (t := 22) (fr := (0, 0)) (heap_alloc_new _ _)
    case c2 =>
     intro u hu; simp at hu; subst hu; rfl
    case c3 => simp [maxLen]; omega
    case c4 => omega
    case c5 => simp; omega
    intro v7 w7 ho7 hg7 _
    have HP7 : Hid (OwnStrss w.heap.size w7 v7 (vs ++ [.slice a3 ON c3]) (offersS t (S.take (k + 1)))) := by
     unfold Hid
     rw [HNX.out]
     refine ownStrss_push HO2.out (Nat.le_refl _) (HF3.out.alloc hsz23 (.cells #[.slice a3 ON c3] 22)) (by have h := World.ownsRow.alloc HO3.out (.cells #[.slice a3 ON c3] 22); rw [← HON.out] at h ⊢; exact h) hsz2 ?_ ?_
     ·rw [← HM.out]; exact hg7
     ·rw [← HM.out]; exact ho7
    have HB7 : Hid (Below w.heap.size w w7) := (HB3.out.alloc hsz3 _).grown hg7 (by simp; omega) (fun b e => (HOR.out.lt b e).1)
    clear ho7 hg7
    go_wp2
    go_roundw
    case rel => exact ⟨k + 1, vs ++ [.slice a3 ON c3], by omega, by go_num, HB7.out, HP7.out⟩
    case measure => simp [intOf]; omega
  ·obtain rfl : k = N := by omega
   have HF : Hid (offersS t (S.take k) = offersS t S) := by unfold Hid; rw [List.take_of_length_le (by have := HN.out; omega)]
   clear hbl ho
   go_wp2
   go_ret
   exact ⟨_, vs, rfl, HBL.out, by rw [← HF.out]; exact HO.out⟩

end Go.Proofs.YtodojigmhlkpeaaGreatDoor

namespace Go.Proofs.YtodojigmhlkpeaaGreatDoor
open Go Go.RowKit

set_option maxRecDepth 100000 in
set_option maxHeartbeats 1000000 in
theorem l18Within_any (lo lo2 : Nat) (av bv : Value) (xs bs : List ByteArray) (w : World) (ha : SliceK 1 encS lo w av xs) (hb : SliceK 1 encS lo2 w bv bs) (hal : xs.length ≤ 1000) :
  Calls Tryz.prog 39 #[av, bv] w fun e w' => e = .returned (.bool (withinL xs bs)) ∧ Below w.heap.size w w' := by
 obtain ⟨a, c, rfl, -, -, hrow⟩ := ha
 have HR := Lib.hid hrow
 have HB := Lib.hid hb
 obtain ⟨N, hN⟩ : ∃ N, N = xs.length := ⟨_, rfl⟩
 rw [← hN] at hal ⊢
 have HN := Lib.hid hN
 clear hrow hb hN
 go_enter Tryz.func39, Tryz.ntmps39
 go_wp2
 go_loopw [5] (fun i wr => ∃ k : Nat, k ≤ N ∧ i = .int .i64 k ∧ Below w.heap.size w wr ∧ ∀ j (h : j < xs.length), j < k → inT bs xs[j] = true) (fun i _ => N - (intOf i).toNat)
 case atStart => exact ⟨0, Nat.zero_le _, rfl, Below.refl _ _, fun _ _ h => by omega⟩
 case round =>
  obtain ⟨k, hk, rfl, hbl, hx⟩ := hrel
  have HX := Lib.hid hx
  have HBL := Lib.hid hbl
  have hsz := hbl.size
  clear hx
  by_cases hlt : k < N
  ·have hlt2 : k < xs.length := by rw [← HN.out]; exact hlt
   obtain ⟨b, o, rfl, -, hbw, cx⟩ := (HR.out.below hbl).one hlt2
   simp only [encS, List.getElem?_cons_zero] at cx
   have hti := textAt_inT (ss := bs) (s := xs[k])
   obtain ⟨s, hs⟩ : ∃ s, s = xs[k] := ⟨_, rfl⟩
   rw [← hs] at cx hti
   have HS := Lib.hid hs
   have HFI := Lib.hid (l11Find_any lo2 bv bs s wr (HB.out.below hbl))
   obtain ⟨tx, htx⟩ : ∃ tx, tx = textAt bs s := ⟨_, rfl⟩
   rw [← htx] at HFI hti
   have HTI := Lib.hid hti
   clear hbl hs htx hti
   go_wp2_with fail
   refine Calls.mono HFI.out ?_
   rintro e w2 ⟨rfl, hb2⟩
   have HB2 := Lib.hid (HBL.out.trans (hb2.mono hsz))
   clear hb2 cx HFI
   by_cases hneg : tx < 0
   ·have HF : Hid (withinL xs bs = false) := by
     unfold Hid withinL
     rw [List.all_eq_false]
     refine ⟨xs[k], List.getElem_mem _, ?_⟩
     have h := HTI.out
     rw [decide_eq_true hneg, HS.out] at h
     simpa using h.symm
    go_wp2
    go_ret
    exact ⟨ret_bool HF.out.symm, HB2.out⟩
   ·have HF : Hid (inT bs xs[k] = true) := by
     have h := HTI.out
     rw [decide_eq_false hneg, HS.out] at h
     unfold Hid
     simpa using h.symm
    go_wp2
    go_roundw
    case rel => exact ⟨k + 1, by omega, by go_num, HB2.out, fun j h h' => by
     by_cases e : j = k
     ·subst e; exact HF.out
     ·exact HX.out j h (by omega)⟩
    case measure => simp [intOf]; omega
  ·clear hbl
   have HF : Hid (withinL xs bs = true) := by
    unfold Hid withinL
    rw [List.all_eq_true]
    intro x hx
    obtain ⟨j, hj, rfl⟩ := List.mem_iff_getElem.1 hx
    exact HX.out j hj (by have := HN.out; omega)
   go_wp2
   go_ret
   exact ⟨ret_bool HF.out.symm, HBL.out⟩

end Go.Proofs.YtodojigmhlkpeaaGreatDoor

namespace Go.Proofs.YtodojigmhlkpeaaGreatDoor
open Go Go.RowKit

def cmpT (x y : List UInt8) : Int := if x < y then -1 else if y < x then 1 else 0
theorem isNaNT_any (a : ByteArray) (w : World) : Calls Tryz.prog 120 #[.string a] w fun e w' => e = .returned (.bool false) ∧ w = w' := by
 go_enter Tryz.func120, Tryz.ntmps120
 go_wp2
 go_ret
 exact ⟨ret_bool (by simp), rfl⟩
theorem CompareT_any (a b : ByteArray) (w : World) : Calls Tryz.prog 86 #[.string a, .string b] w fun e w' => e = .returned (.int .i64 (cmpT a.data.toList b.data.toList)) ∧ w = w' := by
 have e1 : Op.bytesLess a.toList b.toList = decide (a.data.toList < b.data.toList) := by rw [less_lt, Lib.toList_data, Lib.toList_data]
 by_cases h1 : a.data.toList < b.data.toList
 ·have HF : Hid (cmpT a.data.toList b.data.toList = -1) := by unfold Hid cmpT; rw [if_pos h1]
  rw [decide_eq_true h1] at e1
  clear h1
  go_enter Tryz.func86, Tryz.ntmps86
  go_wp2_with fail
  refine (isNaNT_any _ _).mono ?_
  rintro e w' ⟨rfl, rfl⟩
  go_wp2_with fail
  refine (isNaNT_any _ _).mono ?_
  rintro e w' ⟨rfl, rfl⟩
  go_wp2_with fail
  go_ret
  exact ⟨ret_int HF.out.symm, rfl⟩
 ·rw [decide_eq_false h1] at e1
  by_cases h2 : b.data.toList < a.data.toList
  ·have HF : Hid (cmpT a.data.toList b.data.toList = 1) := by unfold Hid cmpT; rw [if_neg h1, if_pos h2]
   have e3 : (a.toList == b.toList) = false := by
    rw [beq_eq_false_iff_ne, Lib.toList_data, Lib.toList_data]
    intro e
    rw [e] at h2
    exact List.lt_irrefl _ h2
   clear h1 h2
   go_enter Tryz.func86, Tryz.ntmps86
   go_wp2_with fail
   refine (isNaNT_any _ _).mono ?_
   rintro e w' ⟨rfl, rfl⟩
   go_wp2_with fail
   refine (isNaNT_any _ _).mono ?_
   rintro e w' ⟨rfl, rfl⟩
   go_wp2_with fail
   go_ret
   exact ⟨ret_int HF.out.symm, rfl⟩
  ·have HF : Hid (cmpT a.data.toList b.data.toList = 0) := by unfold Hid cmpT; rw [if_neg h1, if_neg h2]
   have e3 : (a.toList == b.toList) = true := by
    rw [beq_iff_eq, Lib.toList_data, Lib.toList_data]
    exact List.le_antisymm (List.not_lt.1 h2) (List.not_lt.1 h1)
   clear h1 h2
   go_enter Tryz.func86, Tryz.ntmps86
   go_wp2_with fail
   refine (isNaNT_any _ _).mono ?_
   rintro e w' ⟨rfl, rfl⟩
   go_wp2_with fail
   refine (isNaNT_any _ _).mono ?_
   rintro e w' ⟨rfl, rfl⟩
   go_wp2_with fail
   go_ret
   exact ⟨ret_int HF.out.symm, rfl⟩

/-- How lists of texts are compared. -/
def cmpLs (a b : List ByteArray) : Int := if befL a b then -1 else if befL b a then 1 else 0
theorem cmpLs_lt (a b : List ByteArray) : decide (cmpLs a b < 0) = befL a b := by
 unfold cmpLs
 cases h : befL a b with
 | true => simp
 | false => cases h2 : befL b a with
  | true => simp
  | false => simp
theorem cmpLs_at {a b : List ByteArray} {i : Nat} (ha : i < a.length) (hb : i < b.length) (hs : ∀ j (h : j < a.length) (h' : j < b.length), j < i → a[j] = b[j]) (hd : cmpT a[i].data.toList b[i].data.toList ≠ 0) : cmpLs a b = cmpT a[i].data.toList b[i].data.toList := by
 have hne : a[i] ≠ b[i] := fun e => hd (by rw [e]; unfold cmpT; rw [if_neg (List.lt_irrefl _), if_neg (List.lt_irrefl _)])
 have h1 := befL_at ha hb hs hne
 have h2 := befL_at hb ha (fun j h h' hj => (hs j h' h hj).symm) (Ne.symm hne)
 unfold cmpLs cmpT
 rw [h1, h2]
 simp only [decide_eq_true_eq]
theorem cmpT_zero {x y : ByteArray} (h : cmpT x.data.toList y.data.toList = 0) : x = y := by
 unfold cmpT at h
 split at h
 ·cases h
 ·next h1 =>
  split at h
  ·cases h
  ·next h2 => exact data_inj (List.le_antisymm (List.not_lt.1 h2) (List.not_lt.1 h1))
theorem cmpLs_end {a b : List ByteArray} (hs : ∀ j (h : j < a.length) (h' : j < b.length), a[j] = b[j]) : cmpLs a b = if a.length < b.length then -1 else if b.length < a.length then 1 else 0 := by
 have h1 := befL_end hs
 have h2 := befL_end fun j h h' => (hs j h' h).symm
 unfold cmpLs
 rw [h1, h2]
 simp only [decide_eq_true_eq]

set_option maxRecDepth 100000 in
set_option maxHeartbeats 1000000 in
theorem CompareS_any (lo lo2 : Nat) (av bv : Value) (xs ys : List ByteArray) (w : World) (ha : SliceK 1 encS lo w av xs) (hb : SliceK 1 encS lo2 w bv ys) (hxl : xs.length ≤ 1000) (_hyl : ys.length ≤ 1000) :
  Calls Tryz.prog 47 #[av, bv] w fun e w' => e = .returned (.int .i64 (cmpLs xs ys)) ∧ Below w.heap.size w w' ∧ w.drawn ≤ w'.drawn := by
 obtain ⟨a, c, rfl, -, -, hra⟩ := ha
 obtain ⟨a2, c2, rfl, -, -, hrb⟩ := hb
 have HA := Lib.hid hra
 have HB := Lib.hid hrb
 obtain ⟨N, hN⟩ : ∃ N, N = xs.length := ⟨_, rfl⟩
 obtain ⟨M, hM⟩ : ∃ M, M = ys.length := ⟨_, rfl⟩
 rw [← hN] at hxl ⊢
 rw [← hM] at _hyl ⊢
 have HN := Lib.hid hN
 have HM := Lib.hid hM
 clear hra hrb hN hM
 go_enter Tryz.func47, Tryz.ntmps47
 go_wp2_with fail
 go_loopw [11] (fun i wr => ∃ k : Nat, k ≤ N ∧ k ≤ M ∧ i = .int .i64 k ∧ Below w.heap.size w wr ∧ w.drawn ≤ wr.drawn ∧ ∀ j (h : j < xs.length) (h' : j < ys.length), j < k → xs[j] = ys[j]) (fun i _ => N - (intOf i).toNat)
 case atStart => exact ⟨0, Nat.zero_le _, Nat.zero_le _, rfl, Below.refl _ _, Nat.le_refl _, fun _ _ _ h => by omega⟩
 case round =>
  obtain ⟨k, hkN, hkM, rfl, hbl, hdr, hx⟩ := hrel
  obtain ⟨wC, rfl⟩ : ∃ wC : World, wC = wr := ⟨_, rfl⟩
  have HX := Lib.hid hx
  have HBL := Lib.hid hbl
  have HDR := Lib.hid hdr
  clear hx hdr
  by_cases h1 : k < N
  ·have hk1 : k < xs.length := by rw [← HN.out]; exact h1
   obtain ⟨b1, o1, rfl, -, hw1, c1⟩ := (HA.out.below hbl).one hk1
   simp only [encS, List.getElem?_cons_zero] at c1
   by_cases h2 : k < M
   ·have hk2 : k < ys.length := by rw [← HM.out]; exact h2
    obtain ⟨b2, o2, rfl, -, hw2, c2⟩ := (HB.out.below hbl).one hk2
    simp only [encS, List.getElem?_cons_zero] at c2
    have hat := cmpLs_at hk1 hk2 HX.out
    have hze := cmpT_zero (x := xs[k]) (y := ys[k])
    obtain ⟨x, hxe⟩ : ∃ x, x = xs[k] := ⟨_, rfl⟩
    obtain ⟨y, hye⟩ : ∃ y, y = ys[k] := ⟨_, rfl⟩
    rw [← hxe] at c1 hat hze
    rw [← hye] at c2 hat hze
    have HXY : Hid (x = y → xs[k] = ys[k]) := fun e => by rw [← hxe, ← hye]; exact e
    have HCT := Lib.hid (fun w' => CompareT_any x y w')
    obtain ⟨ct, hct⟩ : ∃ ct, ct = cmpT x.data.toList y.data.toList := ⟨_, rfl⟩
    rw [← hct] at HCT hat hze
    have HAT := Lib.hid hat
    have HZE := Lib.hid hze
    clear hbl hxe hye hat hze hct
    by_cases h0 : ct = 0
    ·have HE : Hid (xs[k] = ys[k]) := HXY.out (HZE.out h0)
     subst h0
     go_wp2_with fail
     refine Calls.mono (HCT.out _) ?_
     rintro e w2 ⟨rfl, rfl⟩
     clear c1 c2
     go_wp2
     go_roundw
     case rel => exact ⟨k + 1, by omega, by omega, by go_num, HBL.out, HDR.out, fun j h h' hj => by
      by_cases e : j = k
      ·subst e; exact HE.out
      ·exact HX.out j h h' (by omega)⟩
     case measure => simp [intOf]; omega
    ·have HE : Hid (cmpLs xs ys = ct) := HAT.out h0
     go_wp2_with fail
     refine Calls.mono (HCT.out _) ?_
     rintro e w2 ⟨rfl, rfl⟩
     clear c1 c2
     go_wp2
     go_ret
     exact ⟨ret_int HE.out.symm, HBL.out, HDR.out⟩
   ·have hMk : M ≤ k := by omega
    have HF : Hid (cmpLs xs ys = 1) := by
     unfold Hid
     rw [cmpLs_end fun j h h' => HX.out j h h' (by have := HM.out; omega)]
     have := HN.out
     have := HM.out
     rw [if_neg (by omega), if_pos (by omega)]
    clear hbl
    go_wp2
    go_ret
    exact ⟨ret_int HF.out.symm, HBL.out, HDR.out⟩
  ·have HF : Hid (cmpLs xs ys = if N < M then -1 else 0) := by
    unfold Hid
    rw [cmpLs_end fun j h h' => HX.out j h h' (by have := HN.out; omega)]
    rw [← HN.out, ← HM.out]
    by_cases hNM : N < M
    ·rw [if_pos hNM, if_pos hNM]
    ·rw [if_neg hNM, if_neg hNM, if_neg (by omega)]
   clear hbl
   by_cases hNM : N < M
   ·rw [if_pos hNM] at HF
    go_wp2
    go_ret
    exact ⟨ret_int HF.out.symm, HBL.out, HDR.out⟩
   ·rw [if_neg hNM] at HF
    go_wp2
    go_ret
    exact ⟨ret_int HF.out.symm, HBL.out, HDR.out⟩

end Go.Proofs.YtodojigmhlkpeaaGreatDoor

namespace Go.Proofs.YtodojigmhlkpeaaGreatDoor
open Go Go.RowKit Go.Sort

theorem enters_cmpS : ∀ args w, (callFunc 47 args).run Tryz.prog w = .ok (.enter 47 args) w := enters_of Tryz.func47 (by kernel_rfl) rfl
/-- The header and the list at a place; behind the end, nothing. -/
def hdAt (vs : List Value) (i : Nat) : Value := vs.getD i (.slice none 0 0)
def lsAt (O : List (List ByteArray)) (i : Nat) : List ByteArray := O.getD i []
theorem hdAt_lt {vs : List Value} {i : Nat} (h : i < vs.length) : hdAt vs i = vs[i] := by unfold hdAt; rw [List.getD_eq_getElem?_getD, List.getElem?_eq_getElem h]; rfl
theorem lsAt_lt {O : List (List ByteArray)} {i : Nat} (h : i < O.length) : lsAt O i = O[i] := by unfold lsAt; rw [List.getD_eq_getElem?_getD, List.getElem?_eq_getElem h]; rfl
theorem hdAt_ge {vs : List Value} {i : Nat} (h : vs.length ≤ i) : hdAt vs i = .slice none 0 0 := by unfold hdAt; rw [List.getD_eq_getElem?_getD, List.getElem?_eq_none h]; rfl
theorem lsAt_ge {O : List (List ByteArray)} {i : Nat} (h : O.length ≤ i) : lsAt O i = [] := by unfold lsAt; rw [List.getD_eq_getElem?_getD, List.getElem?_eq_none h]; rfl
theorem swo_befL (O : List (List ByteArray)) : SWO (ltOf fun i j => cmpLs (lsAt O i) (lsAt O j)) := by
 have h : ltOf (fun i j => cmpLs (lsAt O i) (lsAt O j)) = fun i j => befL (lsAt O i) (lsAt O j) := by
  funext i j
  exact cmpLs_lt _ _
 rw [h]
 refine ⟨fun x => befL_irrefl _, fun x y z => befL_trans _ _ _, fun x y z h1 h2 => ?_⟩
 cases h3 : befL (lsAt O x) (lsAt O z) with
 | false => rfl
 | true =>
  cases h4 : befL (lsAt O y) (lsAt O x) with
  | true => have := befL_trans _ _ _ h4 h3; rw [this] at h2; cases h2
  | false =>
   have e := befL_tri _ _ h1 h4
   rw [e] at h3
   rw [h3] at h2
   cases h2
theorem grownBy_sortW {α : Type} [Inhabited α] {enc : α → Value} {w : World} {g n : Nat} {os : Array Obj} (d : Array α) : w.grownBy (sortWorld enc w g 0 n d os) (some g) := by
 unfold sortWorld
 refine ⟨rfl, rfl, rfl, by simp, fun k hk hne => ?_⟩
 rw [heap_grow_old _ _ (by simpa using hk)]
 have : g ≠ k := fun e => hne (by rw [e])
 simp [putRow, mapBlock, Sort.ahead, Array.getElem?_modify, this]
theorem heap_sortW {α : Type} [Inhabited α] {enc : α → Value} {w : World} {g n : Nat} {os : Array Obj} {cur : Array Value} {e : TypeId} {fr : Nat × Nat} (d : Array α) (hb : w.heap[g]? = some (.cells cur e fr)) :
  (sortWorld enc w g 0 n d os).heap[g]? = some (.cells (putCells enc 0 d cur) e fr) := by
 unfold sortWorld
 have hg : g < w.heap.size := (Array.getElem?_eq_some_iff.1 hb).1
 rw [heap_grow_old _ _ (by simpa using hg)]
 simp [putRow, mapBlock, Sort.ahead, Array.getElem?_modify, hb, onCells]
theorem take_putW {α : Type} [Inhabited α] (enc : α → Value) (cur : Array Value) (d : Array α) (h : d.size ≤ cur.size) : (putCells enc 0 d cur).toList.take d.size = d.toList.map enc := by
 apply List.ext_getElem?
 intro j
 by_cases hj : j < d.size
 ·rw [List.getElem?_take_of_lt hj, Array.getElem?_toList, List.getElem?_map, Array.getElem?_toList]
  simp [putCells, hj, show j < cur.size by omega]
 ·rw [List.getElem?_take_eq_none (by omega), List.getElem?_eq_none (by simp; omega)]

theorem SortT_own (base : Nat) (v : Value) (vs : List Value) (O : List (List ByteArray)) (w : World) (ho : OwnStrss base w v vs O) (hz : O.length ≤ 1048576) (hz2 : ∀ o ∈ O, o.length ≤ 1000) :
  Calls Tryz.prog 46 #[v, .func (.func 47) #[] #[]] w fun e w' => e = .returned (.tuple #[]) ∧ ∃ js : List Nat, js.Perm (List.range O.length) ∧ js.Pairwise (fun i j => befL (lsAt O j) (lsAt O i) = false) ∧ w'.ownsRow base 22 1 v vs.length (js.map (hdAt vs)) ∧ w.grownBy w' v.ownBlock := by
 have hlen := ho.len
 rcases ho.out.2 with ⟨rfl, h0⟩ | ⟨g, cap, cur, rfl, hb, hg, hn, hm, hs, ht⟩
 ·have hx : O = [] := List.eq_nil_of_length_eq_zero (by rw [← hlen]; exact h0)
  have hv : vs = [] := List.eq_nil_of_length_eq_zero h0
  subst hx hv
  refine Calls.mono (R := fun e w' => e = .returned (.tuple #[]) ∧ w' = w) (Tryz.slices_SortFunc_none_f46 (α := Nat) none 0 _ w) ?_
  rintro e w' ⟨rfl, rfl⟩
  exact ⟨rfl, [], by simp, .nil, ho.out, grown_refl _ _⟩
 ·rw [Nat.mul_one] at ht hs
  have hdn : (List.range vs.length).toArray.size = vs.length := by simp
  have hgl : g < w.heap.size := (Array.getElem?_eq_some_iff.1 hg).1
  have hone : OneCell (hdAt vs) := by
   intro i
   by_cases hi : i < vs.length
   ·rw [hdAt_lt hi]
    obtain ⟨a, c, e, -, -⟩ := owns_slice (ho.rows.row i hi (by rw [← ho.rows.len]; exact hi))
    rw [e]
    rfl
   ·rw [hdAt_ge (by omega)]
    rfl
  have hH : Holds (hdAt vs) w g 0 (List.range vs.length).toArray := by
   intro j hj
   have hj' : j < vs.length := by simpa using hj
   refine ⟨?_, by simp [World.frozen?, hg]⟩
   have h1 : (cur.toList.take vs.length)[j]? = vs[j]? := by rw [ht]
   rw [List.getElem?_take_of_lt hj'] at h1
   simp only [World.cell?, hg, Nat.zero_add]
   simp only [Option.isSome_none, Bool.false_eq_true, if_false]
   rw [← Array.getElem?_toList, h1]
   simp [hj', hdAt_lt]
  have hcmp : CmpLays1 Tryz.prog 47 #[] (hdAt vs) (fun i j => cmpLs (lsAt O i) (lsAt O j)) g 0 (List.range vs.length).toArray.size w := by
   intro m os dk hdk x y
   obtain ⟨W, hW⟩ : ∃ W, W = sortWorld (hdAt vs) w g 0 m dk os := ⟨_, rfl⟩
   have hgr : w.grownBy W (some g) := by rw [hW]; exact grownBy_sortW dk
   have hp : Pile 9 base W vs (O.map txts) := ho.rows.other (by decide) ho.out hgr
   have hsl : ∀ i, SliceK 1 encS base W (hdAt vs i) (lsAt O i) ∧ (lsAt O i).length ≤ 1000 := fun i => by
    by_cases hi : i < vs.length
    ·have hi2 : i < O.length := by rw [← hlen]; exact hi
     rw [hdAt_lt hi, lsAt_lt hi2]
     have := hp.row i hi (by simpa using hi2)
     rw [List.getElem_map, txts_len] at this
     exact ⟨SliceK.of_owns (e := 9) encS_len rfl (by rw [flat_encS]; exact this), hz2 _ (List.getElem_mem _)⟩
    ·rw [hdAt_ge (by omega), lsAt_ge (by omega)]
     exact ⟨⟨none, 0, rfl, Nat.le_refl _, by decide, .inl rfl⟩, by simp⟩
   rw [← hW]
   refine (CompareS_any base base _ _ _ _ W (hsl x).1 (hsl y).1 (hsl x).2 (hsl y).2).mono ?_
   rintro e w' ⟨h1, h2, h3⟩
   exact ⟨h1, grow_of_below h2 h3⟩
  have hc := Tryz.slices_SortFunc_f46 (α := Nat) (hdAt vs) hone (fun i j => cmpLs (lsAt O i) (lsAt O j)) (swo_befL O) 47 #[] g 0 cap (List.range vs.length).toArray w enters_cmpS hcmp hH hgl (by rw [hdn]; omega)
  rw [hdn] at hc
  refine hc.mono ?_
  rintro e w' ⟨rfl, d', n, os, ⟨hsz, -, hperm⟩, hsort, rfl⟩
  rw [hdn] at hsz
  have e1 : d'.extract 0 vs.length = d' := by rw [← hsz]; exact Array.extract_size
  have e2 : (List.range vs.length).toArray.extract 0 vs.length = (List.range vs.length).toArray := by
   conv => lhs; rw [← hdn]
   simp
  rw [e1, e2] at hperm
  refine ⟨rfl, d'.toList, by rw [← hlen]; exact hperm, ?_, ⟨by simp [hsz], .inr ⟨g, cap, _, rfl, hb, heap_sortW d' hg, hn, hm, by simp [putCells, hs], ?_⟩⟩, grownBy_sortW d'⟩
  ·rw [List.pairwise_iff_getElem]
   intro i j hi hj hij
   have hi' : i < d'.size := by simpa using hi
   have hj' : j < d'.size := by simpa using hj
   have := hsort i j (Nat.zero_le _) hij (by omega)
   rw [getElem!_pos d' j hj', getElem!_pos d' i hi'] at this
   rw [← cmpLs_lt]
   simpa [ltOf] using this
  ·rw [Nat.mul_one, ← hsz]
   exact take_putW _ _ _ (by rw [hsz, hs]; exact hn)

end Go.Proofs.YtodojigmhlkpeaaGreatDoor

namespace Go.Proofs.YtodojigmhlkpeaaGreatDoor
open Go Go.RowKit

/-- A block with room for c elements of one cell; the first n of them are cs. -/
structure CellsAt (w : World) (g : Nat) (T : TypeId) (n c : Nat) (cs : List Value) : Prop where
 blk : ∃ rest : List Value, Blk w g (cs ++ rest) T ∧ cs.length + rest.length = c
 len : cs.length = n
theorem CellsAt.lt {w : World} {g n c : Nat} {T : TypeId} {cs : List Value} (h : CellsAt w g T n c cs) : g < w.heap.size := by obtain ⟨r, hr, -⟩ := h.blk; exact hr.lt
theorem CellsAt.below {w w' : World} {g n c : Nat} {T : TypeId} {cs : List Value} (h : CellsAt w g T n c cs) (hb : Below w.heap.size w w') : CellsAt w' g T n c cs := by
 obtain ⟨r, hr, hl⟩ := h.blk
 exact ⟨⟨r, hr.below hb, hl⟩, h.len⟩
theorem CellsAt.cell {w : World} {g n c : Nat} {T : TypeId} {cs : List Value} (h : CellsAt w g T n c cs) (i : Nat) (hi : i < n) : w.cell? ⟨g, i, none⟩ = cs[i]? := by
 obtain ⟨r, hr, -⟩ := h.blk
 have hi2 : i < cs.length := by rw [h.len]; exact hi
 rw [hr.cell i (v := cs[i]) (by rw [List.getElem?_append_left hi2, List.getElem?_eq_getElem hi2]), List.getElem?_eq_getElem hi2]
theorem CellsAt.cell_some {w : World} {g n c : Nat} {T : TypeId} {cs : List Value} (h : CellsAt w g T n c cs) (i : Nat) (hi : i < n) : ∃ u, w.cell? ⟨g, i, none⟩ = some u := by
 have hi2 : i < cs.length := by rw [h.len]; exact hi
 exact ⟨cs[i], by rw [h.cell i hi, List.getElem?_eq_getElem hi2]⟩
theorem CellsAt.frozen {w : World} {g n c : Nat} {T : TypeId} {cs : List Value} (h : CellsAt w g T n c cs) (i : Nat) : w.frozen? ⟨g, i, none⟩ = false := by
 obtain ⟨r, hr, -⟩ := h.blk
 exact hr.frozen i
theorem CellsAt.set {w : World} {g n c : Nat} {T : TypeId} {cs : List Value} (h : CellsAt w g T n c cs) (i : Nat) (hi : i < n) (v : Value) : CellsAt (w.setCell ⟨g, i, none⟩ v) g T n c (cs.set i v) := by
 obtain ⟨r, hr, hl⟩ := h.blk
 have hi2 : i < cs.length := by rw [h.len]; exact hi
 refine ⟨⟨r, ?_, by rw [List.length_set]; exact hl⟩, by rw [List.length_set]; exact h.len⟩
 have := hr.set i v
 rwa [List.set_append_left _ _ hi2] at this
theorem CellsAt.sets {g n c : Nat} {T : TypeId} (z : Value) : ∀ (m i : Nat) {w : World} {cs : List Value}, CellsAt w g T n c cs → i + m = n → CellsAt (w.setCells g i (List.replicate m z)) g T n c (cs.take i ++ List.replicate m z)
 | 0, i, w, cs, h, hi => by
  have : cs.take i = cs := List.take_of_length_le (by rw [h.len]; omega)
  rw [List.replicate_zero, List.append_nil, this]
  exact h
 | m + 1, i, w, cs, h, hi => by
  have h1 := CellsAt.sets z m (i + 1) (h.set i (by omega) z) (by omega)
  have hil : i < cs.length := by rw [h.len]; omega
  rw [List.replicate_succ, World.setCells]
  have e : (cs.set i z).take (i + 1) = cs.take i ++ [z] := by
   rw [List.take_succ_eq_append_getElem (by rw [List.length_set]; exact hil), List.getElem_set_self, List.take_set_of_le (Nat.le_refl _)]
  rw [e, List.append_assoc] at h1
  exact h1
theorem CellsAt.clear {w : World} {g n c i : Nat} {T : TypeId} {cs : List Value} {z : Value} (h : CellsAt w g T n c cs) (hi : i < n) : CellsAt (w.setCells g i (List.replicate (n - i) z)) g T n c (cs.take i ++ List.replicate (n - i) z) := CellsAt.sets z (n - i) i h (by omega)
theorem CellsAt.of_owns {w : World} {B g n c : Nat} {T : TypeId} {cs : List Value} (h : w.ownsRow B T 1 (.slice (some ⟨g, 0, none⟩) n c) n cs) : CellsAt w g T n c cs := by
 obtain ⟨h0, ⟨h, -⟩ | ⟨g', cap, cur, e, -, hg, hc, -, hs, ht⟩⟩ := h
 ·cases h
 ·simp only [Value.slice.injEq, Option.some.injEq, Addr.mk.injEq, and_true, true_and] at e
  obtain ⟨rfl, rfl⟩ := e
  rw [Nat.mul_one] at h0 hs ht
  refine ⟨⟨cur.toList.drop n, ?_, ?_⟩, h0⟩
  ·unfold Blk
   rw [← ht, List.take_append_drop]
   simpa using hg
  ·rw [List.length_drop, h0, Array.length_toList, hs]
   omega
theorem CellsAt.owns {w : World} {B g n c m : Nat} {T : TypeId} {cs xs : List Value} (h : CellsAt w g T n c cs) (hx : cs.take m = xs) (hm : m ≤ n) (hB : B ≤ g) (_hn : n ≤ c) (hc : c ≤ 9223372036854775807) : w.ownsRow B T 1 (.slice (some ⟨g, 0, none⟩) m c) m xs := by
 obtain ⟨r, hr, hl⟩ := h.blk
 have hlen := h.len
 refine ⟨by rw [← hx, List.length_take]; omega, .inr ⟨g, c, (cs ++ r).toArray, rfl, hB, hr, by omega, by simpa [maxLen] using hc, by simp; omega, ?_⟩⟩
 rw [Nat.mul_one, List.toList_toArray, List.take_append_of_le_length (by omega)]
 exact hx

/-- The first j elements are looked at; i of them are kept and lie in front; behind, all is as it was. -/
structure KeptIn {α : Type} (P : α → Bool) (xs : List α) (i j : Nat) (con : α → Value) (cs : List Value) : Prop where
 lt : i < j
 len : cs.length = xs.length
 kept : cs.take i = ((xs.take j).filter fun x => !P x).map con
 num : ((xs.take j).filter fun x => !P x).length = i
 high : ∀ k (h : k < xs.length), j ≤ k → cs[k]? = some (con xs[k])
theorem KeptIn.start {α : Type} {P : α → Bool} {xs : List α} {con : α → Value} {k : Nat} (hk : k < xs.length) (hl : ∀ j (h : j < xs.length), j < k → P xs[j] = false) (hp : P xs[k] = true) : KeptIn P xs k (k + 1) con (xs.map con) := by
 have h1 : (xs.take (k + 1)).filter (fun x => !P x) = xs.take k := by
  rw [List.take_succ_eq_append_getElem hk, List.filter_append]
  have h2 : (xs.take k).filter (fun x => !P x) = xs.take k := by
   rw [List.filter_eq_self]
   intro x hx
   obtain ⟨j, hj, rfl⟩ := List.mem_iff_getElem.1 hx
   rw [List.length_take] at hj
   rw [List.getElem_take, hl j (by omega) (by omega)]
   rfl
  rw [h2, List.filter_cons, hp]
  simp
 refine ⟨by omega, by simp, ?_, ?_, fun j hj _ => by rw [List.getElem?_map, List.getElem?_eq_getElem hj]; rfl⟩
 ·rw [h1, List.map_take]
 ·rw [h1, List.length_take]; omega
theorem KeptIn.keep {α : Type} {P : α → Bool} {xs : List α} {con : α → Value} {i j : Nat} {cs : List Value} (h : KeptIn P xs i j con cs) (hj : j < xs.length) (hp : P xs[j] = false) : KeptIn P xs (i + 1) (j + 1) con (cs.set i (con xs[j])) := by
 have hl := h.len
 have hi := h.lt
 have e : (xs.take (j + 1)).filter (fun x => !P x) = (xs.take j).filter (fun x => !P x) ++ [xs[j]] := by
  rw [List.take_succ_eq_append_getElem hj, List.filter_append, List.filter_cons, hp]
  simp
 refine ⟨by omega, by rw [List.length_set]; exact hl, ?_, ?_, fun k hk hjk => ?_⟩
 ·rw [e, List.map_append, ← h.kept, List.take_succ_eq_append_getElem (by rw [List.length_set]; omega), List.getElem_set_self, List.take_set_of_le (Nat.le_refl _)]
  rfl
 ·rw [e, List.length_append, h.num]
  rfl
 ·rw [List.getElem?_set_ne (by omega)]
  exact h.high k hk (by omega)
theorem KeptIn.drop {α : Type} {P : α → Bool} {xs : List α} {con : α → Value} {i j : Nat} {cs : List Value} (h : KeptIn P xs i j con cs) (hj : j < xs.length) (hp : P xs[j] = true) : KeptIn P xs i (j + 1) con cs := by
 have hi := h.lt
 have e : (xs.take (j + 1)).filter (fun x => !P x) = (xs.take j).filter (fun x => !P x) := by
  rw [List.take_succ_eq_append_getElem hj, List.filter_append, List.filter_cons, hp]
  simp
 exact ⟨by omega, h.len, by rw [e]; exact h.kept, by rw [e]; exact h.num, fun k hk hjk => h.high k hk (by omega)⟩
theorem KeptIn.all {α : Type} {P : α → Bool} {xs : List α} {con : α → Value} {i j : Nat} {cs : List Value} (h : KeptIn P xs i j con cs) (hj : xs.length ≤ j) : (xs.filter fun x => !P x).length = i ∧ (xs.filter fun x => !P x).map con = cs.take i := by
 have e : xs.take j = xs := List.take_of_length_le hj
 have h1 := h.kept
 have h2 := h.num
 rw [e] at h1 h2
 exact ⟨h2, h1.symm⟩

end Go.Proofs.YtodojigmhlkpeaaGreatDoor

namespace Go.Proofs.YtodojigmhlkpeaaGreatDoor
open Go Go.RowKit

section
variable {α : Type}
/-- While the tail is moved up: something at the place k. -/
def shiftG (L : List α) (j : α) (k : Nat) : List α := L.take k ++ j :: L.drop k
theorem shiftG_end (L : List α) (j : α) : L ++ [j] = shiftG L j L.length := by simp [shiftG]
theorem shiftG_get {L : List α} {j : α} {k : Nat} (h1 : 1 ≤ k) (hk : k ≤ L.length) : (shiftG L j k)[k - 1]? = some (L[k - 1]'(by omega)) := by
 unfold shiftG
 rw [List.getElem?_append_left (by rw [List.length_take]; omega), List.getElem?_take, if_pos (by omega), List.getElem?_eq_getElem (by omega)]
theorem shiftG_set {L : List α} {j : α} {k : Nat} (h1 : 1 ≤ k) (hk : k ≤ L.length) : (shiftG L j k).set k (L[k - 1]'(by omega)) = shiftG L (L[k - 1]'(by omega)) (k - 1) := by
 unfold shiftG
 have hl : (L.take k).length = k := by rw [List.length_take]; omega
 rw [List.set_append_right _ _ (by omega), hl, Nat.sub_self, List.set_cons_zero]
 have h2 : L.take k = L.take (k - 1) ++ [L[k - 1]'(by omega)] := by
  have := List.take_succ_eq_append_getElem (l := L) (i := k - 1) (by omega)
  rw [show k - 1 + 1 = k from by omega] at this
  exact this
 have h3 : L.drop (k - 1) = L[k - 1]'(by omega) :: L.drop k := by
  have := List.drop_eq_getElem_cons (l := L) (i := k - 1) (by omega)
  rw [show k - 1 + 1 = k from by omega] at this
  exact this
 rw [h2, h3, List.append_assoc]
 rfl
theorem shiftG_put {L : List α} {j x : α} {k : Nat} (hk : k ≤ L.length) : (shiftG L j k).set k x = L.take k ++ x :: L.drop k := by
 unfold shiftG
 have hl : (L.take k).length = k := by rw [List.length_take]; omega
 rw [List.set_append_right _ _ (by omega), hl, Nat.sub_self, List.set_cons_zero]
end

end Go.Proofs.YtodojigmhlkpeaaGreatDoor
