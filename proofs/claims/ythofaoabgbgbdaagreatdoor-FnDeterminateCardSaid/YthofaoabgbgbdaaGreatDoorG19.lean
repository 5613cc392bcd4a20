/-
  The implementation's firstTrace.
  An arc in memory.
-/
import Derived.Test.YthofaoabgbgbdaaGreatDoorG15
import Derived.Test.YthofaoabgbgbdaaGreatDoorG17
import Derived.Test.YthofaoabgbgbdaaGreatDoorG18
import Derived.Test.YthofaoabgbgbdaaGreatDoorG16
import Derived.Test.YthofaoabgbgbdaaGreatDoorG9
import Derived.Deep.RegionHeld3
import Derived.Deep.AppendLies
namespace Go.Proofs.YthofaoabgbgbdaaGreatDoor
open Go Go.RowKit
open Go.Maps (Keyed)

theorem info_pairF : (Tryz.prog.info? 114).map (fun i => (i.zero, i.size, i.bytes)) = some (some (.agg #[.int .i64 0, .int .i64 0, .slice none 0 0]), 3, 40) := by kernel_rfl
theorem info_strF : (Tryz.prog.info? 9).map (fun i => (i.zero, i.size, i.bytes)) = some (some (.string ⟨#[]⟩), 1, 16) := by kernel_rfl
theorem bothL_pos (a b : Lts) : 0 < (bothL a b).length := List.length_pos_of_mem ((labSet_is _).2 tauT |>.2 (by simp))
theorem bothL_most (x y : Lts) : (bothL x y).length ≤ (x.labels ++ y.labels).length + 1 := by
 unfold bothL labSet
 rw [List.length_map]
 refine Nat.le_trans (Lib.compact_length_le _) ?_
 rw [List.length_mergeSort, List.length_map]
 exact Nat.le_refl _
theorem field_labels (n i : Int) (a : Option Addr) (k c : Nat) (ev : Value) (w : World) : (Instr.field 27 (.agg #[.int .i64 n, .int .i64 i, .slice a k c, ev]) 2).run Tryz.prog w = .ok (.slice a k c) w := by kernel_rfl
/-- What a function that is asked of pairs of states answers. -/
def Asks (fid : Nat) (caps : Array Value) (x y : Lts) (F : Int × Int → Prop) (w : World) : Prop :=
 ∀ w', Below w.heap.size w w' → ∀ p q : Int, (-1 ≤ p ∧ p < x.states) → (-1 ≤ q ∧ q < y.states) → ¬ deadB (p, q) → (∃ L u, difS x y L u = (p, q)) →
  Calls Tryz.prog fid (#[.int .i64 p, .int .i64 q] ++ caps) w' fun e w'' => ∃ r : Bool, e = .returned (.bool r) ∧ (r = true ↔ F (p, q)) ∧ Below w'.heap.size w' w''
def RetFirst (x y : Lts) (F : Int × Int → Prop) (w : World) (e : Ending) (w' : World) : Prop :=
 Below w.heap.size w w' ∧ ∃ (r : Bool) (xs : List ByteArray) (v : Value), e = .returned (.tuple #[v, .bool r]) ∧ FirstIs x y (bothL x y) F r xs ∧ OwnStrs w.heap.size w' v xs
set_option maxRecDepth 100000 in
set_option maxHeartbeats 8000000 in
theorem firstTrace_any (lo : Nat) (x y : Lts) (lx ex ly ey : Value) (fid : Nat) (caps : Array Value) (F : Int × Int → Prop) (w : World) (hvx : Valid x) (hvy : Valid y) (hsx : Single x) (hsy : Single y) (hix : x.initial = 0) (hiy : y.initial = 0)
  (hx : LtsIn lo w lx ex x) (hy : LtsIn lo w ly ey y) (eg : ∀ args w, (callFunc fid args).run Tryz.prog w = .ok (.enter fid args) w) (hF : Asks fid caps x y F w) :
  Calls Tryz.prog 40 #[.agg #[.int .i64 x.states, .int .i64 x.initial, lx, ex], .agg #[.int .i64 y.states, .int .i64 y.initial, ly, ey], .func (.func fid) #[] caps] w (RetFirst x y F w) := by
 obtain ⟨hxl, hxe⟩ := hx
 obtain ⟨hyl, hye⟩ := hy
 have hxl2 := hxl
 have hyl2 := hyl
 obtain ⟨ax, cx, rfl, -⟩ := hxl2
 obtain ⟨ay, cy, rfl, -⟩ := hyl2
 obtain ⟨n1, hn1⟩ : ∃ n1, n1 = x.labels.length := ⟨_, rfl⟩
 obtain ⟨n2, hn2⟩ : ∃ n2, n2 = y.labels.length := ⟨_, rfl⟩
 rw [← hn1] at hxl ⊢
 rw [← hn2] at hyl ⊢
 clear hn1 hn2
 obtain ⟨lx, hlxv⟩ : ∃ lx, lx = Value.slice ax n1 cx := ⟨_, rfl⟩
 obtain ⟨ly, hlyv⟩ : ∃ ly, ly = Value.slice ay n2 cy := ⟨_, rfl⟩
 rw [← hlxv] at hxl ⊢
 rw [← hlyv] at hyl ⊢
 obtain ⟨xb, hxb⟩ : ∃ xb, xb = w.heap.size := ⟨_, rfl⟩
 obtain ⟨W, hW⟩ : ∃ W, W = (w.alloc (.cells #[.int .i64 x.states, .int .i64 0, lx, ex] 27)).alloc (.cells #[.int .i64 y.states, .int .i64 0, ly, ey] 27) := ⟨_, rfl⟩
 have hbW : Below w.heap.size w W := by rw [hW]; exact ((Below.refl _ _).alloc (Nat.le_refl _) _).alloc (by simp) _
 have hsW : W.heap.size = xb + 1 + 1 := by rw [hW, hxb]; simp
 have hX : Blk W xb [.int .i64 x.states, .int .i64 0, lx, ex] 27 := by rw [hW, hxb]; exact (Blk.new w _ _).alloc _
 have hY : Blk W (xb + 1) [.int .i64 y.states, .int .i64 0, ly, ey] 27 := by
  have := Blk.new (w.alloc (.cells #[.int .i64 x.states, .int .i64 0, lx, ex] 27)) [.int .i64 y.states, .int .i64 0, ly, ey] 27
  rw [World.size_alloc, ← hxb] at this
  rw [hW]
  exact this
 obtain ⟨W2, hW2⟩ : ∃ W2, W2 = W.alloc (.cells #[lx, ly] 24) := ⟨_, rfl⟩
 have hb2 : Below W.heap.size W W2 := by rw [hW2]; exact (Below.refl _ _).alloc (Nat.le_refl _) _
 have hbw2 : Below w.heap.size w W2 := hbW.trans (hb2.mono hbW.size)
 have hlx : x.labels.length ≤ 12 := hvx.labels.most
 have hly : y.labels.length ≤ 12 := hvy.labels.most
 have HCAT := Lib.hid (ConcatS_two lo lx ly x.labels y.labels W2 (hxl.below hbw2) (hyl.below hbw2) hvx.labels.pos hvy.labels.pos (by omega) (xb + 1 + 1) (by rw [hW2, ← hsW]; exact Blk.new W _ _))
 obtain ⟨L, hL⟩ : ∃ L, L = bothL x y := ⟨_, rfl⟩
 have hLpos : 0 < L.length := by rw [hL]; exact bothL_pos x y
 have hLmost : L.length ≤ 25 := by have := bothL_most x y; rw [List.length_append] at this; rw [hL]; omega
 have HL := Lib.hid hL
 have HVX := Lib.hid hvx
 have HVY := Lib.hid hvy
 have HSX := Lib.hid hsx
 have HSY := Lib.hid hsy
 have HXI := Lib.hid hix
 have HYI := Lib.hid hiy
 have HIX : Hid (LtsIn lo w lx ex x) := ⟨hxl, hxe⟩
 have HIY : Hid (LtsIn lo w ly ey y) := ⟨hyl, hye⟩
 have HF := Lib.hid hF
 have HBW := Lib.hid hbW
 have HBW2 := Lib.hid hbw2
 have HX := Lib.hid hX
 have HY := Lib.hid hY
 have HB2 := Lib.hid hb2
 have HW := Lib.hid hW
 have HW2 := Lib.hid hW2
 have HXB := Lib.hid hxb
 have HSW := Lib.hid hsW
 have hmm := @run_makeMap Tryz.prog
 rw [hix, hiy]
 clear hvx hvy hsx hsy hix hiy hxl hxe hyl hye hF hbW hsW hX hY hW hW2 hb2 hbw2 hxb hL
 subst hlxv hlyv
 go_enter Tryz.func40, Tryz.ntmps40
 go_wp2_with fail
 rw [← HW.out, ← HXB.out]
 try rw [← HW2.out]
 refine Calls.mono HCAT.out ?_
 rintro e w3 ⟨cv, rfl, hb3, ho3⟩
 have hLL : labSet (tauT :: (x.labels ++ y.labels)) = L := HL.out.symm
 have HLTS := Lib.hid (lts_any 0 1 0 (x.labels ++ y.labels) [] cv (.slice none 0 0) w3 (SrcS.of_own ho3) ⟨none, 0, rfl, Nat.le_refl _, by omega, .inl rfl⟩ (by rw [List.length_append]; omega) (by simp) L hLL (by simp) List.Pairwise.nil)
 have hbw3 := HBW2.out.trans (hb3.mono HBW2.out.size)
 have HBW3 := Lib.hid hbw3
 have HBX3 := Lib.hid (HB2.out.trans (hb3.mono HB2.out.size))
 clear hb3 ho3 hLL hbw3 HCAT
 go_wp2_with fail
 refine Calls.mono HLTS.out ?_
 rintro e w4 ⟨lv, ev, rfl, hb4, hol, hoe⟩
 obtain ⟨ae, ce, rfl, -, -⟩ := owns_slice hoe
 simp only [List.map_nil, List.length_nil]
 obtain ⟨bl, cl, rfl, hblB, hblw⟩ := hol.form hLpos
 have hcl1 : L.length ≤ cl := by
  obtain ⟨a, c, e, h1, -⟩ := owns_slice hol
  simp only [Value.slice.injEq] at e
  omega
 obtain ⟨LL, hLLn⟩ : ∃ LL, LL = L.length := ⟨_, rfl⟩
 rw [← hLLn] at hol hLpos hLmost hcl1 ⊢
 have HLN := Lib.hid hLLn
 have HOL := Lib.hid hol
 have hbw4 := HBW3.out.trans (hb4.mono HBW3.out.size)
 have hbX4 := HBX3.out.trans (hb4.mono HBX3.out.size)
 obtain ⟨B, hB⟩ : ∃ B, B = w4.heap.size := ⟨_, rfl⟩
 obtain ⟨W5, hW5⟩ : ∃ W5, W5 = w4.alloc (.map #[] 0) := ⟨_, rfl⟩
 obtain ⟨W6, hW6⟩ : ∃ W6, W6 = W5.alloc (.cells #[.int .i64 0, .int .i64 0, .slice none 0 0] 114) := ⟨_, rfl⟩
 have hs5 : W5.heap.size = B + 1 := by rw [hW5, hB]; simp
 have hb45 : Below w4.heap.size w4 W5 := by rw [hW5]; exact (Below.refl _ _).alloc (Nat.le_refl _) _
 have hb56 : Below W5.heap.size W5 W6 := by rw [hW6]; exact (Below.refl _ _).alloc (Nat.le_refl _) _
 have hm5 : SetMap W5 B [] := by rw [hW5, hB]; exact SetMap.made w4
 have hq6 : OwnQ B W6 x y L (.slice (some ⟨B + 1, 0, none⟩) 1 1) [([], .slice none 0 0)] := by
  refine ⟨?_, fun p hp => ?_⟩
  ·have := World.ownsRow_lit (base := B) (e := 114) (size := 3) W5 #[.int .i64 0, .int .i64 0, .slice none 0 0] 1 (by omega) (by decide) (by simp)
   rw [hs5] at this
   rw [hW6]
   exact TailK.of_owns (by simpa [encQ, difS, wAt] using this)
  ·rw [List.mem_singleton] at hp
   subst hp
   exact World.ownsRow_nil _ _ _ _
 have HQ6 := Lib.hid hq6
 have HM6 := Lib.hid (hm5.below hb56)
 have HB6 : Hid (Below B w4 W6) := by
  unfold Hid
  rw [hB]
  exact hb45.trans (hb56.mono hb45.size)
 have hblB2 : bl < B := by rw [hB]; exact hblw
 have hxbB : xb + 1 < B := by
  have h1 := hbX4.size
  have h6 := HY.out.lt
  omega
 have HX4 := Lib.hid (HX.out.below hbX4)
 have HY4 := Lib.hid (HY.out.below hbX4)
 have HBW4 := Lib.hid hbw4
 have HBB := Lib.hid hB
 have HW5 := Lib.hid hW5
 have HW6 := Lib.hid hW6
 have HS5 := Lib.hid hs5
 clear hb4 hol hblB hblw hLLn hbw4 hB hW5 hW6 hs5 hb45 hb56 hm5 hq6 HLTS hoe hbX4 HBX3 HB2
 obtain ⟨pk, hpk⟩ : ∃ pk, pk = (if cl = 1 then (⟨bl, 0, none⟩ : Addr) else (⟨bl, 0, none⟩ : Addr).add 1) := ⟨_, rfl⟩
 have HPK := Lib.hid hpk
 have hsl := slice_from 24 9 1 Tryz.underlying24 (fun _ => by kernel_rfl) ⟨bl, 0, none⟩ LL cl hLpos
 rw [← hpk] at hsl
 have hb45 : Below w4.heap.size w4 (w4.alloc (.map #[] 0)) := (Below.refl _ _).alloc (Nat.le_refl _) _
 have x1 := (HX4.out.below hb45).cell 1 rfl
 have y1 := (HY4.out.below hb45).cell 1 rfl
 have hxl4 := HX4.out.lt
 have hyl4 := HY4.out.lt
 clear hb45
 clear hpk
 have hfl := field_labels 1 0 (some ⟨bl, 0, none⟩) LL cl (.slice ae 0 ce)
 go_wp2_with fail
 rw [← HW5.out, ← HW6.out, ← HBB.out]
 clear x1 y1 hfl hsl hxl4 hyl4 hmm
 go_loopg [10] 51001 (fun gk v10 wr => ∃ (seen : List (List Nat)) (ns : List (List Nat × Value)), OwnQ B wr x y L v10 ns ∧ FSt x y L (LL - 1) F seen (ns.map Prod.fst) ∧ SetMap wr B (seen.map fun u => key2 (difS x y L u)) ∧ Below B w4 wr ∧ (1700 - seen.length) * 30 + ns.length ≤ gk)
 case atStart => exact ⟨[], [([], .slice none 0 0)], HQ6.out, FSt.start _ _ _ _ _, HM6.out, HB6.out, by simp⟩
 case round =>
  clear HQ6 HM6 HB6
  obtain ⟨seen, ns, hq, hst, hm, hbr, hle⟩ := hrel
  obtain ⟨wC, rfl⟩ : ∃ wC : World, wC = wr := ⟨_, rfl⟩
  have hfew := hst.st.few HVX.out HVY.out
  have hqf : ns.length ≤ 40345 := by
   have h1 := hst.few
   rw [List.length_map] at h1
   have h2 : (LL - 1) * seen.length ≤ 24 * 1681 := Nat.mul_le_mul (by omega) hfew
   omega
  have HST := Lib.hid hst
  have HM := Lib.hid hm
  have HBR := Lib.hid hbr
  have HLE := Lib.hid hle
  have hszB : B ≤ wC.heap.size := by have := hbr.size; rw [← HBB.out] at this; exact this
  have HBWR := Lib.hid (HBW4.out.trans (hbr.mono (by rw [HBB.out]; exact HBW4.out.size)))
  have HKS : Hid (∀ v ∈ seen.map (fun u => key2 (difS x y L u)), ∃ l, keyOf Tryz.prog 116 v = some l) := by
   intro v hv
   obtain ⟨u, -, rfl⟩ := List.mem_map.1 hv
   have h2 := difS_range HVX.out HVY.out L u
   have h3 := HVX.out.st1
   have h4 := HVY.out.st1
   exact keyOfP ⟨⟨h2.1.2, by omega⟩, h2.2.2, by omega⟩
  clear hst hm hbr hle
  cases ns with
  | nil =>
   obtain ⟨a, c, rfl⟩ := hq.form
   simp only [List.length_nil]
   clear hq
   go_wp2
   go_ret2
   refine ⟨HBWR.out, false, [], _, rfl, ?_, World.ownsRow_nil _ _ _ _⟩
   rw [← HL.out]
   have h := HST.out
   rw [HLN.out] at h
   exact h.none
  | cons pr ns =>
   obtain ⟨u, tv⟩ := pr
   obtain ⟨g, o, cap, rfl, hgB, hgw, hn1, hcm, c0, c1, c2, hqt, hqe⟩ := hq.head
   obtain ⟨qa, hqa⟩ : ∃ qa, qa = (difS x y L u).1 := ⟨_, rfl⟩
   obtain ⟨qb, hqb⟩ : ∃ qb, qb = (difS x y L u).2 := ⟨_, rfl⟩
   have hqu : difS x y L u = (qa, qb) := by rw [hqa, hqb]
   have hrg := difS_range HVX.out HVY.out L u
   rw [hqu] at hrg
   simp only at hrg c0 c1 c2
   rw [← hqa] at c0
   rw [← hqb] at c1
   have HRG := Lib.hid hrg
   have HQU := Lib.hid hqu
   have hrow := hq.rows (u, tv) (by simp)
   simp only at hrow
   obtain ⟨ta, tc, rfl, -, -⟩ := owns_slice hrow
   obtain ⟨TL, hTL⟩ : ∃ TL, TL = u.length := ⟨_, rfl⟩
   have hlong := HST.out.long u (by simp)
   rw [← hTL] at c2 hrow hlong
   have hTL2 : TL ≤ 1681 := by omega
   have HTL := Lib.hid hTL
   simp only [List.length_cons] at hqf
   obtain ⟨N, hN⟩ : ∃ N, N = ns.length := ⟨_, rfl⟩
   rw [← hN] at hn1 hqf hqt hqe
   rw [← hN]
   have HN := Lib.hid hN
   -- the box of p
   obtain ⟨wP, hwP⟩ : ∃ wP, wP = wC.alloc (.cells #[.int .i64 qa, .int .i64 qb, .slice ta TL tc] 114) := ⟨_, rfl⟩
   have hbP : Below wC.heap.size wC wP := by rw [hwP]; exact (Below.refl _ _).alloc (Nat.le_refl _) _
   obtain ⟨pb, hpb⟩ : ∃ pb, pb = wC.heap.size := ⟨_, rfl⟩
   have hXP : Blk wP pb [.int .i64 qa, .int .i64 qb, .slice ta TL tc] 114 := by rw [hwP, hpb]; exact Blk.new wC _ _
   have HXP := Lib.hid hXP
   have hpbB : B ≤ pb := by rw [hpb]; exact hszB
   -- popped
   obtain ⟨pk2, hpk2⟩ : ∃ pk2, pk2 = (if cap = 1 then (⟨g, o, none⟩ : Addr) else (⟨g, o, none⟩ : Addr).add 3) := ⟨_, rfl⟩
   have hsl := slice_from 115 114 3 Tryz.underlying115 (fun _ => by kernel_rfl) ⟨g, o, none⟩ (N + 1) cap (by omega)
   rw [← hpk2, Nat.add_sub_cancel] at hsl
   have hQP : OwnQ B wP x y L (.slice (some pk2) N (cap - 1)) ns := by
    rw [hpk2]
    by_cases hc : cap = 1
    ·rw [if_pos hc, hc]
     exact (hqe hc).below hbP
    ·rw [if_neg hc, Addr.add_lit]
     exact hqt.below hbP
   have hgne : g < pb := by rw [hpb]; exact hgw
   have hpkb : pk2.block = g := by
    rw [hpk2]
    split
    ·rfl
    ·rw [Addr.add_lit]
   have HQP := Lib.hid hQP
   have HPKB := Lib.hid hpkb
   have HMP := Lib.hid (HM.out.below hbP)
   have HBP := Lib.hid (HBR.out.trans (hbP.mono hszB))
   have HTR := Lib.hid (owns_below hrow hbP)
   have HWP := Lib.hid hwP
   have HPB := Lib.hid hpb
   have hzP : wP.heap.size = pb + 1 := by rw [hwP, hpb]; simp
   have hkey : key2 (difS x y L u) = .agg #[.int .i64 qa, .int .i64 qb] := by rw [hqu]; rfl
   have hKU : ∃ kl, keyOf Tryz.prog 116 (.agg #[.int .i64 qa, .int .i64 qb]) = some kl := by
    rw [← hkey, hqu]
    have h3 := HVX.out.st1
    have h4 := HVY.out.st1
    exact keyOfP ⟨⟨hrg.1.2, by simp only; omega⟩, hrg.2.2, by simp only; omega⟩
   have HKEY := Lib.hid hkey
   have HHQ := Lib.hid hqa
   clear hq hqa hqb hqu hrg hrow hTL hN hwP hbP hpb hXP hpk2 hQP hgne hpkb hkey hqt hqe hlong
   have HLM : Hid ((1700 - seen.length) * 30 + (N + 1) ≤ gk) := by
    have h := HLE.out
    rw [List.length_cons, ← HN.out] at h
    exact h
   by_cases hd : qa < 0 ∧ qb < 0
   ·have HSK : Hid (FSt x y L (LL - 1) F seen (ns.map Prod.fst)) := HST.out.skip (.inl (by rw [HQU.out]; exact hd))
    obtain ⟨hd1, hd2⟩ := hd
    go_wp2
    rw [← HWP.out]
    go_roundg (gk - 1)
    case measure => have := HLM.out; omega
    case rel => exact ⟨seen, ns, HQP.out, HSK.out, HMP.out, HBP.out, by have := HLM.out; rw [← HN.out]; omega⟩
   ·have HND : Hid (¬ deadB (difS x y L u)) := by unfold Hid; rw [HQU.out]; exact hd
    by_cases hs : ∃ v ∈ seen, difS x y L v = difS x y L u
    ·have HSK : Hid (FSt x y L (LL - 1) F seen (ns.map Prod.fst)) := HST.out.skip (.inr hs)
     have hlk := HMP.out.found keyed2 underMap2 HKS.out (key := .agg #[.int .i64 qa, .int .i64 qb]) (by
      obtain ⟨v, hv, he⟩ := hs
      rw [← HKEY.out]
      exact List.mem_map.2 ⟨v, hv, by rw [he]⟩)
     rw [HWP.out] at hlk
     clear hs hKU
     rcases (show (¬ qa < 0) ∨ (qa < 0 ∧ ¬ qb < 0) from by omega) with hd1 | ⟨hd1, hd2⟩
     all_goals (
      clear hd
      go_wp2
      rw [← HWP.out]
      go_roundg (gk - 1)
      case measure => have := HLM.out; omega
      case rel => exact ⟨seen, ns, HQP.out, HSK.out, HMP.out, HBP.out, by have := HLM.out; rw [← HN.out]; omega⟩)
    ·have hkn : (Value.agg #[.int .i64 qa, .int .i64 qb]) ∉ seen.map (fun u => key2 (difS x y L u)) := by
      intro h
      obtain ⟨v, hv, he⟩ := List.mem_map.1 h
      rw [← HKEY.out] at he
      exact hs ⟨v, hv, key2_inj he⟩
     have HNS : Hid (∀ v ∈ seen, difS x y L v ≠ difS x y L u) := fun v hv he => hs ⟨v, hv, he⟩
     obtain ⟨kl, hkl⟩ := hKU
     have hlk := HMP.out.missing keyed2 underMap2 HKS.out (zeroBool2 wP) hkl hkn
     obtain ⟨w7, hup, hm7, hg7⟩ := HMP.out.store keyed2 underMap2 HKS.out hkl hkn (by rw [List.length_map]; unfold maxLen; omega)
     have hpbB2 : B < pb := by have h1 := HM.out.lt; have h2 := HPB.out; omega
     have hX7 : Blk w7 pb [.int .i64 qa, .int .i64 qb, .slice ta TL tc] 114 := (hg7.block pb HXP.out.lt (by simp only [ne_eq, Option.some.injEq]; omega)).trans HXP.out
     have hB7 : Below B w4 w7 := HBP.out.grown hg7 (by omega) (fun k e => by cases e; exact Nat.le_refl _)
     have HQ7 := Lib.hid (HQP.out.map (show wP.heap[B]? = _ from HMP.out) hg7)
     have HTR7 := Lib.hid (HTR.out.kept hg7 (own_map_ne HTR.out (show wP.heap[B]? = _ from HMP.out)))
     have HM7 : Hid (SetMap w7 B ((seen ++ [u]).map fun u => key2 (difS x y L u))) := by
      unfold Hid
      rw [List.map_append, List.map_cons, List.map_nil, HKEY.out]
      exact hm7
     have hbw7 : Below w.heap.size w w7 := HBW4.out.trans (hB7.mono (by have h1 := HBW4.out.size; rw [← HBB.out] at h1; exact h1))
     have HFC := Lib.hid (HF.out w7 hbw7 qa qb ⟨HRG.out.1.2, HRG.out.1.1⟩ ⟨HRG.out.2.2, HRG.out.2.1⟩ hd ⟨L, u, HQU.out⟩)
     have HBW7 := Lib.hid hbw7
     have HX7 := Lib.hid hX7
     have HB7 := Lib.hid hB7
     have hs7 : pb + 1 ≤ w7.heap.size := by have := hg7.size; omega
     have z0 := hX7.cell 0 rfl
     have z1 := hX7.cell 1 rfl
     rw [HWP.out] at hlk hup
     rw [HPB.out] at z0 z1
     clear hs hkn hkl hm7 hg7 hX7 hB7 hbw7
     rcases (show (¬ qa < 0) ∨ (qa < 0 ∧ ¬ qb < 0) from by omega) with hd1 | ⟨hd1, hd2⟩
     all_goals (
      clear hd
      go_wp2_with fail
      refine Calls.mono HFC.out ?_
      rintro e w8 ⟨r, rfl, hr, hb8⟩
      have HR := Lib.hid hr
      have HBW8 := Lib.hid (HBW7.out.trans (hb8.mono HBW7.out.size))
      have HB8 := Lib.hid (HB7.out.trans (hb8.mono (by omega)))
      have HX8 := Lib.hid (HX7.out.below hb8)
      have HQ8 := Lib.hid (HQ7.out.below hb8)
      have HTR8 := Lib.hid (owns_below HTR7.out hb8)
      have HM8 := Lib.hid (HM7.out.below hb8)
      have hs8 : pb + 1 ≤ w8.heap.size := Nat.le_trans hs7 hb8.size
      clear hr hb8 hlk hup z0 z1 hsl c0 c1 c2
      rw [← HPB.out]
      cases r with
      | true =>
       have z2 := HX8.out.cell 2 rfl
       go_wp2
       go_ret2
       have hF2 : F (difS x y L u) := by rw [HQU.out]; exact HR.out.1 (by first | rfl | trivial)
       have hle : w.heap.size ≤ B := by rw [HBB.out]; exact HBW4.out.size
       refine ⟨HBW8.out, true, txtsOf L u, _, rfl, ?_, ?_⟩
       ·rw [← HL.out]
        have h := HST.out
        rw [HLN.out] at h
        exact FSt.least (seen := seen) (Q := ns.map Prod.fst) HVX.out HVY.out h HND.out hF2
       ·have h := own_lower HTR8.out hle
        unfold OwnStrs
        rw [show (txtsOf L u).length = TL from by rw [HTL.out]; simp [txtsOf]]
        exact h
      | false =>
       have HNF : Hid (¬ F (difS x y L u)) := by
        unfold Hid
        rw [HQU.out]
        intro h
        have := HR.out.2 h
        cases this
       have HTK : Hid (FSt x y L (LL - 1) F (seen ++ [u]) (ns.map Prod.fst ++ (List.range (LL - 1)).map (· :: u))) := HST.out.take HND.out HNS.out HNF.out
       have hne0 : some pb ≠ (Value.slice (some pk2) N (cap - 1)).ownBlock := by
        intro e
        have h1 : pb = pk2.block := by simpa [Value.ownBlock] using e
        rw [HPKB.out] at h1
        have := HPB.out
        omega
       clear HR HB7 HX7 HQ7 HTR7 HM7 HMP HBP HTR HQP HXP HFC HKS HBW7 HNS HND HNF
       go_wp2
       go_loopw [10, 71] (fun v10 v71 wr => ∃ (k : Nat) (ms : List (List Nat × Value)), v71 = .int .i64 k ∧ k ≤ LL - 1 ∧ ms.map Prod.fst = ns.map Prod.fst ++ (List.range k).map (· :: u) ∧ ms.length = N + k ∧ OwnQ B wr x y L v10 ms ∧ SetMap wr B ((seen ++ [u]).map fun u => key2 (difS x y L u)) ∧ Below B w4 wr
        ∧ Blk wr pb [.int .i64 qa, .int .i64 qb, .slice ta TL tc] 114 ∧ some pb ≠ v10.ownBlock ∧ wr.ownsRow B 9 1 (.slice ta TL tc) TL (txts (txtsOf L u))) (fun _ v71 _ => LL - (intOf v71).toNat)
       case atStart => exact ⟨0, ns, rfl, Nat.zero_le _, by simp, by rw [HN.out]; rfl, HQ8.out, HM8.out, HB8.out, HX8.out, hne0, HTR8.out⟩
       case round =>
        clear HQ8 HM8 HB8 HX8 hne0 HTR8 HBW8
        obtain ⟨k, ms, rfl, hk, hmf, hml, hoq, hsm, hbl, hxp, hne, htr⟩ := hrel
        obtain ⟨wD, rfl⟩ : ∃ wD : World, wD = wr := ⟨_, rfl⟩
        have HMF := Lib.hid hmf
        have HML := Lib.hid hml
        have HOQ := Lib.hid hoq
        have HSM := Lib.hid hsm
        have HBL := Lib.hid hbl
        have HXD := Lib.hid hxp
        have HTD := Lib.hid htr
        have HNE := Lib.hid hne
        obtain ⟨ma, mc, rfl⟩ := hoq.form
        obtain ⟨M, hM⟩ : ∃ M, M = ms.length := ⟨_, rfl⟩
        rw [← hM] at HOQ HNE hml ⊢
        have HMM := Lib.hid hM
        have HMN : Hid (M = N + k) := hml
        have hM1 : M ≤ 41000 := by omega
        clear hmf hoq hsm hxp hne htr hM hml
        by_cases hlt : k < LL - 1
        ·have hpk' : pk = ⟨bl, 1, none⟩ := by rw [HPK.out, if_neg (by omega), Addr.add_lit]
         subst hpk'
         obtain ⟨l, hl⟩ : ∃ l, l = labK L k := ⟨_, rfl⟩
         have hbD : Below w4.heap.size w4 wD := by have h := HBL.out; rw [HBB.out] at h; exact h
         have c9 : wD.cell? ⟨bl, 1 + k, none⟩ = some (.string l) := by
          have hlL : k + 1 < L.length := by rw [← HLN.out]; omega
          rw [(owns_below HOL.out hbD).cellAt (1 + k) (by omega), List.getElem?_map, show 1 + k = k + 1 from by omega, List.getElem?_eq_getElem hlL, hl]
          unfold labK
          rw [List.getD_eq_getElem?_getD, List.getElem?_eq_getElem hlL]
          rfl
         have hblD : bl < wD.heap.size := by have := HBL.out.size; have := HBB.out; omega
         have hpbD := HXD.out.lt
         have hszD : B ≤ wD.heap.size := by omega
         obtain ⟨rx, hrx⟩ : ∃ rx, rx = goTo x qa l := ⟨_, rfl⟩
         obtain ⟨ry, hry⟩ : ∃ ry, ry = goTo y qb l := ⟨_, rfl⟩
         have hbwD : Below w.heap.size w wD := HBW4.out.trans (hbD.mono HBW4.out.size)
         have HXX := Lib.hid (HX4.out.below hbD)
         have HYY := Lib.hid (HY4.out.below hbD)
         have HSTX : Hid (∀ w', Below wD.heap.size wD w' → Calls Tryz.prog 80 #[(Value.agg #[Value.int .i64 x.states, Value.int .i64 0, Value.slice ax n1 cx, ex]), .int .i64 qa, .string l] w' fun e w'' => e = .returned (.int .i64 rx) ∧ Below w'.heap.size w' w'') := fun w' hb => by
          have hbw := hbwD.trans (hb.mono hbwD.size)
          have h := step_any lo x (.slice ax n1 cx) ex qa l w' HVX.out HSX.out (HIX.out.1.below hbw) (HIX.out.2.below hbw)
          rw [HXI.out, ← hrx] at h
          exact h
         have HSTY : Hid (∀ w', Below wD.heap.size wD w' → Calls Tryz.prog 80 #[(Value.agg #[Value.int .i64 y.states, Value.int .i64 0, Value.slice ay n2 cy, ey]), .int .i64 qb, .string l] w' fun e w'' => e = .returned (.int .i64 ry) ∧ Below w'.heap.size w' w'') := fun w' hb => by
          have hbw := hbwD.trans (hb.mono hbwD.size)
          have h := step_any lo y (.slice ay n2 cy) ey qb l w' HVY.out HSY.out (HIY.out.1.below hbw) (HIY.out.2.below hbw)
          rw [HYI.out, ← hry] at h
          exact h
         obtain ⟨GE, hGE⟩ : ∃ GE, GE = wD.heap.size := ⟨_, rfl⟩
         have HCL : Hid (∀ w', Below wD.heap.size wD w' → Calls Tryz.prog 81 #[.slice ta TL tc] w' fun e w'' => ∃ v', e = .returned v' ∧ w''.ownsRow GE 9 1 v' TL (txts (txtsOf L u)) ∧ Below w'.heap.size w' w'') := fun w' hb => by
          have hlt2 : (txtsOf L u).length = TL := by rw [HTL.out]; simp [txtsOf]
          have h1 : SliceK 1 encS B w' (.slice ta TL tc) (txtsOf L u) := SliceK.of_owns (e := 9) encS_len hlt2.symm (by rw [flat_encS]; exact owns_below HTD.out hb)
          refine (CloneS_own B _ (txtsOf L u) w' h1 (by omega)).mono ?_
          rintro e w'' ⟨v', rfl, ho, hb2⟩
          refine ⟨v', rfl, ?_, hb2⟩
          rw [hlt2] at ho
          rw [hGE]
          exact own_lower ho hb.size
         have HSW : Hid (∀ w', Below wD.heap.size wD w' → w'.cell? ⟨pb, 0, none⟩ = some (.int .i64 qa) ∧ w'.cell? ⟨pb, 1, none⟩ = some (.int .i64 qb) ∧ w'.cell? ⟨pb, 2, none⟩ = some (.slice ta TL tc) ∧ w'.cell? ⟨xb, 0, none⟩ = some (.int .i64 x.states) ∧ w'.cell? ⟨xb, 1, none⟩ = some (.int .i64 0) ∧ w'.cell? ⟨xb, 2, none⟩ = some (.slice ax n1 cx) ∧ w'.cell? ⟨xb, 3, none⟩ = some ex ∧ w'.cell? ⟨xb + 1, 0, none⟩ = some (.int .i64 y.states) ∧ w'.cell? ⟨xb + 1, 1, none⟩ = some (.int .i64 0) ∧ w'.cell? ⟨xb + 1, 2, none⟩ = some (.slice ay n2 cy) ∧ w'.cell? ⟨xb + 1, 3, none⟩ = some ey) := fun w' hb =>
          ⟨keeps hb hpbD (HXD.out.cell 0 rfl), keeps hb hpbD (HXD.out.cell 1 rfl), keeps hb hpbD (HXD.out.cell 2 rfl), keeps hb HXX.out.lt (HXX.out.cell 0 rfl), keeps hb HXX.out.lt (HXX.out.cell 1 rfl), keeps hb HXX.out.lt (HXX.out.cell 2 rfl), keeps hb HXX.out.lt (HXX.out.cell 3 rfl),
           keeps hb HYY.out.lt (HYY.out.cell 0 rfl), keeps hb HYY.out.lt (HYY.out.cell 1 rfl), keeps hb HYY.out.lt (HYY.out.cell 2 rfl), keeps hb HYY.out.lt (HYY.out.cell 3 rfl)⟩
         have hD : Below wD.heap.size wD wD.drew := (Below.refl _ _).drew
         have hDA : ∀ o, Below wD.heap.size wD (wD.drew.alloc o) := fun o => hD.alloc (by simp) _
         have HD := Lib.hid hD
         have HDA := Lib.hid hDA
         have HGE := Lib.hid hGE
         have HRX := Lib.hid hrx
         have HRY := Lib.hid hry
         have HLB := Lib.hid hl
         have HBWD := Lib.hid hbwD
         have HSZ : Hid (GE ≤ wD.heap.size ∧ B ≤ wD.heap.size ∧ pb < wD.heap.size ∧ xb < wD.heap.size ∧ xb + 1 < wD.heap.size ∧ bl < wD.heap.size) := by
          have h1 := HXX.out.lt
          have h2 := HYY.out.lt
          unfold Hid; omega
         obtain ⟨i1, hi1, hz10, hz11, hz12⟩ := info_parts info_strF
         obtain ⟨i2, hi2, hz20, hz21, hz22⟩ := info_parts info_pairF
         clear hl hbD hrx hry hbwD hGE hD hDA hbl
         go_wp2
         go_region_held3 (fun w' => w'.cell? ⟨pb, 0, none⟩ = some (.int .i64 qa) ∧ w'.cell? ⟨pb, 1, none⟩ = some (.int .i64 qb) ∧ w'.cell? ⟨pb, 2, none⟩ = some (.slice ta TL tc) ∧ w'.cell? ⟨xb, 0, none⟩ = some (.int .i64 x.states) ∧ w'.cell? ⟨xb, 1, none⟩ = some (.int .i64 0) ∧ w'.cell? ⟨xb, 2, none⟩ = some (.slice ax n1 cx) ∧ w'.cell? ⟨xb, 3, none⟩ = some ex ∧ w'.cell? ⟨xb + 1, 0, none⟩ = some (.int .i64 y.states) ∧ w'.cell? ⟨xb + 1, 1, none⟩ = some (.int .i64 0) ∧ w'.cell? ⟨xb + 1, 2, none⟩ = some (.slice ay n2 cy) ∧ w'.cell? ⟨xb + 1, 3, none⟩ = some ey)
          (first
           | exact HSW.out _ HD.out
           | exact HSW.out _ (HDA.out _)
           | exact HSW.out _ hqa9
           | exact HSW.out _ (hqa9.alloc hsa9 _)
           | exact HSW.out _ hqb9
           | exact HSW.out _ (hqb9.alloc hsb9 _)
           | exact HSW.out _ hq9
           | exact HSW.out _ (hq9.alloc hs9 _)
           | exact HSW.out _ hq5
           | exact HSW.out _ (hq5.alloc hs5 _)
           | exact hS6
           | go_keep)
          (first
           | (go_at_call_of 80 (Value.agg #[Value.int .i64 x.states, Value.int .i64 0, Value.slice ax n1 cx, ex]); refine Calls.mono (HSTX.out _ (by first | exact HD.out | exact HDA.out _)) ?_; rintro e wa ⟨rfl, hba⟩; have hqa9 : Below wD.heap.size wD wa := (by first | exact HD.out.trans (hba.mono (by simp)) | exact (HDA.out _).trans (hba.mono (by simp))); have hsa9 := hqa9.size)
           | (go_at_call_of 80 (Value.agg #[Value.int .i64 y.states, Value.int .i64 0, Value.slice ay n2 cy, ey]); refine Calls.mono (HSTY.out _ (by first | exact hqa9 | exact hqa9.alloc hsa9 _)) ?_; rintro e wb ⟨rfl, hbb⟩; have hqb9 : Below wD.heap.size wD wb := (by first | exact hqa9.trans (hbb.mono hsa9) | exact (hqa9.alloc hsa9 _).trans (hbb.mono (by simp; omega))); have hsb9 := hqb9.size)
           | (go_at_call 81; refine Calls.mono (HCL.out _ (by first | exact hqb9 | exact hqb9.alloc hsb9 _)) ?_; rintro e w9 ⟨cv9, rfl, hoC, hbC⟩; have hq9 : Below wD.heap.size wD w9 := (by first | exact hqb9.trans (hbC.mono hsb9) | exact (hqb9.alloc hsb9 _).trans (hbC.mono (by simp; omega))); have hs9 := hq9.size; have HOC := Lib.hid hoC)
           | ((with_reducible (have hV : Below (World.alloc wb (.cells #[.string l] 9)).heap.size (World.alloc wb (.cells #[.string l] 9)) w9 := hbC)); refine step_append_lies _ (by rfl) _ _ 24 (by rfl) GE 9 i1 _ 1 16 Tryz.underlying24 hi1 hz10 hz11 hz12 rfl (by omega) cv9 TL (txts (txtsOf L u)) (by rfl) HOC.out ⟨wb.heap.size, 0, none⟩ 1 1 [.string l] (by rfl) (by rfl) (World.news_of_block (cs := #[.string l]) (t := 9) (fr := (0, 0)) ((hbC.block wb.heap.size (by simp)).trans (heap_alloc_new wb _))) (by simp [Value.oneCell']) (by omega) (by simp [maxLen]; omega) (by omega) (by have := HSZ.out; first | omega | (simp; omega)) w9.heap.size (by rfl) ?_; intro gg1 cap1 w5 hown5 hgrow5 hat5 hlt5; have hq5 : Below wD.heap.size wD w5 := (hq9.grown hgrow5 (by first | omega | (simp; omega)) (fun b e => by have := (HOC.out.lt b e).1; have := HSZ.out; have := HGE.out; omega)); have hs5 := hq5.size; have HO5 := Lib.hid hown5)
           | ((with_reducible (have hV : Below (World.alloc wa (.cells #[.string l] 9)).heap.size (World.alloc wa (.cells #[.string l] 9)) wb := hbb)); refine step_append_lies _ (by rfl) _ _ 24 (by rfl) GE 9 i1 _ 1 16 Tryz.underlying24 hi1 hz10 hz11 hz12 rfl (by omega) cv9 TL (txts (txtsOf L u)) (by rfl) HOC.out ⟨wa.heap.size, 0, none⟩ 1 1 [.string l] (by rfl) (by rfl) (World.news_of_block (cs := #[.string l]) (t := 9) (fr := (0, 0)) ((hbC.block wa.heap.size (by have h9 := hbb.size; simp at h9; omega)).trans ((hbb.block wa.heap.size (by simp)).trans (heap_alloc_new wa _)))) (by simp [Value.oneCell']) (by omega) (by simp [maxLen]; omega) (by omega) (by have := HSZ.out; first | omega | (simp; omega)) w9.heap.size (by rfl) ?_; intro gg1 cap1 w5 hown5 hgrow5 hat5 hlt5; have hq5 : Below wD.heap.size wD w5 := (hq9.grown hgrow5 (by first | omega | (simp; omega)) (fun b e => by have := (HOC.out.lt b e).1; have := HSZ.out; have := HGE.out; omega)); have hs5 := hq5.size; have HO5 := Lib.hid hown5)
           | ((with_reducible (have hV : Below (World.drew (World.alloc wD (.cells #[.string l] 9))).heap.size (World.drew (World.alloc wD (.cells #[.string l] 9))) wa := hba)); refine step_append_lies _ (by rfl) _ _ 24 (by rfl) GE 9 i1 _ 1 16 Tryz.underlying24 hi1 hz10 hz11 hz12 rfl (by omega) cv9 TL (txts (txtsOf L u)) (by rfl) HOC.out ⟨wD.heap.size, 0, none⟩ 1 1 [.string l] (by rfl) (by rfl) (World.news_of_block (cs := #[.string l]) (t := 9) (fr := (0, 0)) ((hbC.block wD.heap.size (by have h8 := hba.size; have h9 := hbb.size; simp at h8; omega)).trans ((hbb.block wD.heap.size (by have h8 := hba.size; simp at h8; omega)).trans ((hba.block wD.heap.size (by simp)).trans (heap_alloc_new wD.drew _))))) (by simp [Value.oneCell']) (by omega) (by simp [maxLen]; omega) (by omega) (by have := HSZ.out; first | omega | (simp; omega)) w9.heap.size (by rfl) ?_; intro gg1 cap1 w5 hown5 hgrow5 hat5 hlt5; have hq5 : Below wD.heap.size wD w5 := (hq9.grown hgrow5 (by first | omega | (simp; omega)) (fun b e => by have := (HOC.out.lt b e).1; have := HSZ.out; have := HGE.out; omega)); have hs5 := hq5.size; have HO5 := Lib.hid hown5)
           | (refine step_append_lies _ (by rfl) _ _ 24 (by rfl) GE 9 i1 _ 1 16 Tryz.underlying24 hi1 hz10 hz11 hz12 rfl (by omega) cv9 TL (txts (txtsOf L u)) (by rfl) (HOC.out.alloc _) ⟨w9.heap.size, 0, none⟩ 1 1 [.string l] (by rfl) (by rfl) (World.news_of_block (cs := #[.string l]) (t := 9) (fr := (0, 0)) (heap_alloc_new _ _)) (by simp [Value.oneCell']) (by omega) (by simp [maxLen]; omega) (by omega) (by have := HSZ.out; first | omega | (simp; omega)) (w9.heap.size + 1) (by simp) ?_; intro gg1 cap1 w5 hown5 hgrow5 hat5 hlt5; have hq5 : Below wD.heap.size wD w5 := ((hq9.alloc hs9 _).grown hgrow5 (by first | omega | (simp; omega)) (fun b e => by have := (HOC.out.lt b e).1; have := HSZ.out; have := HGE.out; omega)); have hs5 := hq5.size; have HO5 := Lib.hid hown5)
           | (refine step_append_tail _ (by rfl) _ _ 115 (by rfl) B 114 i2 _ 3 40 Tryz.underlying115 hi2 hz20 hz21 hz22 rfl (by omega) (.slice ma M mc) M (ms.flatMap (encQ x y L)) (by rfl) (by have h := (HOQ.out.below (hq5.alloc hs5 (.cells #[.int .i64 rx, .int .i64 ry, .slice (some ⟨gg1, 0, none⟩) (TL + 1) cap1] 114))).all; rw [← HMM.out] at h; exact h) ⟨w5.heap.size, 0, none⟩ [.int .i64 rx, .int .i64 ry, .slice (some ⟨gg1, 0, none⟩) (TL + 1) cap1] (by rfl) (by rfl) (World.news_of_block (cs := #[.int .i64 rx, .int .i64 ry, .slice (some ⟨gg1, 0, none⟩) (TL + 1) cap1]) (t := 114) (fr := (0, 0)) (heap_alloc_new _ _)) (by simp [Value.oneCell']) (by simp [maxLen]; omega) (by omega) (by have := HSZ.out; first | omega | (simp; omega)) ?_; intro gg2 off2 cap2 w6 hown6 hgrow6 hat6 hlt6; have hqA : Below wD.heap.size wD (w5.alloc (.cells #[.int .i64 rx, .int .i64 ry, .slice (some ⟨gg1, 0, none⟩) (TL + 1) cap1] 114)) := hq5.alloc hs5 _; have HQA := Lib.hid hqA; have hAl := (HOQ.out.below hqA).all; have hne1 := hAl.blk_far (HXX.out.below hqA) (by decide); have hne2 := hAl.blk_far (HYY.out.below hqA) (by decide); have hsA := HSW.out _ hqA; have hS6 : w6.cell? ⟨pb, 0, none⟩ = some (.int .i64 qa) ∧ w6.cell? ⟨pb, 1, none⟩ = some (.int .i64 qb) ∧ w6.cell? ⟨pb, 2, none⟩ = some (.slice ta TL tc) ∧ w6.cell? ⟨xb, 0, none⟩ = some (.int .i64 x.states) ∧ w6.cell? ⟨xb, 1, none⟩ = some (.int .i64 0) ∧ w6.cell? ⟨xb, 2, none⟩ = some (.slice ax n1 cx) ∧ w6.cell? ⟨xb, 3, none⟩ = some ex ∧ w6.cell? ⟨xb + 1, 0, none⟩ = some (.int .i64 y.states) ∧ w6.cell? ⟨xb + 1, 1, none⟩ = some (.int .i64 0) ∧ w6.cell? ⟨xb + 1, 2, none⟩ = some (.slice ay n2 cy) ∧ w6.cell? ⟨xb + 1, 3, none⟩ = some ey := ⟨(hgrow6.cell_far ⟨pb, 0, none⟩ (by have := HSZ.out; first | omega | (simp; omega)) HNE.out).trans hsA.1, (hgrow6.cell_far ⟨pb, 1, none⟩ (by have := HSZ.out; first | omega | (simp; omega)) HNE.out).trans hsA.2.1, (hgrow6.cell_far ⟨pb, 2, none⟩ (by have := HSZ.out; first | omega | (simp; omega)) HNE.out).trans hsA.2.2.1, (hgrow6.cell_far ⟨xb, 0, none⟩ (by have := HSZ.out; first | omega | (simp; omega)) hne1).trans hsA.2.2.2.1, (hgrow6.cell_far ⟨xb, 1, none⟩ (by have := HSZ.out; first | omega | (simp; omega)) hne1).trans hsA.2.2.2.2.1, (hgrow6.cell_far ⟨xb, 2, none⟩ (by have := HSZ.out; first | omega | (simp; omega)) hne1).trans hsA.2.2.2.2.2.1, (hgrow6.cell_far ⟨xb, 3, none⟩ (by have := HSZ.out; first | omega | (simp; omega)) hne1).trans hsA.2.2.2.2.2.2.1, (hgrow6.cell_far ⟨xb + 1, 0, none⟩ (by have := HSZ.out; first | omega | (simp; omega)) hne2).trans hsA.2.2.2.2.2.2.2.1, (hgrow6.cell_far ⟨xb + 1, 1, none⟩ (by have := HSZ.out; first | omega | (simp; omega)) hne2).trans hsA.2.2.2.2.2.2.2.2.1, (hgrow6.cell_far ⟨xb + 1, 2, none⟩ (by have := HSZ.out; first | omega | (simp; omega)) hne2).trans hsA.2.2.2.2.2.2.2.2.2.1, (hgrow6.cell_far ⟨xb + 1, 3, none⟩ (by have := HSZ.out; first | omega | (simp; omega)) hne2).trans hsA.2.2.2.2.2.2.2.2.2.2⟩)
           | fail)
         all_goals (
          have hqS := HQA.out.size
          have hszW : B ≤ wD.heap.size := HSZ.out.2.1
          have HPU : Hid (OwnQ B w6 x y L (.slice (some ⟨gg2, off2, none⟩) (M + 1) cap2) (ms ++ [(k :: u, .slice (some ⟨gg1, 0, none⟩) (TL + 1) cap1)])) := by
           refine OwnQ.push HOQ.out HQA.out ?_ hgrow6 ?_
           ·have h := own_lower (HO5.out.alloc (.cells #[.int .i64 rx, .int .i64 ry, .slice (some ⟨gg1, 0, none⟩) (TL + 1) cap1] 114)) (show B ≤ GE from by have := HGE.out; omega)
            rw [List.length_cons, ← HTL.out, txtsOf_cons, ← HLB.out]
            simpa [txts] using h
           ·rw [← HMM.out, HQU.out, ← HLB.out]
            simp only
            rw [← HRX.out, ← HRY.out]
            exact hown6
          have hsmA := HSM.out.below HQA.out
          have HM6 := Lib.hid (hsmA.kept hgrow6 (hAl.map_far hsmA))
          have HB6 : Hid (Below B w4 w6) := (HBL.out.trans (HQA.out.mono hszW)).grown hgrow6 (Nat.le_trans hszW hqS) (fun b e => (hAl.lt b e).1)
          have HX6 : Hid (Blk w6 pb [.int .i64 qa, .int .i64 qb, .slice ta TL tc] 114) := (hgrow6.block pb (by have := HSZ.out; omega) HNE.out).trans (HXD.out.below HQA.out)
          have HN6 : Hid (some pb ≠ (Value.slice (some ⟨gg2, off2, none⟩) (M + 1) cap2).ownBlock) := by
           intro e
           have e2 : pb = gg2 := by simpa [Value.ownBlock] using e
           rcases hat6 with h | h
           ·exact HNE.out (by rw [h, e2])
           ·have := HSZ.out; omega
          have htA := owns_below HTD.out HQA.out
          have HT6 := Lib.hid (htA.kept hgrow6 (hAl.type_far htA (by decide)))
          have HMS : Hid ((ms ++ [(k :: u, Value.slice (some ⟨gg1, 0, none⟩) (TL + 1) cap1)]).map Prod.fst = ns.map Prod.fst ++ (List.range (k + 1)).map (· :: u)) := by
           unfold Hid
           rw [List.map_append, HMF.out, List.range_succ, List.map_append, List.append_assoc]
           rfl
          have HLS : Hid ((ms ++ [(k :: u, Value.slice (some ⟨gg1, 0, none⟩) (TL + 1) cap1)]).length = N + (k + 1)) := by
           have h1 := HMN.out
           unfold Hid
           rw [List.length_append, ← HMM.out, List.length_singleton]
           omega
          obtain ⟨nsN, hnsN⟩ : ∃ nsN, nsN = ms ++ [(k :: u, Value.slice (some ⟨gg1, 0, none⟩) (TL + 1) cap1)] := ⟨_, rfl⟩
          rw [← hnsN] at HPU HMS HLS
          clear hown6 hgrow6 hat6 hlt6 hAl hne1 hne2 hsA hS6 hown5 hgrow5 hat5 hlt5 hoC hbC hq9 hs9 hq5 hs5 hqA hsmA htA hnsN hqS hszW hba hbb hqa9 hqb9 hsa9 hsb9
          go_wp2
          go_roundw
          case rel => exact ⟨k + 1, nsN, by go_num, by omega, HMS.out, HLS.out, HPU.out, HM6.out, HB6.out, HX6.out, HN6.out, HT6.out⟩
          case measure => simp [intOf]; omega)
        ·have hkk : k = LL - 1 := by omega
         have hmeas : (1700 - (seen ++ [u]).length) * 30 + ms.length ≤ gk - 1 := by
          have h1 := HML.out
          have h2 := HLM.out
          have h3 := hfew
          rw [List.length_append, List.length_singleton]
          omega
         have HME := Lib.hid hmeas
         clear hmeas hbl
         go_wp2
         go_roundg (gk - 1)
         case measure => have := HLM.out; omega
         case rel => exact ⟨seen ++ [u], ms, HOQ.out, by rw [HMF.out, hkk]; exact HTK.out, HSM.out, HBL.out, HME.out⟩)

end Go.Proofs.YthofaoabgbgbdaaGreatDoor

namespace Go.Proofs.YthofaoabgbgbdaaGreatDoor
open Go Go.RowKit

theorem info_arc : (Tryz.prog.info? 125).map (fun i => (i.zero, i.size, i.bytes)) = some (some (.agg #[.int .i64 0, .string ⟨#[]⟩, .int .i64 0]), 3, 32) := by kernel_rfl

end Go.Proofs.YthofaoabgbgbdaaGreatDoor
