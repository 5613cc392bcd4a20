/-
  The program's refine: one round of a partition.
-/
import Derived.Test.YtifoinannefcpaaGreatDoorA16
import Derived.Test.YtifoinannefcpaaGreatDoorA14
import Derived.Test.YtifoinannefcpaaGreatDoorA5
import Derived.Test.YtifoinannefcpaaGreatDoorA3
import Derived.Test.YtifoinannefcpaaGreatDoorA15
import Derived.BigRegion
namespace Go.Proofs.YtifoinannefcpaaGreatDoor
open Go Go.RowKit


theorem blk_own_neM {w : World} {b : Nat} {cs : List Value} {t : TypeId} (h : Blk w b cs t) {base e size n : Nat} {v : Value} {xs : List Value} (ho : w.ownsRow base e size v n xs) (he : e ≠ t) : some b ≠ v.ownBlock := by
 rcases own_type_ne ho h he with h1 | h1
 ·rw [h1]; exact fun e => by cases e
 ·exact fun e => h1 e.symm
theorem keys_store {lo k S G : Nat} {wC : World} {p : List Int} {kvs : List Value} {b : Int} (hb : b = p.getD k 0) (hp : p.length = S) (hk : k < S) (hlo : lo ≤ wC.heap.size) (hl : kvs.length = S)
  (h : OwnRows 32 2 lo wC (.slice (some ⟨G, 0, none⟩) S S) kvs (keys1 p S k)) :
  OwnRows 32 2 lo ((wC.alloc (.cells #[.int .i64 b] 2)).setCell ⟨G, k, none⟩ (.slice (some ⟨wC.heap.size, 0, none⟩) 1 1)) (.slice (some ⟨G, 0, none⟩) S S) (kvs.set k (.slice (some ⟨wC.heap.size, 0, none⟩) 1 1)) (keys1 p S (k + 1)) := by
 have hb1 : Below wC.heap.size wC (wC.alloc (.cells #[.int .i64 b] 2)) := (Below.refl _ _).alloc (Nat.le_refl _) _
 have h1 := (h.below hb1).2.1
 rw [hl] at h1
 have hst := h1.stored k (.slice (some ⟨wC.heap.size, 0, none⟩) 1 1)
 have hlit : (wC.alloc (.cells #[.int .i64 b] 2)).ownsRow wC.heap.size 2 1 (.slice (some ⟨wC.heap.size, 0, none⟩) 1 1) 1 [.int .i64 b] := World.ownsRow_lit (size := 1) wC #[.int .i64 b] 1 (Nat.le_refl _) (by decide) rfl
 have := OwnRows.lay (eo := 32) (ei := 2) (by decide) h k (by omega) hb1 (v' := .slice (some ⟨wC.heap.size, 0, none⟩) 1 1) (ys := [.int .i64 b]) hlit hlo hst.2 (by rw [hl]; exact hst.1)
 rw [hb, keys1_set hp hk, ← hb] at this
 exact this

theorem rows_store {lo n j G : Nat} {w w1 : World} {vs : List Value} {xss : List (List Value)} {v' : Value} {ys : List Value} (hn : vs.length = n) (h : OwnRows 32 2 lo w (.slice (some ⟨G, 0, none⟩) n n) vs xss) (hj : j < vs.length) (hj' : j < xss.length)
  (hg : w.grownBy w1 vs[j].ownBlock) (ho : w1.ownsRow lo 2 1 v' ys.length ys) (hb : ∀ b, v'.ownBlock = some b → vs[j].ownBlock = some b ∨ w.heap.size ≤ b) :
  OwnRows 32 2 lo (w1.setCell ⟨G, j, none⟩ v') (.slice (some ⟨G, 0, none⟩) n n) (vs.set j v') (xss.set j ys) ∧ w1.grownBy (w1.setCell ⟨G, j, none⟩ v') (some G) := by
 subst hn
 have h1 : w1.ownsRow lo 32 1 (.slice (some ⟨G, 0, none⟩) vs.length vs.length) vs.length vs := h.2.1.kept hg (own_types h.2.1 (h.2.2.1 j hj hj') (by decide))
 have hst := h1.stored j v'
 exact ⟨OwnRows.grow (by decide) h j hj hg ho hb hst.2 hst.1, hst.2⟩

set_option maxRecDepth 100000 in
set_option maxHeartbeats 8000000 in
theorem refine_any (lo lo2 S : Nat) (t : Lts) (p : List Int) (lv ev pv : Value) (w : World) (hv : Valid t) (hS : (S : Int) = t.states) (hp : InP t p) (he : SliceK 3 encE lo w ev t.edges) (hpv : SliceK 1 encI lo2 w pv p) :
  Calls Tryz.prog 55 #[.agg #[.int .i64 t.states, .int .i64 t.initial, lv, ev], pv] w (MadeNums (blocksL ((List.range S).map fun i => p.getD i 0 :: sgT t p i)) w) := by
 have hs0 := hv.st0
 have hs1 := hv.st1
 have hS40 : S ≤ 40 := by omega
 have hS1 : 1 ≤ S := by omega
 have hpl : p.length = S := by rw [hp.1]; omega
 obtain ⟨ap, cp, rfl, hpc, hpc2, hprow⟩ := hpv
 obtain ⟨pb, po, rfl, hpb, hpcell⟩ : ∃ pb po, ap = some ⟨pb, po, none⟩ ∧ pb < w.heap.size ∧ ∀ i, i < S → w.cell? ⟨pb, po + i, none⟩ = some (.int .i64 (p.getD i 0)) := by
  rcases hprow with h | ⟨bl, ol, h1, -, h3, h4⟩
  ·omega
  ·refine ⟨bl, ol, h1, h3, fun i hi => ?_⟩
   have := h4 i (by omega) 0 (by omega)
   rw [List.getD_eq_getElem?_getD, List.getElem?_eq_getElem (show i < p.length by omega)]
   simpa [encI] using this
 rw [hpl] at hpc ⊢
 rw [← hS]
 obtain ⟨ae, ce, rfl, hen, hec, hrow⟩ := he
 have HROW := Lib.hid hrow
 have HPC := Lib.hid hpcell
 have HV := Lib.hid hv
 have HP := Lib.hid hp
 have HPL := Lib.hid hpl
 have HS := Lib.hid hS
 have hE := hv.most
 obtain ⟨i1, hi1, hz10, hz11, hz12⟩ := info_parts info_int64N
 obtain ⟨i2, hi2, hz20, hz21, hz22⟩ := info_parts info_sliceL
 obtain ⟨tb, htb⟩ : ∃ tb, tb = w.heap.size := ⟨_, rfl⟩
 obtain ⟨W0, hW0⟩ : ∃ W0, W0 = w.alloc (.cells #[.int .i64 S, .int .i64 t.initial, lv, .slice ae t.edges.length ce] 27) := ⟨_, rfl⟩
 have hb0 : Below w.heap.size w W0 := by rw [hW0]; exact (Below.refl _ _).alloc (Nat.le_refl _) _
 have hT0 : Blk W0 tb [.int .i64 S, .int .i64 t.initial, lv, .slice ae t.edges.length ce] 27 := by rw [hW0, htb]; exact Blk.new w _ _
 have x0 := hT0.cell 0 rfl
 have HB0 := Lib.hid hb0
 have HT0 := Lib.hid hT0
 have HW0 := Lib.hid hW0
 have HTB := Lib.hid htb
 have hsz0 : w.heap.size ≤ W0.heap.size := hb0.size
 clear hrow hpcell hv hp hS hb0 hT0 hW0 htb hprow hpl
 go_enter Tryz.func55, Tryz.ntmps55
 go_wp2_with (at_make; (try rw [← HW0.out]); (try rw [← HTB.out]); refine wpList_make_full _ rfl _ _ 29 rfl w.heap.size 32 i2 _ 1 Tryz.underlying29 hi2 hz20 hz21 .i64 .i64 _ _ S rfl rfl rfl rfl ?_ ?_ ?_ ?_)
 ·rw [hz22]; omega
 ·simp [maxLen]; omega
 ·exact hsz0
 intro w1 ho hg
 rw [toList_madeCells_one] at ho
 have HB1 : Hid (Below w.heap.size w w1) := HB0.out.grown hg hsz0 (fun _ h => by cases h)
 have HT1 : Hid (Blk w1 tb [.int .i64 S, .int .i64 t.initial, lv, .slice ae t.edges.length ce] 27) := HT0.out.keptM hg (by simp)
 obtain ⟨G, hG⟩ : ∃ G, G = W0.heap.size := ⟨_, rfl⟩
 rw [← hG] at ho ⊢
 have HO1 : Hid (OwnRows 32 2 w.heap.size w1 (.slice (some ⟨G, 0, none⟩) S S) (List.replicate S (.slice none 0 0)) (keys1 p S 0)) := by
  unfold Hid
  rw [keys1_zero]
  exact OwnRows.nils ho
 clear ho hg hG x0 HB0 HT0 HW0
 go_wp2_with fail
 go_loopw [18] (fun v18 wr => ∃ (k : Nat) (kvs : List Value), k ≤ S ∧ v18 = .int .i64 k ∧ kvs.length = S ∧ Below w.heap.size w wr ∧ Blk wr tb [.int .i64 S, .int .i64 t.initial, lv, .slice ae t.edges.length ce] 27 ∧ OwnRows 32 2 w.heap.size wr (.slice (some ⟨G, 0, none⟩) S S) kvs (keys1 p S k)) (fun v18 _ => S - (intOf v18).toNat)
 case atStart => exact ⟨0, _, Nat.zero_le _, rfl, by simp, HB1.out, HT1.out, HO1.out⟩
 case round =>
  clear HB1 HT1 HO1
  obtain ⟨k, kvs, hk, rfl, hkl, hbl, ht, ho⟩ := hrel
  obtain ⟨wC, rfl⟩ : ∃ wC : World, wC = wr := ⟨_, rfl⟩
  have hszC : w.heap.size ≤ wC.heap.size := hbl.size
  have HKL := Lib.hid hkl
  have HBL := Lib.hid hbl
  have HT := Lib.hid ht
  have HO := Lib.hid ho
  by_cases hlt : k < S
  ·have hown := ho.2.1
   rw [hkl] at hown
   obtain ⟨hGw, hGz⟩ := hown.lt G rfl
   have f0 := hown.frozenAt k
   have z0 := hown.cellAt k (by omega)
   rw [List.getElem?_eq_getElem (show k < kvs.length by omega)] at z0
   have c0 := keeps hbl hpb (HPC.out k hlt)
   obtain ⟨b, hb⟩ : ∃ b, b = p.getD k 0 := ⟨_, rfl⟩
   rw [← hb] at c0
   obtain ⟨u0, hu0⟩ : ∃ u0, u0 = kvs[k]'(by omega) := ⟨_, rfl⟩
   rw [← hu0] at z0
   have hb1 : Below wC.heap.size wC (wC.alloc (.cells #[.int .i64 b] 2)) := (Below.refl _ _).alloc (Nat.le_refl _) _
   have hst := ((owns_below hown hb1).stored k (.slice (some ⟨wC.heap.size, 0, none⟩) 1 1)).2
   have HNX : Hid (OwnRows 32 2 w.heap.size ((wC.alloc (.cells #[.int .i64 b] 2)).setCell ⟨G, k, none⟩ (.slice (some ⟨wC.heap.size, 0, none⟩) 1 1)) (.slice (some ⟨G, 0, none⟩) S S) (kvs.set k (.slice (some ⟨wC.heap.size, 0, none⟩) 1 1)) (keys1 p S (k + 1))) := keys_store hb HPL.out hlt hszC hkl ho
   have HNB : Hid (Below w.heap.size w ((wC.alloc (.cells #[.int .i64 b] 2)).setCell ⟨G, k, none⟩ (.slice (some ⟨wC.heap.size, 0, none⟩) 1 1))) := (hbl.trans (hb1.mono hszC)).grown hst (by have := hb1.size; omega) (fun b e => by cases e; exact hGw)
   have HNT : Hid (Blk ((wC.alloc (.cells #[.int .i64 b] 2)).setCell ⟨G, k, none⟩ (.slice (some ⟨wC.heap.size, 0, none⟩) 1 1)) tb [.int .i64 S, .int .i64 t.initial, lv, .slice ae t.edges.length ce] 27) := (ht.alloc _).keptM hst (fun e => blk_own_neM ht hown (by decide) e.symm)
   have hki : (k : Int) < (S : Int) := by omega
   have hcm := World.setCell_alloc_past (.cells #[.int .i64 b] 2) G k (.slice (some ⟨wC.heap.size, 0, none⟩) 1 1) hGz
   rw [hcm] at HNX HNB HNT
   clear hkl hbl ht ho hown hb hu0 hb1 hst hcm
   go_wp2_with fail
   go_roundw
   case rel => exact ⟨k + 1, _, by omega, by go_num, by rw [List.length_set]; exact HKL.out, HNB.out, HNT.out, HNX.out⟩
   case measure => simp [intOf]; omega
  ·obtain rfl : S = k := by omega
   clear hkl hbl ht ho
   have x0 := HT.out.cell 0 rfl
   go_wp2_with (at_make; refine wpList_make_full _ rfl _ _ 29 rfl wC.heap.size 32 i2 _ 1 Tryz.underlying29 hi2 hz20 hz21 .i64 .i64 _ _ S rfl rfl rfl rfl ?_ ?_ ?_ ?_)
   ·rw [hz22]; omega
   ·simp [maxLen]; omega
   ·exact Nat.le_refl _
   intro w2 ho hg
   rw [toList_madeCells_one] at ho
   have HB2 : Hid (Below wC.heap.size wC w2) := (Below.refl _ _).grown hg (Nat.le_refl _) (fun _ h => by cases h)
   obtain ⟨H, hH⟩ : ∃ H, H = wC.heap.size := ⟨_, rfl⟩
   have HO2 : Hid (OwnRows 32 2 wC.heap.size w2 (.slice (some ⟨H, 0, none⟩) S S) (List.replicate S (.slice none 0 0)) (rowsK t p S 0)) := by
    unfold Hid
    rw [rowsK_zero, hH]
    exact OwnRows.nils ho
   rw [← hH]
   have HH := Lib.hid hH
   have HKK : Hid (OwnRows 32 2 w.heap.size wC (.slice (some ⟨G, 0, none⟩) S S) kvs (keys1 p S S)) := HO
   have x3 := (HT.out.below HB2.out).cell 3 rfl
   clear ho hg hH x0 HO
   go_wp2_with fail
   go_loopw [35] (fun v35 wr => ∃ (k : Nat) (svs : List Value), k ≤ t.edges.length ∧ v35 = .int .i64 k ∧ svs.length = S ∧ Below wC.heap.size wC wr ∧ OwnRows 32 2 wC.heap.size wr (.slice (some ⟨H, 0, none⟩) S S) svs (rowsK t p S k)) (fun v35 _ => t.edges.length - (intOf v35).toNat)
   case atStart => exact ⟨0, _, Nat.zero_le _, rfl, by simp, HB2.out, HO2.out⟩
   case round =>
    clear HB2 HO2
    obtain ⟨k, svs, hk, rfl, hsl, hbl, ho⟩ := hrel
    obtain ⟨wD, rfl⟩ : ∃ wD : World, wD = wr := ⟨_, rfl⟩
    have hszD : wC.heap.size ≤ wD.heap.size := hbl.size
    have HSL := Lib.hid hsl
    have HBD := Lib.hid hbl
    have HO := Lib.hid ho
    have HBW : Hid (Below w.heap.size w wD) := HBL.out.trans (hbl.mono hszC)
    have HTD := Lib.hid (HT.out.below hbl)
    by_cases hlt : k < t.edges.length
    ·obtain ⟨be, oe, rfl, -, hbe, e1, e2, e3⟩ := (HROW.out.below HBW.out).edge hlt
     have hok := HV.out.edge k hlt
     obtain ⟨j, hj⟩ : ∃ j : Nat, t.edges[k].src = (j : Int) := ⟨t.edges[k].src.toNat, by have := hok.s0; omega⟩
     obtain ⟨d, hd⟩ : ∃ d : Nat, t.edges[k].dst = (d : Int) := ⟨t.edges[k].dst.toNat, by have := hok.d0; omega⟩
     obtain ⟨l, hl⟩ : ∃ l, l = t.edges[k].lab := ⟨_, rfl⟩
     have hjS : j < S := by have := hok.s1; have := HS.out; omega
     have hdS : d < S := by have := hok.d1; have := HS.out; omega
     have hl0 : 0 ≤ l := by rw [hl]; exact hok.l0
     have hl1 : l ≤ 12 := by have := hok.l1; have := HV.out.labels.most; omega
     rw [hj] at e1
     rw [← hl] at e2
     rw [hd] at e3
     obtain ⟨b, hb⟩ : ∃ b, b = p.getD d 0 := ⟨_, rfl⟩
     have hbr : 0 ≤ b ∧ b < (S : Int) := by
      have := HP.out.at (k := (d : Int)) (by omega) (by have := HS.out; omega)
      rw [hb]
      have h2 := HS.out
      simp only [Int.toNat_natCast] at this
      omega
     have c0 := keeps HBW.out hpb (HPC.out d hdS)
     rw [← hb] at c0
     have x0 := HTD.out.cell 0 rfl
     have htw := HTD.out.lt
     have HTW := Lib.hid HT.out.lt
     have hown := ho.2.1
     rw [hsl] at hown
     obtain ⟨hHw, hHz⟩ := hown.lt H rfl
     have f0 := hown.frozenAt j
     have z0 := hown.cellAt j (by omega)
     have hjl : j < svs.length := by omega
     rw [List.getElem?_eq_getElem hjl] at z0
     have hrw := ho.2.2.1 j hjl (by rw [rowsK_len]; omega)
     rw [rowsK_get] at hrw
     obtain ⟨rv, hrv⟩ : ∃ rv, rv = svs[j] := ⟨_, rfl⟩
     rw [← hrv] at z0 hrw
     obtain ⟨m, hm⟩ : ∃ m, m = ((rawK t p k j).map (Value.int .i64)).length := ⟨_, rfl⟩
     have hm3 : m ≤ k := by rw [hm, List.length_map]; exact rawK_len t p k j
     rw [← hm] at hrw
     have hwP : IntKind.i64.wrap (l * (S : Int)) = l * (S : Int) := IntWalk.i64_in _ (by
      have h1 : l * (S : Int) ≤ 12 * 40 := Int.mul_le_mul hl1 (by omega) (by omega) (by omega)
      have h2 : 0 ≤ l * (S : Int) := Int.mul_nonneg hl0 (by omega)
      omega)
     have hwQ : IntKind.i64.wrap (l * (S : Int) + b) = l * (S : Int) + b := IntWalk.i64_in _ (by
      have h1 : l * (S : Int) ≤ 12 * 40 := Int.mul_le_mul hl1 (by omega) (by omega) (by omega)
      have h2 : 0 ≤ l * (S : Int) := Int.mul_nonneg hl0 (by omega)
      omega)
     obtain ⟨ob, hob⟩ : ∃ ob, ob = wD.heap.size := ⟨_, rfl⟩
     obtain ⟨W5, hW5⟩ : ∃ W5, W5 = wD.alloc (.cells #[.int .i64 j, .int .i64 l, .int .i64 d] 62) := ⟨_, rfl⟩
     have hb5 : Below wD.heap.size wD W5 := by rw [hW5]; exact (Below.refl _ _).alloc (Nat.le_refl _) _
     have hE5 : Blk W5 ob [.int .i64 j, .int .i64 l, .int .i64 d] 62 := by rw [hW5, hob]; exact Blk.new wD _ _
     have y0 := hE5.cell 0 rfl
     have y1 := hE5.cell 1 rfl
     have y2 := hE5.cell 2 rfl
     have y3 := keeps hb5 htw x0
     have y4 := keeps hb5 hHz z0
     have y5 : W5.frozen? ⟨H, j, none⟩ = false := (hb5.frozen (p := ⟨H, j, none⟩) hHz).trans f0
     have y6 := keeps hb5 (by have := HBW.out.size; show pb < _; omega) c0
     have nebb : some H ≠ rv.ownBlock := fun e9 => by
      rcases own_types hown hrw (by decide) with h | h
      ·cases h
      ·exact h e9
     have neob : some ob ≠ rv.ownBlock := fun e9 => by
      have := (hrw.lt ob e9.symm).2
      omega
     have hob5 : ob < W5.heap.size := hE5.lt
     have hH5 : H < W5.heap.size := by have := hb5.size; omega
     have HOW := Lib.hid (owns_below hrw hb5)
     have HB5 := Lib.hid (HBD.out.trans (hb5.mono hszD))
     have HE5 := Lib.hid hE5
     have HO5 := Lib.hid (HO.out.below hb5)
     have HW5 := Lib.hid hW5
     have HOB := Lib.hid hob
     have HJ := Lib.hid hj
     have HD := Lib.hid hd
     have HL := Lib.hid hl
     have HB := Lib.hid hb
     have HRV := Lib.hid hrv
     have HM := Lib.hid hm
     have hki : (k : Int) < (t.edges.length : Int) := by omega
     have hji : (j : Int) < (S : Int) := by omega
     have hdi : (d : Int) < (S : Int) := by omega
     have hj0 : (0 : Int) ≤ (j : Int) := by omega
     have hd0 : (0 : Int) ≤ (d : Int) := by omega
     obtain ⟨arv, crv, hrv2, -, -⟩ := owns_slice hrw
     subst hrv2
     clear hsl hbl ho hok hj hd hl hb hown hrw hrv hm hob hW5 hb5 hE5 x0 z0 f0
     go_wp2_with fail
     rw [← HW5.out, ← HOB.out]
     have hpb5 : pb < W5.heap.size := by have := hszC; have := HB5.out.size; omega
     have htb5 : tb < W5.heap.size := by have := HB5.out.size; have := HTW.out; omega
     have nepb : some pb ≠ (Value.slice arv m crv).ownBlock := fun e9 => by
      have := (HOW.out.lt pb e9.symm).1
      omega
     have netb : some tb ≠ (Value.slice arv m crv).ownBlock := fun e9 => by
      have := (HOW.out.lt tb e9.symm).1
      have := HTB.out
      have := HTW.out
      omega
     have neHo : H ≠ ob := by have := HOB.out; omega
     have neHt : H ≠ tb := by have := HTW.out; omega
     have neHp : H ≠ pb := by omega
     have HZD : Hid (∀ o w', ((W5.alloc o).drew).grownBy w' (Value.slice arv m crv).ownBlock → w'.frozen? ⟨H, j, none⟩ = false ∧ w'.cell? ⟨ob, 0, none⟩ = some (.int .i64 j) ∧ w'.cell? ⟨ob, 1, none⟩ = some (.int .i64 l) ∧ w'.cell? ⟨ob, 2, none⟩ = some (.int .i64 d) ∧ w'.cell? ⟨tb, 0, none⟩ = some (.int .i64 S) ∧ w'.cell? ⟨pb, po + d, none⟩ = some (.int .i64 b) ∧ w'.cell? ⟨H, j, none⟩ = some (.slice arv m crv)) := fun o w' hg => by
      have hb : Below W5.heap.size W5 ((W5.alloc o).drew) := ((Below.refl _ _).alloc (Nat.le_refl _) _).drew
      exact ⟨(hg.frozen_far ⟨H, j, none⟩ (by simp; omega) nebb).trans ((hb.frozen (p := ⟨H, j, none⟩) hH5).trans y5),
       (hg.cell_far ⟨ob, 0, none⟩ (by simp; omega) neob).trans (keeps hb hob5 y0), (hg.cell_far ⟨ob, 1, none⟩ (by simp; omega) neob).trans (keeps hb hob5 y1), (hg.cell_far ⟨ob, 2, none⟩ (by simp; omega) neob).trans (keeps hb hob5 y2),
       (hg.cell_far ⟨tb, 0, none⟩ (by simp; omega) netb).trans (keeps hb htb5 y3), (hg.cell_far ⟨pb, po + d, none⟩ (by simp; omega) nepb).trans (keeps hb hpb5 y6), (hg.cell_far ⟨H, j, none⟩ (by simp; omega) nebb).trans (keeps hb hH5 y4)⟩
     clear hpb5 htb5 nepb netb
     have HSTO : Hid (∀ (w' : World) (v : Value), (w'.cell? ⟨ob, 0, none⟩ = some (.int .i64 j) ∧ w'.cell? ⟨ob, 1, none⟩ = some (.int .i64 l) ∧ w'.cell? ⟨ob, 2, none⟩ = some (.int .i64 d) ∧ w'.cell? ⟨tb, 0, none⟩ = some (.int .i64 S) ∧ w'.cell? ⟨pb, po + d, none⟩ = some (.int .i64 b)) → ((fun w' : World => w'.cell? ⟨ob, 0, none⟩ = some (.int .i64 j) ∧ w'.cell? ⟨ob, 1, none⟩ = some (.int .i64 l) ∧ w'.cell? ⟨ob, 2, none⟩ = some (.int .i64 d) ∧ w'.cell? ⟨tb, 0, none⟩ = some (.int .i64 S) ∧ w'.cell? ⟨pb, po + d, none⟩ = some (.int .i64 b)) (w'.setCell ⟨H, j, none⟩ v))) := fun w' v h => by
      obtain ⟨h0, h1, h2, h3, h4⟩ := h
      exact ⟨(World.cell?_setCell_far _ _ _ _ neHo).trans h0, (World.cell?_setCell_far _ _ _ _ neHo).trans h1, (World.cell?_setCell_far _ _ _ _ neHo).trans h2, (World.cell?_setCell_far _ _ _ _ neHt).trans h3, (World.cell?_setCell_far _ _ _ _ neHp).trans h4⟩
     refine wp_region_noPanic ?_
     refine wp_region_held_drew (S := fun w' => w'.cell? ⟨ob, 0, none⟩ = some (.int .i64 j) ∧ w'.cell? ⟨ob, 1, none⟩ = some (.int .i64 l) ∧ w'.cell? ⟨ob, 2, none⟩ = some (.int .i64 d) ∧ w'.cell? ⟨tb, 0, none⟩ = some (.int .i64 S) ∧ w'.cell? ⟨pb, po + d, none⟩ = some (.int .i64 b)) (by kernel_rfl) ?hS (fun hHeld => ?goon)
     case hS =>
      try dsimp only
      first
             | (refine ⟨?_, ?_, ?_, ?_, ?_⟩ <;> assumption)
             | (refine HSTO.out _ _ ?_; refine ⟨?_, ?_, ?_, ?_, ?_⟩ <;> assumption)
             | go_keep
     case goon =>
      refine wpAnyH_take (i := 0) (oi := ?oi1) (v := ?v1) ?ho1 ?ka1 ?kb1 ?kc1 (fun _ _ _ h => h) (Or.inl ⟨?wn1, ?hy1⟩) (by assumption) ?rest1
      case ho1 => (simp only [List.getElem?_toArray, List.getElem?_cons_zero]; rfl)
      case ka1 => kernel_rfl
      case kb1 => kernel_rfl
      case kc1 => kernel_rfl
      case wn1 => rfl
      case hy1 => (intro w hSw; (try dsimp only at hSw); first | (go_simp; done) | (go_simp; with_reducible rfl))
      case rest1 =>
       try simp only [Act.put, List.setIfInBounds_toArray, List.set_cons_zero, List.set_cons_succ]
       refine wpAnyH_take (i := 1) (oi := ?oi2) (v := ?v2) ?ho2 ?ka2 ?kb2 ?kc2 (fun _ _ _ h => h) (Or.inl ⟨?wn2, ?hy2⟩) (by assumption) ?rest2
       case ho2 => (simp only [List.getElem?_toArray, List.getElem?_cons_succ, List.getElem?_cons_zero]; rfl)
       case ka2 => kernel_rfl
       case kb2 => kernel_rfl
       case kc2 => kernel_rfl
       case wn2 => rfl
       case hy2 => (intro w hSw; (try dsimp only at hSw); first | (go_simp; done) | (go_simp; with_reducible rfl))
       case rest2 =>
        try simp only [Act.put, List.setIfInBounds_toArray, List.set_cons_zero, List.set_cons_succ]
        refine wpAnyH_take (i := 2) (oi := ?oi3) (v := ?v3) ?ho3 ?ka3 ?kb3 ?kc3 (fun _ _ _ h => h) (Or.inl ⟨?wn3, ?hy3⟩) (by assumption) ?rest3
        case ho3 => (simp only [List.getElem?_toArray, List.getElem?_cons_succ, List.getElem?_cons_zero]; rfl)
        case ka3 => kernel_rfl
        case kb3 => kernel_rfl
        case kc3 => kernel_rfl
        case wn3 => rfl
        case hy3 => (intro w hSw; (try dsimp only at hSw); first | (go_simp; done) | (go_simp; with_reducible rfl))
        case rest3 =>
         try simp only [Act.put, List.setIfInBounds_toArray, List.set_cons_zero, List.set_cons_succ]
         refine wpAnyH_take (i := 3) (oi := ?oi4) (v := ?v4) ?ho4 ?ka4 ?kb4 ?kc4 (fun _ _ _ h => h) (Or.inl ⟨?wn4, ?hy4⟩) (by assumption) ?rest4
         case ho4 => (simp only [List.getElem?_toArray, List.getElem?_cons_succ, List.getElem?_cons_zero]; rfl)
         case ka4 => kernel_rfl
         case kb4 => kernel_rfl
         case kc4 => kernel_rfl
         case wn4 => rfl
         case hy4 => (intro w hSw; (try dsimp only at hSw); first | (go_simp; done) | (go_simp; with_reducible rfl))
         case rest4 =>
          try simp only [Act.put, List.setIfInBounds_toArray, List.set_cons_zero, List.set_cons_succ]
          refine wpAnyH_take (i := 4) (oi := ?oi5) (v := ?v5) ?ho5 ?ka5 ?kb5 ?kc5 (fun _ _ _ h => h) (Or.inl ⟨?wn5, ?hy5⟩) (by assumption) ?rest5
          case ho5 => (simp only [List.getElem?_toArray, List.getElem?_cons_succ, List.getElem?_cons_zero]; rfl)
          case ka5 => kernel_rfl
          case kb5 => kernel_rfl
          case kc5 => kernel_rfl
          case wn5 => rfl
          case hy5 => (intro w hSw; (try dsimp only at hSw); first | (go_simp; done) | (go_simp; with_reducible rfl))
          case rest5 =>
           try simp only [Act.put, List.setIfInBounds_toArray, List.set_cons_zero, List.set_cons_succ]
           refine wpAnyH_take (i := 5) (oi := ?oi6) (v := ?v6) ?ho6 ?ka6 ?kb6 ?kc6 (fun _ _ _ h => h) (Or.inl ⟨?wn6, ?hy6⟩) (by assumption) ?rest6
           case ho6 => (simp only [List.getElem?_toArray, List.getElem?_cons_succ, List.getElem?_cons_zero]; rfl)
           case ka6 => kernel_rfl
           case kb6 => kernel_rfl
           case kc6 => kernel_rfl
           case wn6 => rfl
           case hy6 => (intro w hSw; (try dsimp only at hSw); first | (go_simp; done) | (go_simp; with_reducible rfl))
           case rest6 =>
            try simp only [Act.put, List.setIfInBounds_toArray, List.set_cons_zero, List.set_cons_succ]
            refine wpAnyH_take (i := 6) (oi := ?oi7) (v := ?v7) ?ho7 ?ka7 ?kb7 ?kc7 (fun _ _ _ h => h) (Or.inl ⟨?wn7, ?hy7⟩) (by assumption) ?rest7
            case ho7 => (simp only [List.getElem?_toArray, List.getElem?_cons_succ, List.getElem?_cons_zero]; rfl)
            case ka7 => kernel_rfl
            case kb7 => kernel_rfl
            case kc7 => kernel_rfl
            case wn7 => rfl
            case hy7 => (intro w hSw; (try dsimp only at hSw); first | (go_simp; done) | (go_simp; with_reducible rfl))
            case rest7 =>
             try simp only [Act.put, List.setIfInBounds_toArray, List.set_cons_zero, List.set_cons_succ]
             refine wpAnyH_take (i := 8) (oi := ?oi8) (v := ?v8) ?ho8 ?ka8 ?kb8 ?kc8 (fun _ _ _ h => h) (Or.inl ⟨?wn8, ?hy8⟩) (by assumption) ?rest8
             case ho8 => (simp only [List.getElem?_toArray, List.getElem?_cons_succ, List.getElem?_cons_zero]; rfl)
             case ka8 => kernel_rfl
             case kb8 => kernel_rfl
             case kc8 => kernel_rfl
             case wn8 => rfl
             case hy8 => (intro w hSw; (try dsimp only at hSw); first | (go_simp; done) | (go_simp; with_reducible rfl))
             case rest8 =>
              try simp only [Act.put, List.setIfInBounds_toArray, List.set_cons_zero, List.set_cons_succ]
              refine wpAnyH_take (i := 9) (oi := ?oi9) (v := ?v9) ?ho9 ?ka9 ?kb9 ?kc9 (fun _ _ _ h => h) (Or.inl ⟨?wn9, ?hy9⟩) (by assumption) ?rest9
              case ho9 => (simp only [List.getElem?_toArray, List.getElem?_cons_succ, List.getElem?_cons_zero]; rfl)
              case ka9 => kernel_rfl
              case kb9 => kernel_rfl
              case kc9 => kernel_rfl
              case wn9 => rfl
              case hy9 => (intro w hSw; (try dsimp only at hSw); first | (go_simp; done) | (go_simp; with_reducible rfl))
              case rest9 =>
               try simp only [Act.put, List.setIfInBounds_toArray, List.set_cons_zero, List.set_cons_succ]
               refine wpAnyH_take (i := 10) (oi := ?oi10) (v := ?v10) ?ho10 ?ka10 ?kb10 ?kc10 (fun _ _ _ h => h) (Or.inl ⟨?wn10, ?hy10⟩) (by assumption) ?rest10
               case ho10 => (simp only [List.getElem?_toArray, List.getElem?_cons_succ, List.getElem?_cons_zero]; rfl)
               case ka10 => kernel_rfl
               case kb10 => kernel_rfl
               case kc10 => kernel_rfl
               case wn10 => rfl
               case hy10 => (intro w hSw; (try dsimp only at hSw); first | (go_simp; done) | (go_simp; with_reducible rfl))
               case rest10 =>
                try simp only [Act.put, List.setIfInBounds_toArray, List.set_cons_zero, List.set_cons_succ]
                refine wpAnyH_take (i := 11) (oi := ?oi11) (v := ?v11) ?ho11 ?ka11 ?kb11 ?kc11 (fun _ _ _ h => h) (Or.inl ⟨?wn11, ?hy11⟩) (by assumption) ?rest11
                case ho11 => (simp only [List.getElem?_toArray, List.getElem?_cons_succ, List.getElem?_cons_zero]; rfl)
                case ka11 => kernel_rfl
                case kb11 => kernel_rfl
                case kc11 => kernel_rfl
                case wn11 => rfl
                case hy11 => (intro w hSw; (try dsimp only at hSw); first | (go_simp; done) | (go_simp; with_reducible rfl))
                case rest11 =>
                 try simp only [Act.put, List.setIfInBounds_toArray, List.set_cons_zero, List.set_cons_succ]
                 refine wpAnyH_take (i := 12) (oi := ?oi12) (v := ?v12) ?ho12 ?ka12 ?kb12 ?kc12 (fun _ _ _ h => h) (Or.inl ⟨?wn12, ?hy12⟩) (by assumption) ?rest12
                 case ho12 => (simp only [List.getElem?_toArray, List.getElem?_cons_succ, List.getElem?_cons_zero]; rfl)
                 case ka12 => kernel_rfl
                 case kb12 => kernel_rfl
                 case kc12 => kernel_rfl
                 case wn12 => rfl
                 case hy12 => (intro w hSw; (try dsimp only at hSw); first | (go_simp; done) | (go_simp; with_reducible rfl))
                 case rest12 =>
                  try simp only [Act.put, List.setIfInBounds_toArray, List.set_cons_zero, List.set_cons_succ]
                  refine wpAnyH_take (i := 13) (oi := ?oi13) (v := ?v13) ?ho13 ?ka13 ?kb13 ?kc13 (fun _ _ _ h => h) (Or.inl ⟨?wn13, ?hy13⟩) (by assumption) ?rest13
                  case ho13 => (simp only [List.getElem?_toArray, List.getElem?_cons_succ, List.getElem?_cons_zero]; rfl)
                  case ka13 => kernel_rfl
                  case kb13 => kernel_rfl
                  case kc13 => kernel_rfl
                  case wn13 => rfl
                  case hy13 => (intro w hSw; (try dsimp only at hSw); first | (go_simp; done) | (go_simp; with_reducible rfl))
                  case rest13 =>
                   try simp only [Act.put, List.setIfInBounds_toArray, List.set_cons_zero, List.set_cons_succ]
                   refine wpAnyH_take (i := 14) (oi := ?oi14) (v := ?v14) ?ho14 ?ka14 ?kb14 ?kc14 (fun _ _ _ h => h) (Or.inl ⟨?wn14, ?hy14⟩) (by assumption) ?rest14
                   case ho14 => (simp only [List.getElem?_toArray, List.getElem?_cons_succ, List.getElem?_cons_zero]; rfl)
                   case ka14 => kernel_rfl
                   case kb14 => kernel_rfl
                   case kc14 => kernel_rfl
                   case wn14 => rfl
                   case hy14 => (intro w hSw; (try dsimp only at hSw); first | (go_simp; done) | (go_simp; with_reducible rfl))
                   case rest14 =>
                    try simp only [Act.put, List.setIfInBounds_toArray, List.set_cons_zero, List.set_cons_succ]
                    refine wpAnyH_take (i := 15) (oi := ?oi15) (v := ?v15) ?ho15 ?ka15 ?kb15 ?kc15 (fun _ _ _ h => h) (Or.inl ⟨?wn15, ?hy15⟩) (by assumption) ?rest15
                    case ho15 => (simp only [List.getElem?_toArray, List.getElem?_cons_succ, List.getElem?_cons_zero]; rfl)
                    case ka15 => kernel_rfl
                    case kb15 => kernel_rfl
                    case kc15 => kernel_rfl
                    case wn15 => rfl
                    case hy15 => (intro w hSw; (try dsimp only at hSw); first | (go_simp; done) | (go_simp; with_reducible rfl))
                    case rest15 =>
                     try simp only [Act.put, List.setIfInBounds_toArray, List.set_cons_zero, List.set_cons_succ]
                     refine wpAnyH_take (i := 16) (oi := ?oi16) (v := ?v16) ?ho16 ?ka16 ?kb16 ?kc16 (fun _ _ _ h => h) (Or.inl ⟨?wn16, ?hy16⟩) (by assumption) ?rest16
                     case ho16 => (simp only [List.getElem?_toArray, List.getElem?_cons_succ, List.getElem?_cons_zero]; rfl)
                     case ka16 => kernel_rfl
                     case kb16 => kernel_rfl
                     case kc16 => kernel_rfl
                     case wn16 => rfl
                     case hy16 => (intro w hSw; (try dsimp only at hSw); first | (go_simp; done) | (go_simp; with_reducible rfl))
                     case rest16 =>
                      try simp only [Act.put, List.setIfInBounds_toArray, List.set_cons_zero, List.set_cons_succ]
                      refine wpAnyH_take (i := 17) (oi := ?oi17) (v := ?v17) ?ho17 ?ka17 ?kb17 ?kc17 (fun _ _ _ h => h) (Or.inl ⟨?wn17, ?hy17⟩) (by assumption) ?rest17
                      case ho17 => (simp only [List.getElem?_toArray, List.getElem?_cons_succ, List.getElem?_cons_zero]; rfl)
                      case ka17 => kernel_rfl
                      case kb17 => kernel_rfl
                      case kc17 => kernel_rfl
                      case wn17 => rfl
                      case hy17 => (intro w hSw; (try dsimp only at hSw); first | (go_simp; done) | (go_simp; with_reducible rfl))
                      case rest17 =>
                       try simp only [Act.put, List.setIfInBounds_toArray, List.set_cons_zero, List.set_cons_succ]
                       refine wpAnyH_take (i := 18) (oi := ?oi18) (v := ?v18) ?ho18 ?ka18 ?kb18 ?kc18 (fun _ _ _ h => h) (Or.inl ⟨?wn18, ?hy18⟩) (by assumption) ?rest18
                       case ho18 => (simp only [List.getElem?_toArray, List.getElem?_cons_succ, List.getElem?_cons_zero]; rfl)
                       case ka18 => kernel_rfl
                       case kb18 => kernel_rfl
                       case kc18 => kernel_rfl
                       case wn18 => rfl
                       case hy18 => (intro w hSw; (try dsimp only at hSw); first | (go_simp; done) | (go_simp; with_reducible rfl))
                       case rest18 =>
                        try simp only [Act.put, List.setIfInBounds_toArray, List.set_cons_zero, List.set_cons_succ]
                        refine wpAnyH_ready (rs := [7, 19]) (by kernel_rfl) (by simp) ?_
                        refine AllReadyH.cons (o := ?o19) ?ho19 (fun K hK => ?st19) ?more19
                        case ho19 => (simp only [List.getElem?_toArray, List.getElem?_cons_succ, List.getElem?_cons_zero]; rfl)
                        case st19 =>
                         go_simp
                         refine hK.out _ _ ?hS19 (fun hHeld => ?goon19)
                         case hS19 =>
                          try dsimp only
                          first
                                 | (refine ⟨?_, ?_, ?_, ?_, ?_⟩ <;> assumption)
                                 | (refine HSTO.out _ _ ?_; refine ⟨?_, ?_, ?_, ?_, ?_⟩ <;> assumption)
                                 | go_keep
                         case goon19 =>
                          clear hK K
                          try simp only [Act.put, List.setIfInBounds_toArray, List.set_cons_zero, List.set_cons_succ]
                          refine wpAnyH_ready (rs := [19]) (by kernel_rfl) (by simp) ?_
                          refine AllReadyH.cons (o := ?o20) ?ho20 (fun K hK => ?st20) ?more20
                          case ho20 => (simp only [List.getElem?_toArray, List.getElem?_cons_succ, List.getElem?_cons_zero]; rfl)
                          case st20 =>
                           go_simp
                           refine hK.out _ _ ?hS20 (fun hHeld => ?goon20)
                           case hS20 =>
                            try dsimp only
                            first
                                   | (refine ⟨?_, ?_, ?_, ?_, ?_⟩ <;> assumption)
                                   | (refine HSTO.out _ _ ?_; refine ⟨?_, ?_, ?_, ?_, ?_⟩ <;> assumption)
                                   | go_keep
                           case goon20 =>
                            clear hK K
                            try simp only [Act.put, List.setIfInBounds_toArray, List.set_cons_zero, List.set_cons_succ]
                            refine wpAnyH_ready (rs := [20]) (by kernel_rfl) (by simp) ?_
                            refine AllReadyH.cons (o := ?o21) ?ho21 (fun K hK => ?st21) ?more21
                            case ho21 => (simp only [List.getElem?_toArray, List.getElem?_cons_succ, List.getElem?_cons_zero]; rfl)
                            case st21 =>
                             first
                                    | ((refine step_append_lies _ (by rfl) _ _ 32 (by rfl) wC.heap.size 2 i1 _ 1 8 Tryz.underlying32 hi1 hz10 hz11 hz12 rfl (by omega) (.slice arv m crv) m _ (by rfl) ((HOW.out.alloc _).drew) ⟨W5.heap.size, 0, none⟩ 1 1 [.int .i64 (l * (S : Int) + b)] (by rfl) (by rfl) (World.news_of_block (cs := #[.int .i64 (l * (S : Int) + b)]) (t := 2) (fr := (0, 0)) (heap_alloc_new _ _)) (by simp [Value.oneCell']) (by omega) (by simp [maxLen]; omega) (by omega) (by simp; omega) (W5.heap.size + 1) (by simp) ?_; intro gg cap w9 hown9 hgrow9 hat9 hlt9; obtain ⟨z0, z1, z2, z3, z4, z5, z6⟩ := HZD.out _ _ hgrow9))
                             refine hK.out _ _ ?hS21 (fun hHeld => ?goon21)
                             case hS21 =>
                              try dsimp only
                              first
                                     | (refine ⟨?_, ?_, ?_, ?_, ?_⟩ <;> assumption)
                                     | (refine HSTO.out _ _ ?_; refine ⟨?_, ?_, ?_, ?_, ?_⟩ <;> assumption)
                                     | go_keep
                             case goon21 =>
                              clear hK K
                              try simp only [Act.put, List.setIfInBounds_toArray, List.set_cons_zero, List.set_cons_succ]
                              refine wpAnyH_take (i := 21) (oi := ?oi22) (v := ?v22) ?ho22 ?ka22 ?kb22 ?kc22 (fun _ _ _ h => h) (Or.inl ⟨?wn22, ?hy22⟩) (by assumption) ?rest22
                              case ho22 => (simp only [List.getElem?_toArray, List.getElem?_cons_succ, List.getElem?_cons_zero]; rfl)
                              case ka22 => kernel_rfl
                              case kb22 => kernel_rfl
                              case kc22 => kernel_rfl
                              case wn22 => rfl
                              case hy22 => (intro w hSw; (try dsimp only at hSw); first | (go_simp; done) | (go_simp; with_reducible rfl))
                              case rest22 =>
                               try simp only [Act.put, List.setIfInBounds_toArray, List.set_cons_zero, List.set_cons_succ]
                               refine wpAnyH_ready (rs := [22]) (by kernel_rfl) (by simp) ?_
                               refine AllReadyH.cons (o := ?o23) ?ho23 (fun K hK => ?st23) ?more23
                               case ho23 => (simp only [List.getElem?_toArray, List.getElem?_cons_succ, List.getElem?_cons_zero]; rfl)
                               case st23 =>
                                go_simp
                                refine hK.out _ _ ?hS23 (fun hHeld => ?goon23)
                                case hS23 =>
                                 try dsimp only
                                 first
                                        | (refine ⟨?_, ?_, ?_, ?_, ?_⟩ <;> assumption)
                                        | (refine HSTO.out _ _ ?_; refine ⟨?_, ?_, ?_, ?_, ?_⟩ <;> assumption)
                                        | go_keep
                                case goon23 =>
                                 clear hK K
                                 try simp only [Act.put, List.setIfInBounds_toArray, List.set_cons_zero, List.set_cons_succ]
                                 refine wpAnyH_done (by kernel_rfl) ?_ _
                                 refine NoPanic.normal ?_
                                 have hX : Below W5.heap.size W5 ((W5.alloc (.cells #[.int .i64 (l * (S : Int) + b)] 2)).drew) := ((Below.refl _ _).alloc (Nat.le_refl _) _).drew
                                 have hX1 := hX.size
                                 have hX2 := HB5.out.size
                                 have hX3 := hgrow9.size
                                 have hR := rows_store (n := S) (G := H) (j := j) (v' := .slice (some ⟨gg, 0, none⟩) (m + 1) cap) (ys := (rawK t p k j).map (Value.int .i64) ++ [.int .i64 (l * (S : Int) + b)]) HSL.out (HO5.out.below hX) hjl (by rw [rowsK_len]; exact hjS) (by rw [← HRV.out]; exact hgrow9) (by rw [List.length_append, ← HM.out]; exact hown9) (fun c hc => by simp only [Value.ownBlock, Option.some.injEq] at hc; subst hc; rw [← HRV.out]; exact hat9.imp id fun h => by rw [h]; simp)
                                 have hset := rowsK_set (p := p) (S := S) hlt hjS HJ.out
                                 rw [← HL.out, HD.out, Int.toNat_natCast, ← HS.out, ← HB.out] at hset
                                 rw [hset] at hR
                                 have HN1 := Lib.hid hR.1
                                 have HN2 : Hid (Below wC.heap.size wC (w9.setCell ⟨H, j, none⟩ (.slice (some ⟨gg, 0, none⟩) (m + 1) cap))) := ((HB5.out.trans (hX.mono hX2)).grown hgrow9 (by omega) (fun c hc => (HOW.out.lt c hc).1)).grown hR.2 (by omega) (fun c hc => by cases hc; exact hHw)
                                 clear hX hR hset hown9 hgrow9 hat9 hlt9 z0 z1 z2 z3 z4 z5 z6
                                 go_wp2_with fail
                                 go_roundw
                                 case rel => exact ⟨k + 1, _, by omega, by go_num, by rw [List.length_set]; exact HSL.out, HN2.out, HN1.out⟩
                                 case measure => simp [intOf]; omega
                               exact AllReadyH.nil
                            exact AllReadyH.nil
                          exact AllReadyH.nil
                        refine AllReadyH.cons (o := ?o24) ?ho24 (fun K hK => ?st24) ?more24
                        case ho24 => (simp only [List.getElem?_toArray, List.getElem?_cons_succ, List.getElem?_cons_zero]; rfl)
                        case st24 =>
                         go_simp
                         refine hK.out _ _ ?hS24 (fun hHeld => ?goon24)
                         case hS24 =>
                          try dsimp only
                          first
                                 | (refine ⟨?_, ?_, ?_, ?_, ?_⟩ <;> assumption)
                                 | (refine HSTO.out _ _ ?_; refine ⟨?_, ?_, ?_, ?_, ?_⟩ <;> assumption)
                                 | go_keep
                         case goon24 =>
                          clear hK K
                          try simp only [Act.put, List.setIfInBounds_toArray, List.set_cons_zero, List.set_cons_succ]
                          refine wpAnyH_ready (rs := [7]) (by kernel_rfl) (by simp) ?_
                          refine AllReadyH.cons (o := ?o25) ?ho25 (fun K hK => ?st25) ?more25
                          case ho25 => (simp only [List.getElem?_toArray, List.getElem?_cons_succ, List.getElem?_cons_zero]; rfl)
                          case st25 =>
                           go_simp
                           refine hK.out _ _ ?hS25 (fun hHeld => ?goon25)
                           case hS25 =>
                            try dsimp only
                            first
                                   | (refine ⟨?_, ?_, ?_, ?_, ?_⟩ <;> assumption)
                                   | (refine HSTO.out _ _ ?_; refine ⟨?_, ?_, ?_, ?_, ?_⟩ <;> assumption)
                                   | go_keep
                           case goon25 =>
                            clear hK K
                            try simp only [Act.put, List.setIfInBounds_toArray, List.set_cons_zero, List.set_cons_succ]
                            refine wpAnyH_ready (rs := [20]) (by kernel_rfl) (by simp) ?_
                            refine AllReadyH.cons (o := ?o26) ?ho26 (fun K hK => ?st26) ?more26
                            case ho26 => (simp only [List.getElem?_toArray, List.getElem?_cons_succ, List.getElem?_cons_zero]; rfl)
                            case st26 =>
                             first
                                    | ((refine step_append_lies _ (by rfl) _ _ 32 (by rfl) wC.heap.size 2 i1 _ 1 8 Tryz.underlying32 hi1 hz10 hz11 hz12 rfl (by omega) (.slice arv m crv) m _ (by rfl) ((HOW.out.alloc _).drew) ⟨W5.heap.size, 0, none⟩ 1 1 [.int .i64 (l * (S : Int) + b)] (by rfl) (by rfl) (World.news_of_block (cs := #[.int .i64 (l * (S : Int) + b)]) (t := 2) (fr := (0, 0)) (heap_alloc_new _ _)) (by simp [Value.oneCell']) (by omega) (by simp [maxLen]; omega) (by omega) (by simp; omega) (W5.heap.size + 1) (by simp) ?_; intro gg cap w9 hown9 hgrow9 hat9 hlt9; obtain ⟨z0, z1, z2, z3, z4, z5, z6⟩ := HZD.out _ _ hgrow9))
                             refine hK.out _ _ ?hS26 (fun hHeld => ?goon26)
                             case hS26 =>
                              try dsimp only
                              first
                                     | (refine ⟨?_, ?_, ?_, ?_, ?_⟩ <;> assumption)
                                     | (refine HSTO.out _ _ ?_; refine ⟨?_, ?_, ?_, ?_, ?_⟩ <;> assumption)
                                     | go_keep
                             case goon26 =>
                              clear hK K
                              try simp only [Act.put, List.setIfInBounds_toArray, List.set_cons_zero, List.set_cons_succ]
                              refine wpAnyH_take (i := 21) (oi := ?oi27) (v := ?v27) ?ho27 ?ka27 ?kb27 ?kc27 (fun _ _ _ h => h) (Or.inl ⟨?wn27, ?hy27⟩) (by assumption) ?rest27
                              case ho27 => (simp only [List.getElem?_toArray, List.getElem?_cons_succ, List.getElem?_cons_zero]; rfl)
                              case ka27 => kernel_rfl
                              case kb27 => kernel_rfl
                              case kc27 => kernel_rfl
                              case wn27 => rfl
                              case hy27 => (intro w hSw; (try dsimp only at hSw); first | (go_simp; done) | (go_simp; with_reducible rfl))
                              case rest27 =>
                               try simp only [Act.put, List.setIfInBounds_toArray, List.set_cons_zero, List.set_cons_succ]
                               refine wpAnyH_ready (rs := [22]) (by kernel_rfl) (by simp) ?_
                               refine AllReadyH.cons (o := ?o28) ?ho28 (fun K hK => ?st28) ?more28
                               case ho28 => (simp only [List.getElem?_toArray, List.getElem?_cons_succ, List.getElem?_cons_zero]; rfl)
                               case st28 =>
                                go_simp
                                refine hK.out _ _ ?hS28 (fun hHeld => ?goon28)
                                case hS28 =>
                                 try dsimp only
                                 first
                                        | (refine ⟨?_, ?_, ?_, ?_, ?_⟩ <;> assumption)
                                        | (refine HSTO.out _ _ ?_; refine ⟨?_, ?_, ?_, ?_, ?_⟩ <;> assumption)
                                        | go_keep
                                case goon28 =>
                                 clear hK K
                                 try simp only [Act.put, List.setIfInBounds_toArray, List.set_cons_zero, List.set_cons_succ]
                                 refine wpAnyH_done (by kernel_rfl) ?_ _
                                 refine NoPanic.normal ?_
                                 have hX : Below W5.heap.size W5 ((W5.alloc (.cells #[.int .i64 (l * (S : Int) + b)] 2)).drew) := ((Below.refl _ _).alloc (Nat.le_refl _) _).drew
                                 have hX1 := hX.size
                                 have hX2 := HB5.out.size
                                 have hX3 := hgrow9.size
                                 have hR := rows_store (n := S) (G := H) (j := j) (v' := .slice (some ⟨gg, 0, none⟩) (m + 1) cap) (ys := (rawK t p k j).map (Value.int .i64) ++ [.int .i64 (l * (S : Int) + b)]) HSL.out (HO5.out.below hX) hjl (by rw [rowsK_len]; exact hjS) (by rw [← HRV.out]; exact hgrow9) (by rw [List.length_append, ← HM.out]; exact hown9) (fun c hc => by simp only [Value.ownBlock, Option.some.injEq] at hc; subst hc; rw [← HRV.out]; exact hat9.imp id fun h => by rw [h]; simp)
                                 have hset := rowsK_set (p := p) (S := S) hlt hjS HJ.out
                                 rw [← HL.out, HD.out, Int.toNat_natCast, ← HS.out, ← HB.out] at hset
                                 rw [hset] at hR
                                 have HN1 := Lib.hid hR.1
                                 have HN2 : Hid (Below wC.heap.size wC (w9.setCell ⟨H, j, none⟩ (.slice (some ⟨gg, 0, none⟩) (m + 1) cap))) := ((HB5.out.trans (hX.mono hX2)).grown hgrow9 (by omega) (fun c hc => (HOW.out.lt c hc).1)).grown hR.2 (by omega) (fun c hc => by cases hc; exact hHw)
                                 clear hX hR hset hown9 hgrow9 hat9 hlt9 z0 z1 z2 z3 z4 z5 z6
                                 go_wp2_with fail
                                 go_roundw
                                 case rel => exact ⟨k + 1, _, by omega, by go_num, by rw [List.length_set]; exact HSL.out, HN2.out, HN1.out⟩
                                 case measure => simp [intOf]; omega
                               exact AllReadyH.nil
                            exact AllReadyH.nil
                          exact AllReadyH.nil
                        exact AllReadyH.nil
    ·obtain rfl : k = t.edges.length := by omega
     have hRM := RefM.start HKK.out hbl ho
     rw [keys1_all HPL.out, ← keys3_zero (t := t) HPL.out] at hRM
     have HRM := Lib.hid hRM
     clear hsl hbl ho hRM
     go_wp2_with fail
     go_loopw [64] (fun v64 wr => ∃ (i : Nat) (kvs : List Value), i ≤ S ∧ v64 = .int .i64 i ∧ kvs.length = S ∧ Below w.heap.size w wr ∧ RefM 32 2 w.heap.size wC.heap.size wr (.slice (some ⟨G, 0, none⟩) S S) (.slice (some ⟨H, 0, none⟩) S S) kvs svs ((keys3 t p S i).map (List.map (Value.int .i64))) (rowsK t p S t.edges.length) i) (fun v64 _ => S - (intOf v64).toNat)
     case atStart => exact ⟨0, kvs, Nat.zero_le _, rfl, HKL.out, HBW.out, HRM.out⟩
     case round =>
      clear HBW HRM HTD HO HBD
      obtain ⟨i, kw, hi, rfl, hwl, hbl, hrm⟩ := hrel
      obtain ⟨wE, rfl⟩ : ∃ wE : World, wE = wr := ⟨_, rfl⟩
      have HWL := Lib.hid hwl
      have HBE := Lib.hid hbl
      have HRM := Lib.hid hrm
      have hszE := hbl.size
      by_cases hlt : i < S
      ·have his : i < svs.length := by rw [HSL.out]; exact hlt
       have hik : i < kw.length := by omega
       have hir : i < (rowsK t p S t.edges.length).length := by rw [rowsK_len]; exact hlt
       have hhead := hrm.head
       have hset := hrm.sets i his hir (Nat.le_refl _)
       have hkeys := hrm.keys
       rw [rowsK_get, rawK_all] at hset
       have hixk : i < ((keys3 t p S i).map (List.map (Value.int .i64))).length := by rw [List.length_map, keys3_len]; exact hlt
       have hkrow := hkeys.2.2.1 i hik hixk
       have hkval : ((keys3 t p S i).map (List.map (Value.int .i64)))[i] = [.int .i64 (p.getD i 0)] := by
        rw [List.getElem_map, keys3_get, if_neg (Nat.lt_irrefl _)]
        rfl
       rw [hkval] at hkrow
       have hown := hkeys.2.1
       rw [hwl] at hown
       obtain ⟨hGw2, hGz2⟩ := hown.lt G rfl
       have hcr := hrm.cross i hik i his (Nat.le_refl _)
       obtain ⟨rv, hrv⟩ : ∃ rv, rv = svs[i] := ⟨_, rfl⟩
       obtain ⟨rk, hrk⟩ : ∃ rk, rk = kw[i] := ⟨_, rfl⟩
       rw [HSL.out] at hhead
       have z0 := hhead.cellAt i (by omega)
       rw [List.getElem?_eq_getElem his] at z0
       have z1 := hown.cellAt i (by omega)
       rw [List.getElem?_eq_getElem hik] at z1
       rw [← hrv] at z0 hset hcr
       rw [← hrk] at z1 hkrow hcr
       have neG : some G ≠ rv.ownBlock := fun e9 => by
        rcases own_types hown hset (by decide) with h | h
        ·cases h
        ·exact h e9
       have neK : some G ≠ rk.ownBlock := fun e9 => by
        rcases own_types hown hkrow (by decide) with h | h
        ·cases h
        ·exact h e9
       have fz := hown.frozenAt i
       have HRVB : Hid (∀ c, rv.ownBlock = some c → w.heap.size ≤ c) := fun c hc => by have := (hset.lt c hc).1; omega
       have hraw : (rawG t p i).length ≤ 300 := by rw [← rawK_all]; exact Nat.le_trans (rawK_len t p _ i) HV.out.most
       rw [List.length_map] at hset
       have HSO := Lib.hid (Sort_own wC.heap.size rv (rawG t p i) wE hset (by omega))
       obtain ⟨arv, crv, hrv2, -, -⟩ := owns_slice hset
       obtain ⟨ark, crk, hrk2, -, -⟩ := owns_slice hkrow
       obtain ⟨m, hm⟩ : ∃ m, m = (rawG t p i).length := ⟨_, rfl⟩
       rw [← hm] at hrv2
       subst hrv2
       subst hrk2
       have hii : (i : Int) < (S : Int) := by omega
       have hi0 : (0 : Int) ≤ (i : Int) := by omega
       have HRV := Lib.hid hrv
       have HRK := Lib.hid hrk
       have HM := Lib.hid hm
       have HKR := Lib.hid hkrow
       have HCR := Lib.hid hcr
       clear hwl hbl hrm hhead hset hkeys hkrow hkval hown hcr hrv hrk hm
       go_wp2_with fail
       refine Calls.mono HSO.out ?_
       rintro e w1 ⟨rfl, ho1, hg1⟩
       have hlen1 : ((rawG t p i).mergeSort fun x y => decide (x ≤ y)).length = (rawG t p i).length := List.length_mergeSort ..
       have HC : Hid (Calls Tryz.prog 70 #[.slice arv m crv] w1.drew fun e w' => ∃ v', e = .returned v' ∧ w'.ownsRow wC.heap.size 2 1 v' (sgT t p i).length ((sgT t p i).map (Value.int .i64)) ∧ w1.drew.grownBy w' (Value.slice arv m crv).ownBlock) := Compact_own wC.heap.size (.slice arv m crv) ((rawG t p i).mergeSort fun x y => decide (x ≤ y)) w1.drew (by rw [hlen1]; exact ho1.drew)
       have hsg : (sgT t p i).length ≤ 300 := by
        have := Lib.compact_length_le ((rawG t p i).mergeSort fun x y => decide (x ≤ y))
        unfold sgT
        omega
       have hk1 : w1.ownsRow w.heap.size 2 1 (.slice ark 1 crk) 1 [.int .i64 (p.getD i 0)] := HKR.out.kept hg1 HCR.out
       have y1 := (hg1.cell_far ⟨G, i, none⟩ hGz2 neG).trans z1
       have f1 := (hg1.frozen_far ⟨G, i, none⟩ hGz2 neG).trans fz
       have hz1 := hg1.size
       have hG1 : G < w1.heap.size := by omega
       have HG1 := Lib.hid hg1
       have HK1 := Lib.hid hk1
       clear ho1 hg1 hk1 z0 z1 fz HSO
       go_wp2_with fail
       go_region_law
        (first
         | (refine step_append_row _ (by rfl) _ _ 32 (by rfl) w.heap.size wC.heap.size 2 i1 _ 8 Tryz.underlying32 hi1 hz10 hz11 hz12 rfl _ 1 _ (by rfl) hk2 _ _ _ (by rfl) ho2 (by intro u hu; obtain ⟨x, -, rfl⟩ := List.mem_map.1 hu; rfl) (by simp [maxLen]; omega) (by omega) (by omega) ?_; intro v3 w3 hown3 hgrow3 hb3; obtain ⟨a3, c3, hv3, -, -⟩ := owns_slice hown3; subst hv3; have y3 := (hgrow3.cell_far ⟨G, i, none⟩ hG2 neK).trans y2; have f3 := (hgrow3.frozen_far ⟨G, i, none⟩ hG2 neK).trans f2)
         | (go_simp; go_at_call 70; refine Calls.mono HC.out ?_; rintro e w2 ⟨v2, rfl, ho2, hg2⟩; obtain ⟨a2, c2, hv2, -, -⟩ := owns_slice ho2; subst hv2; have hk2 := HK1.out.drew.kept hg2 HCR.out; have y2 := (hg2.cell_far ⟨G, i, none⟩ hG1 neG).trans y1; have f2 := (hg2.frozen_far ⟨G, i, none⟩ hG1 neG).trans f1; have hz2 := hg2.size; have hG2 : G < w2.heap.size := Nat.lt_of_lt_of_le hG1 hz2))
       all_goals (
        have hg12 : wE.grownBy w2 (Value.slice arv m crv).ownBlock := grown_trans HG1.out ⟨hg2.os, hg2.tape, hg2.output, hg2.size, hg2.block⟩
        have hmid := HRM.out.mid (by decide) his (by rw [← HRV.out]; exact hg12)
        have hkh := hmid.2.1.kept hgrow3 (own_types hmid.2.1 hk2 (by decide))
        rw [HWL.out] at hkh
        obtain ⟨n3, hn3⟩ : ∃ n3, n3 = 1 + (sgT t p i).length := ⟨_, rfl⟩
        rw [← hn3] at hown3 hb3
        have hst := hkh.stored i (.slice a3 n3 c3)
        have hstep := RefM.step (v3 := .slice a3 n3 c3) (ys := [.int .i64 (p.getD i 0)] ++ (sgT t p i).map (Value.int .i64)) (by decide) HRM.out his hik (by rw [← HRV.out]; exact hg12) (by rw [← HRK.out]; exact hgrow3) (by rw [List.length_append, List.length_map, List.length_singleton, ← hn3]; exact hown3) (by rw [← HRK.out]; exact hb3) hst.2 (by rw [HWL.out]; exact hst.1)
        have hks : ((keys3 t p S i).map (List.map (Value.int .i64))).set i ([.int .i64 (p.getD i 0)] ++ (sgT t p i).map (Value.int .i64)) = (keys3 t p S (i + 1)).map (List.map (Value.int .i64)) := by
         rw [← keys3_set hlt, List.map_set, List.map_append]
         rfl
        rw [hks] at hstep
        have hz3 := hgrow3.size
        have HB4 : Hid (Below w.heap.size w (w3.setCell ⟨G, i, none⟩ (.slice a3 n3 c3))) := ((HBE.out.grown hg12 hszE HRVB.out).grown hgrow3 (by have := hg12.size; omega) (fun c hc => (HKR.out.lt c hc).1)).grown hst.2 (by have := hg12.size; omega) (fun c hc => by cases hc; exact hGw2)
        have HST := Lib.hid hstep
        have HN3 := Lib.hid hn3
        clear hg12 hmid hkh hst hstep hks hown3 hgrow3 hb3 ho2 hg2 hk2 y1 y2 y3 f1 f2 f3 hn3
        (try rw [← HN3.out])
        go_wp2_with fail
        go_roundw
        case rel => exact ⟨i + 1, _, by omega, by go_num, by rw [List.length_set]; exact HWL.out, HB4.out, HST.out⟩
        case measure => simp [intOf]; omega)
      ·obtain rfl : i = S := by omega
       have hko := hrm.keys
       have hoi : OwnIntss 32 2 w.heap.size wE (.slice (some ⟨G, 0, none⟩) i i) kw (keys3 t p i i) := by
        refine ⟨by rw [keys3_len]; exact hwl, hko.2.1, fun a ha ha' => ?_, hko.2.2.2, fun a ha => ?_⟩
        ·have h := hko.2.2.1 a ha (by rw [List.length_map]; exact ha')
         rw [List.getElem_map, List.length_map] at h
         exact h
        ·exact far_symm (own_types hko.2.1 (hko.2.2.1 a ha (by rw [List.length_map, keys3_len]; omega)) (by decide))
       have HNK := Lib.hid (normalKeys_any w.heap.size _ _ _ wE hoi (fun r hr => by rw [keys3_all] at hr; obtain ⟨q, -, rfl⟩ := List.mem_map.1 hr; simp) (by rw [keys3_len]; omega))
       rw [keys3_all] at HNK
       clear hwl hbl hrm hko hoi
       go_wp2_with fail
       refine Calls.mono HNK.out ?_
       rintro e w5 ⟨v5, rfl, hb5, ho5⟩
       have HR : Hid (∃ v, (Ending.returned v5 = .returned v) ∧ Below w.heap.size w w5 ∧ w5.ownsRow w.heap.size 2 1 v (blocksL ((List.range i).map fun j => p.getD j 0 :: sgT t p j)).length ((blocksL ((List.range i).map fun j => p.getD j 0 :: sgT t p j)).map (Value.int .i64))) := ⟨v5, rfl, HBE.out.trans (hb5.mono hszE), own_lower ho5 hszE⟩
       clear hb5 ho5 HNK
       go_wp2
       go_ret
       exact HR.out
end Go.Proofs.YtifoinannefcpaaGreatDoor
