/-
  The reference's l14Tell: NOT WHOLE YET.
-/
import Derived.Test.YtjoacldbgnphkaaGreatDoorE9
import Derived.Test.YtjoacldbgnphkaaGreatDoorE19
import Derived.Test.YtjoacldbgnphkaaGreatDoorE14
import Derived.Deep.Cut
import Derived.Deep.AppendLies
import Derived.Deep.RegionHeld3
namespace Go.Proofs.YtjoacldbgnphkaaGreatDoor
open Go Go.RowKit


theorem info_nodesR : (Tryz.prog.info? 27).map (fun i => (i.zero, i.size, i.bytes)) = some (some (.slice none 0 0), 1, 24) := by kernel_rfl
theorem info_nodeR : (Tryz.prog.info? 55).map (fun i => (i.zero, i.size, i.bytes)) = some (some (.agg #[.int .i64 0, .int .i64 0, .string ⟨#[]⟩, .bool false]), 4, 40) := by kernel_rfl
/-- What stands of the side on which the edge is sought. -/
def SideT (t : Lts) (p : List Int) (a b : Int) (tn at_ kd jn fr oth : Int) : Prop :=
 (tn = 0 ∧ at_ = -1 ∧ kd = 4 ∧ jn = 2 ∧ fr = a ∧ oth = b) ∨
 (tn = 1 ∧ kd = 4 ∧ jn = 2 ∧ fr = a ∧ oth = b ∧ ((at_ = -1 ∧ loneE t p a b = none) ∨ ∃ n : Nat, at_ = n ∧ FirstL t p a b n)) ∨
 (tn = 2 ∧ kd = 5 ∧ jn = 3 ∧ fr = b ∧ oth = a ∧ loneE t p a b = none ∧ ((at_ = -1 ∧ loneE t p b a = none) ∨ ∃ n : Nat, at_ = n ∧ FirstL t p b a n))

set_option maxRecDepth 100000 in
set_option maxHeartbeats 4000000 in
theorem tell14_any (bt lo lo2 S d : Nat) (t : Lts) (vv tv : Value) (a b : Int) (w : World) (hv : Valid t) (hS : (S : Int) = t.states) (ha : 0 ≤ a ∧ a < t.states) (hb : 0 ≤ b ∧ b < t.states) (hp : LtsPtr lo w bt t) (hvs : IntssAt lo2 w vv (levs t)) (hsep : sepR t a b = d + 1) (htab : TabR w tv S t d) :
  Calls Tryz.prog 40 #[.pointer (some ⟨bt, 0, none⟩), vv, tv, .int .i64 a, .int .i64 b] w fun e w' => ∃ v, e = .returned v ∧ Below w.heap.size w w' ∧ FormO w.heap.size w' v (tellT t a b) := by
 have HV := Lib.hid hv
 have HP := Lib.hid hp
 have HSS := Lib.hid hS
 have HAT := Lib.hid hvs
 have HTB := Lib.hid htab
 have HSEP := Lib.hid hsep
 have HA := Lib.hid ha
 have HB := Lib.hid hb
 have hdl := (sep_pos hsep).1
 have hlast := (last_ok hv).1
 have hs0 := hv.st0
 have hs1 := hv.st1
 have hmost := hv.most
 have HAP := Lib.hid (apart_any lo2 S t vv a b w hv hS ha hb hvs)
 rw [hsep] at HAP
 obtain ⟨la, lc, hve⟩ : ∃ la lc, vv = .slice la (lastR t + 1) lc := by
  obtain ⟨vs, hl, ⟨a, c, rfl, -⟩, -⟩ := hvs
  rw [levs_len] at hl
  exact ⟨a, c, by rw [hl]⟩
 subst hve
 obtain ⟨ta, tc, hs, rfl, -⟩ := htab
 have hS40 : S ≤ 40 := by omega
 have hS1 : 1 ≤ S := by omega
 obtain ⟨SS, hSQ⟩ : ∃ SS, SS = S * S := ⟨_, rfl⟩
 rw [← hSQ] at HTB ⊢
 have hSQ16 : SS ≤ 1600 := by rw [hSQ]; exact Nat.le_trans (Nat.mul_le_mul hS40 hS40) (by decide)
 obtain ⟨i2, hi2, hz20, hz21, hz22⟩ := info_parts info_nodesR
 obtain ⟨i4, hi4, hz40, hz41, hz42⟩ := info_parts info_nodeR
 obtain ⟨L, hL⟩ : ∃ L, L = lastR t := ⟨_, rfl⟩
 rw [← hL] at HAP hdl hlast ⊢
 have HLL := Lib.hid hL
 have hL40 : L < 40 := by omega
 obtain ⟨p, hpe⟩ : ∃ p, p = lev t d := ⟨_, rfl⟩
 have HIP : Hid (InP t p) := by unfold Hid; rw [hpe]; exact lev_in hv d
 have HPE := Lib.hid hpe
 obtain ⟨bo, oo, pa, pc, hve, hbo, c0, hslw⟩ : ∃ b o pa pc, la = some ⟨b, o, none⟩ ∧ b < w.heap.size ∧ w.cell? ⟨b, o + d, none⟩ = some (.slice pa S pc) ∧ SliceK 1 encI lo2 w (.slice pa S pc) p := by
  have hk : d < (levs t).length := by rw [levs_len]; omega
  obtain ⟨vs, hl, ⟨a9, c9, he, hn, hc, hr⟩, hrow⟩ := hvs
  obtain ⟨b, o, rfl, hlo, hb, hcell⟩ := hr.one (i := d) (by omega)
  obtain ⟨pa, pc, he2, h1, h2, h3⟩ := hrow d (by omega) hk
  have hlk : (levs t)[d] = p := by
   have h := levs_get (t := t) (k := d) (by omega)
   rw [List.getElem?_eq_getElem hk] at h
   rw [hpe]
   exact Option.some.inj h
  rw [hlk] at he2 h1 h3
  have hpS : p.length = S := by rw [hpe, lev_len]; omega
  simp only [Value.slice.injEq] at he
  refine ⟨b, o, pa, pc, he.1, hb, ?_, pa, pc, by rw [hpS], h1, h2, h3⟩
  rw [hcell]
  simp [encV, he2, hpS]
 subst hve
 have HSLW := Lib.hid hslw
 have HC0 := Lib.hid c0
 obtain ⟨lv, ev, hpl, q0, -, q2, q3, hls, hes⟩ := hp
 obtain ⟨ae, ce, rfl, hen, hec, herow⟩ := hes
 have HER := Lib.hid herow
 have HLS := Lib.hid hls
 rw [← hS] at q0
 have HQ0 := Lib.hid q0
 have HQ2 := Lib.hid q2
 obtain ⟨E, hE⟩ : ∃ E, E = t.edges.length := ⟨_, rfl⟩
 rw [← hE] at hen hmost q3
 have HEE := Lib.hid hE
 have HQ3 := Lib.hid q3
 have HLO : Hid (∀ (fr oth : Int) (ed : Edge) (pa : Option Addr) (pc : Nat) (eb : Nat) (w' : World), Below w.heap.size w w' → SliceK 1 encI lo2 w' (.slice pa S pc) p → EdgeOk t ed → Blk w' eb [.int .i64 ed.src, .int .i64 ed.lab, .int .i64 ed.dst] 66 → Calls Tryz.prog 59 #[.pointer (some ⟨bt, 0, none⟩), .slice pa S pc, .pointer (some ⟨eb, 0, none⟩), .int .i64 oth] w' fun e w'' => e = .returned (.bool (!metB t p ed oth)) ∧ Below w'.heap.size w' w'') := fun fr oth ed pa pc eb w' hbw hsl hok hbk => lone_any bt lo lo2 eb S t _ p ed oth w' HV.out HSS.out HIP.out (HP.out.below hbw) hsl hok hbk.lt (hbk.cell 1 rfl) (hbk.cell 2 rfl)
 have HNOT : Hid (loneE t p a b = none → loneE t p b a ≠ none) := fun h => by
  rw [hpe] at h ⊢
  rcases lone_is hv ha hb hsep with h1 | h1
  ·exact absurd h h1
  ·exact h1
 clear hv hS ha hb hvs hsep hs0 hs1 hL hpe herow hls hE hSQ
 go_enter Tryz.func40, Tryz.ntmps40
 go_wp2_with fail
 refine Calls.mono HAP.out ?_
 rintro e w1 ⟨rfl, hb1⟩
 have hd0 : (((d : Nat) : Int) + 1 == 0) = false := by
  rw [beq_eq_false_iff_ne]
  omega
 have c1 := keeps hb1 hbo HC0.out
 have hbo1 : bo < w1.heap.size := Nat.lt_of_lt_of_le hbo hb1.size
 obtain ⟨pb, hpb⟩ : ∃ pb, pb = w1.heap.size := ⟨_, rfl⟩
 obtain ⟨w2, hw2⟩ : ∃ w2, w2 = w1.alloc (.cells #[.int .i64 4, .int .i64 0, .string ⟨#[]⟩, .bool false] 55) := ⟨_, rfl⟩
 have hal : Below w1.heap.size w1 w2 := by rw [hw2]; exact (Below.refl _ _).alloc (Nat.le_refl _) _
 have HBK : Hid (Blk w2 pb [.int .i64 4, .int .i64 0, .string ⟨#[]⟩, .bool false] 55) := by unfold Hid; rw [hw2, hpb]; exact Blk.new w1 _ _
 have HB2 : Hid (Below w.heap.size w w2) := hb1.trans (hal.mono hb1.size)
 have hpbl : w.heap.size ≤ pb := by rw [hpb]; exact hb1.size
 have HW2 := Lib.hid hw2
 have HPB := Lib.hid hpb
 clear hb1 hal hw2 hpb HAP c0 hslw
 go_wp2
 rw [← HW2.out]
 try rw [← HPB.out]
 go_loopw [14, 15, 16, 17, 18] (fun v14 v15 v16 v17 v18 wr => ∃ (tn at_ kd jn fr oth : Int), tn ≤ 2 ∧ v14 = .int .i64 jn ∧ v15 = .int .i64 fr ∧ v16 = .int .i64 oth ∧ v17 = .int .i64 at_ ∧ v18 = .int .i64 tn ∧ SideT t p a b tn at_ kd jn fr oth ∧ Below w.heap.size w wr ∧ Blk wr pb [.int .i64 kd, .int .i64 0, .string ⟨#[]⟩, .bool false] 55) (fun _ _ _ _ v18 _ => 2 - (intOf v18).toNat)
 case atStart => exact ⟨0, -1, 4, 2, a, b, by omega, rfl, rfl, rfl, rfl, rfl, .inl ⟨rfl, rfl, rfl, rfl, rfl, rfl⟩, HB2.out, HBK.out⟩
 case round =>
  clear HB2 HBK HW2 c1
  obtain ⟨tn, at_, kd, jn, fr, oth, htn, rfl, rfl, rfl, rfl, rfl, hside, hbl, hbk⟩ := hrel
  obtain ⟨wC, rfl⟩ : ∃ wC : World, wC = wr := ⟨_, rfl⟩
  have HBI0 := Lib.hid hbl
  have HKI0 := Lib.hid hbk
  have hszC := hbl.size
  clear hbl hbk
  rcases hside with ⟨rfl, rfl, rfl, rfl, rfl, rfl⟩ | ⟨rfl, rfl, rfl, rfl, rfl, ⟨rfl, hln⟩ | ⟨n, rfl, hfi⟩⟩ | ⟨rfl, rfl, rfl, rfl, rfl, hln, hr⟩
  ·go_wp2
   go_loopw [17, 19] (fun v17 v19 wr => ∃ (i : Nat) (at2 : Int), i ≤ E ∧ v17 = .int .i64 at2 ∧ v19 = .int .i64 i ∧ Below w.heap.size w wr ∧ Blk wr pb [.int .i64 4, .int .i64 0, .string ⟨#[]⟩, .bool false] 55 ∧ ((at2 = -1 ∧ NoneL t p fr oth i) ∨ ∃ n : Nat, at2 = n ∧ FirstL t p fr oth n)) (fun _ v19 _ => E - (intOf v19).toNat)
   case atStart => exact ⟨0, -1, Nat.zero_le _, rfl, rfl, HBI0.out, HKI0.out, .inl ⟨rfl, fun j _ hj => absurd hj (Nat.not_lt_zero _)⟩⟩
   case round =>
    clear HBI0 HKI0
    obtain ⟨i, at2, hi, rfl, rfl, hbi, hki, hst⟩ := hrel
    obtain ⟨wI, rfl⟩ : ∃ wI : World, wI = wr := ⟨_, rfl⟩
    have HBI := Lib.hid hbi
    have HKI := Lib.hid hki
    have hszI := hbi.size
    have q3 := keeps hbi hpl HQ3.out
    have hplI : bt < wI.heap.size := Nat.lt_of_lt_of_le hpl hszI
    clear hbi hki
    rcases hst with ⟨rfl, hno⟩ | ⟨n, rfl, hfi⟩
    ·have HNO := Lib.hid hno
     clear hno
     by_cases hlt : i < E
     ·have hiE : i < t.edges.length := by rw [← HEE.out]; exact hlt
      obtain ⟨be, oe, rfl, -, hbe, e1, e2, e3⟩ := (HER.out.below HBI.out).edge hiE
      have hok := HV.out.edge i hiE
      obtain ⟨ed, hed⟩ : ∃ ed, ed = t.edges[i] := ⟨_, rfl⟩
      have HSC : Hid (loneB t p fr oth ed = false → NoneL t p fr oth (i + 1)) := fun h => HNO.out.succ hiE (by rw [← hed]; exact h)
      have HFC : Hid (loneB t p fr oth ed = true → FirstL t p fr oth i) := fun h => ⟨hiE, by rw [← hed]; exact h, HNO.out⟩
      rw [← hed] at e1 e2 e3 hok
      obtain ⟨eb, heb⟩ : ∃ eb, eb = wI.heap.size := ⟨_, rfl⟩
      obtain ⟨wJ, hwJ⟩ : ∃ wJ, wJ = wI.alloc (.cells #[.int .i64 ed.src, .int .i64 ed.lab, .int .i64 ed.dst] 66) := ⟨_, rfl⟩
      have hal : Below wI.heap.size wI wJ := by rw [hwJ]; exact (Below.refl _ _).alloc (Nat.le_refl _) _
      have HEB : Hid (Blk wJ eb [.int .i64 ed.src, .int .i64 ed.lab, .int .i64 ed.dst] 66) := by unfold Hid; rw [hwJ, heb]; exact Blk.new wI _ _
      have HBJ : Hid (Below w.heap.size w wJ) := HBI.out.trans (hal.mono hszI)
      have HKJ := Lib.hid (HKI.out.below hal)
      have hszJ := HBJ.out.size
      have HLN := Lib.hid (HLO.out fr oth ed pa pc eb wJ HBJ.out (HSLW.out.below HBJ.out) hok HEB.out)
      have b0 := HEB.out.cell 0 rfl
      have HWJ := Lib.hid hwJ
      have HEBE := Lib.hid heb
      clear hok hed hal hwJ heb HBI HKI HNO
      cases g1 : (ed.src == fr)
      ·have HNX : Hid (NoneL t p fr oth (i + 1)) := HSC.out (by unfold loneB; rw [g1]; rfl)
       obtain ⟨es, hes⟩ : ∃ es, es = ed.src := ⟨_, rfl⟩
       rw [← hes] at b0 e1 HWJ g1
       clear hes HSC HFC HEB HLN
       go_wp2_with fail
       rw [← HWJ.out]
       try rw [← HEBE.out]
       go_wp2
       go_roundw
       case rel => exact ⟨i + 1, -1, by omega, rfl, by go_num, HBJ.out, HKJ.out, .inl ⟨rfl, HNX.out⟩⟩
       case measure => simp [intOf]; omega
      ·cases g2 : metB t p ed oth
       ·have HNX : Hid (FirstL t p fr oth i) := HFC.out (by unfold loneB; rw [g1, g2]; rfl)
        rw [g2] at HLN
        obtain ⟨es, hes⟩ : ∃ es, es = ed.src := ⟨_, rfl⟩
        rw [← hes] at b0 e1 HWJ g1
        clear hes HSC HFC HEB g2
        go_wp2_with fail
        rw [← HWJ.out]
        try rw [← HEBE.out]
        go_wp2_with fail
        refine Calls.mono HLN.out ?_
        rintro e wK ⟨rfl, hbk⟩
        have HBK2 := Lib.hid (HBJ.out.trans (hbk.mono hszJ))
        have HKK := Lib.hid (HKJ.out.below hbk)
        clear hbk HLN b0
        go_wp2
        go_roundw
        case rel => exact ⟨i + 1, _, by omega, rfl, by go_num, HBK2.out, HKK.out, .inr ⟨i, rfl, HNX.out⟩⟩
        case measure => simp [intOf]; omega
       ·have HNX : Hid (NoneL t p fr oth (i + 1)) := HSC.out (by unfold loneB; rw [g2]; simp)
        rw [g2] at HLN
        obtain ⟨es, hes⟩ : ∃ es, es = ed.src := ⟨_, rfl⟩
        rw [← hes] at b0 e1 HWJ g1
        clear hes HSC HFC HEB g2
        go_wp2_with fail
        rw [← HWJ.out]
        try rw [← HEBE.out]
        go_wp2_with fail
        refine Calls.mono HLN.out ?_
        rintro e wK ⟨rfl, hbk⟩
        have HBK2 := Lib.hid (HBJ.out.trans (hbk.mono hszJ))
        have HKK := Lib.hid (HKJ.out.below hbk)
        clear hbk HLN b0
        go_wp2
        go_roundw
        case rel => exact ⟨i + 1, -1, by omega, rfl, by go_num, HBK2.out, HKK.out, .inl ⟨rfl, HNX.out⟩⟩
        case measure => simp [intOf]; omega
     ·have HNE : Hid (loneE t p fr oth = none) := NoneL.all (by
       have h := HNO.out
       have h2 : i = t.edges.length := by rw [← HEE.out]; omega
       rw [← h2]
       exact h)
      go_wp2
      go_roundw
      case rel => exact ⟨1, _, _, _, _, _, by omega, rfl, rfl, rfl, rfl, by first | rfl | go_num, .inr (.inl ⟨rfl, rfl, rfl, rfl, rfl, .inl ⟨rfl, HNE.out⟩⟩), HBI.out, HKI.out⟩
      case measure => simp [intOf]
    ·have HFI := Lib.hid hfi
     clear hfi
     have hn0 : ¬ ((n : Nat) : Int) < 0 := by omega
     by_cases hlt : i < E
     ·go_wp2
      go_roundw
      case rel => exact ⟨1, _, _, _, _, _, by omega, rfl, rfl, rfl, rfl, by first | rfl | go_num, .inr (.inl ⟨rfl, rfl, rfl, rfl, rfl, .inr ⟨n, rfl, HFI.out⟩⟩), HBI.out, HKI.out⟩
      case measure => simp [intOf]
     ·go_wp2
      go_roundw
      case rel => exact ⟨1, _, _, _, _, _, by omega, rfl, rfl, rfl, rfl, by first | rfl | go_num, .inr (.inl ⟨rfl, rfl, rfl, rfl, rfl, .inr ⟨n, rfl, HFI.out⟩⟩), HBI.out, HKI.out⟩
      case measure => simp [intOf]
  ·have HLN0 := Lib.hid hln
   clear hln
   have k0 := HKI0.out.cell 0 rfl
   have f0 := HKI0.out.frozen 0
   obtain ⟨wX, hwX⟩ : ∃ wX, wX = wC.setCell ⟨pb, 0, none⟩ (.int .i64 5) := ⟨_, rfl⟩
   have HKX : Hid (Blk wX pb [.int .i64 5, .int .i64 0, .string ⟨#[]⟩, .bool false] 55) := by unfold Hid; rw [hwX]; exact HKI0.out.set 0 _
   have HBX : Hid (Below w.heap.size w wX) := by unfold Hid; rw [hwX]; exact HBI0.out.setCell hpbl _
   have HWX := Lib.hid hwX
   clear hwX HBI0 HKI0
   go_wp2
   rw [← HWX.out]
   clear k0 f0 HWX
   have HBI0 := Lib.hid HBX.out
   have HKI0 := Lib.hid HKX.out
   clear HBX HKX
   go_loopw [17, 19] (fun v17 v19 wr => ∃ (i : Nat) (at2 : Int), i ≤ E ∧ v17 = .int .i64 at2 ∧ v19 = .int .i64 i ∧ Below w.heap.size w wr ∧ Blk wr pb [.int .i64 5, .int .i64 0, .string ⟨#[]⟩, .bool false] 55 ∧ ((at2 = -1 ∧ NoneL t p oth fr i) ∨ ∃ n : Nat, at2 = n ∧ FirstL t p oth fr n)) (fun _ v19 _ => E - (intOf v19).toNat)
   case atStart => exact ⟨0, -1, Nat.zero_le _, rfl, rfl, HBI0.out, HKI0.out, .inl ⟨rfl, fun j _ hj => absurd hj (Nat.not_lt_zero _)⟩⟩
   case round =>
    clear HBI0 HKI0
    obtain ⟨i, at2, hi, rfl, rfl, hbi, hki, hst⟩ := hrel
    obtain ⟨wI, rfl⟩ : ∃ wI : World, wI = wr := ⟨_, rfl⟩
    have HBI := Lib.hid hbi
    have HKI := Lib.hid hki
    have hszI := hbi.size
    have q3 := keeps hbi hpl HQ3.out
    have hplI : bt < wI.heap.size := Nat.lt_of_lt_of_le hpl hszI
    clear hbi hki
    rcases hst with ⟨rfl, hno⟩ | ⟨n, rfl, hfi⟩
    ·have HNO := Lib.hid hno
     clear hno
     by_cases hlt : i < E
     ·have hiE : i < t.edges.length := by rw [← HEE.out]; exact hlt
      obtain ⟨be, oe, rfl, -, hbe, e1, e2, e3⟩ := (HER.out.below HBI.out).edge hiE
      have hok := HV.out.edge i hiE
      obtain ⟨ed, hed⟩ : ∃ ed, ed = t.edges[i] := ⟨_, rfl⟩
      have HSC : Hid (loneB t p oth fr ed = false → NoneL t p oth fr (i + 1)) := fun h => HNO.out.succ hiE (by rw [← hed]; exact h)
      have HFC : Hid (loneB t p oth fr ed = true → FirstL t p oth fr i) := fun h => ⟨hiE, by rw [← hed]; exact h, HNO.out⟩
      rw [← hed] at e1 e2 e3 hok
      obtain ⟨eb, heb⟩ : ∃ eb, eb = wI.heap.size := ⟨_, rfl⟩
      obtain ⟨wJ, hwJ⟩ : ∃ wJ, wJ = wI.alloc (.cells #[.int .i64 ed.src, .int .i64 ed.lab, .int .i64 ed.dst] 66) := ⟨_, rfl⟩
      have hal : Below wI.heap.size wI wJ := by rw [hwJ]; exact (Below.refl _ _).alloc (Nat.le_refl _) _
      have HEB : Hid (Blk wJ eb [.int .i64 ed.src, .int .i64 ed.lab, .int .i64 ed.dst] 66) := by unfold Hid; rw [hwJ, heb]; exact Blk.new wI _ _
      have HBJ : Hid (Below w.heap.size w wJ) := HBI.out.trans (hal.mono hszI)
      have HKJ := Lib.hid (HKI.out.below hal)
      have hszJ := HBJ.out.size
      have HLN := Lib.hid (HLO.out oth fr ed pa pc eb wJ HBJ.out (HSLW.out.below HBJ.out) hok HEB.out)
      have b0 := HEB.out.cell 0 rfl
      have HWJ := Lib.hid hwJ
      have HEBE := Lib.hid heb
      clear hok hed hal hwJ heb HBI HKI HNO
      cases g1 : (ed.src == oth)
      ·have HNX : Hid (NoneL t p oth fr (i + 1)) := HSC.out (by unfold loneB; rw [g1]; rfl)
       obtain ⟨es, hes⟩ : ∃ es, es = ed.src := ⟨_, rfl⟩
       rw [← hes] at b0 e1 HWJ g1
       clear hes HSC HFC HEB HLN
       go_wp2_with fail
       rw [← HWJ.out]
       try rw [← HEBE.out]
       go_wp2
       go_roundw
       case rel => exact ⟨i + 1, -1, by omega, rfl, by go_num, HBJ.out, HKJ.out, .inl ⟨rfl, HNX.out⟩⟩
       case measure => simp [intOf]; omega
      ·cases g2 : metB t p ed fr
       ·have HNX : Hid (FirstL t p oth fr i) := HFC.out (by unfold loneB; rw [g1, g2]; rfl)
        rw [g2] at HLN
        obtain ⟨es, hes⟩ : ∃ es, es = ed.src := ⟨_, rfl⟩
        rw [← hes] at b0 e1 HWJ g1
        clear hes HSC HFC HEB g2
        go_wp2_with fail
        rw [← HWJ.out]
        try rw [← HEBE.out]
        go_wp2_with fail
        refine Calls.mono HLN.out ?_
        rintro e wK ⟨rfl, hbk⟩
        have HBK2 := Lib.hid (HBJ.out.trans (hbk.mono hszJ))
        have HKK := Lib.hid (HKJ.out.below hbk)
        clear hbk HLN b0
        go_wp2
        go_roundw
        case rel => exact ⟨i + 1, _, by omega, rfl, by go_num, HBK2.out, HKK.out, .inr ⟨i, rfl, HNX.out⟩⟩
        case measure => simp [intOf]; omega
       ·have HNX : Hid (NoneL t p oth fr (i + 1)) := HSC.out (by unfold loneB; rw [g2]; simp)
        rw [g2] at HLN
        obtain ⟨es, hes⟩ : ∃ es, es = ed.src := ⟨_, rfl⟩
        rw [← hes] at b0 e1 HWJ g1
        clear hes HSC HFC HEB g2
        go_wp2_with fail
        rw [← HWJ.out]
        try rw [← HEBE.out]
        go_wp2_with fail
        refine Calls.mono HLN.out ?_
        rintro e wK ⟨rfl, hbk⟩
        have HBK2 := Lib.hid (HBJ.out.trans (hbk.mono hszJ))
        have HKK := Lib.hid (HKJ.out.below hbk)
        clear hbk HLN b0
        go_wp2
        go_roundw
        case rel => exact ⟨i + 1, -1, by omega, rfl, by go_num, HBK2.out, HKK.out, .inl ⟨rfl, HNX.out⟩⟩
        case measure => simp [intOf]; omega
     ·have HNE : Hid (loneE t p oth fr = none) := NoneL.all (by
       have h := HNO.out
       have h2 : i = t.edges.length := by rw [← HEE.out]; omega
       rw [← h2]
       exact h)
      go_wp2
      go_roundw
      case rel => exact ⟨2, _, _, _, _, _, by omega, rfl, rfl, rfl, rfl, by first | rfl | go_num, .inr (.inr ⟨rfl, rfl, rfl, rfl, rfl, HLN0.out, .inl ⟨rfl, HNE.out⟩⟩), HBI.out, HKI.out⟩
      case measure => simp [intOf]
    ·have HFI := Lib.hid hfi
     clear hfi
     have hn0 : ¬ ((n : Nat) : Int) < 0 := by omega
     by_cases hlt : i < E
     ·go_wp2
      go_roundw
      case rel => exact ⟨2, _, _, _, _, _, by omega, rfl, rfl, rfl, rfl, by first | rfl | go_num, .inr (.inr ⟨rfl, rfl, rfl, rfl, rfl, HLN0.out, .inr ⟨n, rfl, HFI.out⟩⟩), HBI.out, HKI.out⟩
      case measure => simp [intOf]
     ·go_wp2
      go_roundw
      case rel => exact ⟨2, _, _, _, _, _, by omega, rfl, rfl, rfl, rfl, by first | rfl | go_num, .inr (.inr ⟨rfl, rfl, rfl, rfl, rfl, HLN0.out, .inr ⟨n, rfl, HFI.out⟩⟩), HBI.out, HKI.out⟩
      case measure => simp [intOf]
  ·obtain ⟨hn, hlone⟩ := hfi.lone
   have hok := HV.out.edge n hn
   have hnE : n < E := by rw [HEE.out]; exact hn
   obtain ⟨ed, hed⟩ : ∃ ed, ed = t.edges[n] := ⟨_, rfl⟩
   rw [← hed] at hlone hok
   have HLN := Lib.hid hlone
   have HOK := Lib.hid hok
   have HED := Lib.hid hed
   have HTL : Hid (tellT t fr oth = buildN 4 2 0 (labAt t ed) ((endsG t oth ed.lab).map fun y => tellT t ed.dst y)) := tell_some HV.out HSEP.out (by rw [← HPE.out]; exact HLN.out)
   obtain ⟨hlabl, hlabe⟩ := labAt_idx hok
   have q3 := keeps HBI0.out hpl HQ3.out
   have q2 := keeps HBI0.out hpl HQ2.out
   have hplC : bt < wC.heap.size := Nat.lt_of_lt_of_le hpl hszC
   obtain ⟨be, oe, rfl, -, hbe, e1, e2, e3⟩ := (HER.out.below HBI0.out).edge hn
   rw [← hed] at e1 e2 e3
   have hn0 : ¬ ((n : Nat) : Int) < 0 := by omega
   obtain ⟨tb, htb⟩ : ∃ tb, tb = wC.heap.size := ⟨_, rfl⟩
   obtain ⟨wA, hwA⟩ : ∃ wA, wA = wC.alloc (.cells #[.int .i64 ed.src, .int .i64 ed.lab, .int .i64 ed.dst] 66) := ⟨_, rfl⟩
   have hal : Below wC.heap.size wC wA := by rw [hwA]; exact (Below.refl _ _).alloc (Nat.le_refl _) _
   have HTBX : Hid (Blk wA tb [.int .i64 ed.src, .int .i64 ed.lab, .int .i64 ed.dst] 66) := by unfold Hid; rw [hwA, htb]; exact Blk.new wC _ _
   have HBA : Hid (Below w.heap.size w wA) := HBI0.out.trans (hal.mono hszC)
   have HKA := Lib.hid (HKI0.out.below hal)
   have htbl : w.heap.size ≤ tb := by rw [htb]; exact hszC
   have HWA := Lib.hid hwA
   have HTBE := Lib.hid htb
   clear hfi hlone hok hal hwA htb hed
   go_upto_region 27 with fail
   rw [← HWA.out]
   try rw [← HTBE.out]
   clear q2 q3 e1 e2 e3
   obtain ⟨la9, lc9, hlv, -, -, hlr⟩ := id (HLS.out.below HBA.out)
   subst hlv
   obtain ⟨bl, ol, rfl, -, hbl9, l1⟩ := hlr.one hlabl
   simp only [encS, List.getElem?_cons_zero] at l1
   obtain ⟨ln, hln⟩ : ∃ ln : Nat, (ln : Int) = ed.lab := ⟨ed.lab.toNat, by have := HOK.out.l0; omega⟩
   have hlx : ed.lab.toNat = ln := by omega
   simp only [hlx] at l1 hlabl hlabe
   rw [← hlabe] at l1
   obtain ⟨LT, hLT⟩ : ∃ LT, LT = labAt t ed := ⟨_, rfl⟩
   rw [← hLT] at l1 HTL
   obtain ⟨LN, hLN⟩ : ∃ LN, LN = t.labels.length := ⟨_, rfl⟩
   have q2 := keeps HBA.out hpl HQ2.out
   rw [← hLN] at q2 hlabl
   have t1 := HTBX.out.cell 1 rfl
   rw [← hln] at t1
   have k2 := HKA.out.cell 2 rfl
   have f2 := HKA.out.frozen 2
   have HLNN := Lib.hid hln
   have hLN12 : LN ≤ 12 := by rw [hLN]; exact HV.out.labels.most
   obtain ⟨wB, hwB⟩ : ∃ wB, wB = (wA.setCell ⟨pb, 2, none⟩ (.string LT)).drew := ⟨_, rfl⟩
   have HKB : Hid (Blk wB pb [.int .i64 4, .int .i64 0, .string LT, .bool false] 55) := by unfold Hid; rw [hwB]; exact HKA.out.set 2 _
   have hneb : tb ≠ pb := by
    rintro rfl
    have h1 := HTBX.out
    have h2 := HKA.out
    unfold Blk at h1 h2
    rw [h1] at h2
    simp only [Option.some.injEq, Obj.cells.injEq] at h2
    exact absurd h2.2.1 (by decide)
   have HTBB : Hid (Blk wB tb [.int .i64 ed.src, .int .i64 ed.lab, .int .i64 ed.dst] 66) := by unfold Hid; rw [hwB]; exact HTBX.out.setOther _ _ hneb
   have HBB : Hid (Below w.heap.size w wB) := by unfold Hid; rw [hwB]; exact (HBA.out.setCell hpbl _).drew
   have HWB := Lib.hid hwB
   have hplA : bt < wA.heap.size := Nat.lt_of_lt_of_le hpl HBA.out.size
   have y2 : wA.drew.cell? ⟨bt, 2, none⟩ = _ := q2
   have y1 : wA.drew.cell? ⟨bl, ol + ln, none⟩ = _ := l1
   have y3 : wA.drew.cell? ⟨tb, 1, none⟩ = _ := t1
   clear hwB hlr hlx hln hLT hLN hlabe
   go_region
   all_goals (
    rw [← HWB.out]
    clear q2 l1 t1 k2 f2 y1 y2 y3 HKA HTBX HWA HBA HWB
    obtain ⟨wP, hwP⟩ : ∃ wP, wP = wB.alloc (.cells #[] 27) := ⟨_, rfl⟩
    have hszB : w.heap.size ≤ wB.heap.size := HBB.out.size
    have halP : Below wB.heap.size wB wP := by rw [hwP]; exact (Below.refl _ _).alloc (Nat.le_refl _) _
    have HBP : Hid (Below w.heap.size w wP) := HBB.out.trans (halP.mono hszB)
    have HKP := Lib.hid (HKB.out.below halP)
    have HTP := Lib.hid (HTBB.out.below halP)
    have HOP : Hid (wP.ownsRow w.heap.size 27 1 (.slice (some ⟨wB.heap.size, 0, none⟩) 0 0) 0 []) := by
     have h := World.ownsRow_lit (base := w.heap.size) (size := 1) wB #[] (e := 27) 0 hszB (by simp [maxLen]) rfl
     rw [← hwP] at h
     exact h
    have HWP := Lib.hid hwP
    clear halP hwP HKB HTBB HBB
    obtain ⟨fn, hfn⟩ : ∃ fn : Int → List Nd, fn = fun y => tellT t ed.dst y := ⟨_, rfl⟩
    rw [← hfn] at HTL
    have HFN := Lib.hid hfn
    clear hfn
    go_wp2_with fail
    rw [← HWP.out]
    go_loopw [22, 23, 24] (fun v22 v23 v24 wr => ∃ (i g c sm : Nat) (hs : List Value), i ≤ E ∧ v22 = .slice (some ⟨g, 0, none⟩) hs.length c ∧ v23 = .int .i64 sm ∧ v24 = .int .i64 i ∧ sm = sumN (diffL (fsK t oth ed.lab fn i)) ∧ Below w.heap.size w wr ∧ Blk wr pb [.int .i64 4, .int .i64 0, .string LT, .bool false] 55 ∧ Blk wr tb [.int .i64 ed.src, .int .i64 ed.lab, .int .i64 ed.dst] 66 ∧ wr.ownsRow w.heap.size 27 1 (.slice (some ⟨g, 0, none⟩) hs.length c) hs.length hs ∧ RowsR w hs (diffL (fsK t oth ed.lab fn i)) ∧ [] ∉ fsK t oth ed.lab fn i) (fun _ _ v24 _ => E - (intOf v24).toNat)
    case atStart => exact ⟨0, wB.heap.size, 0, 0, [], Nat.zero_le _, rfl, rfl, rfl, by rw [fsK_zero]; rfl, HBP.out, HKP.out, HTP.out, HOP.out, by rw [fsK_zero]; exact RowsR.nil w, by rw [fsK_zero]; simp⟩
    case round =>
     clear HBP HKP HTP HOP HWP
     obtain ⟨i, g, c, sm, hs, hi, rfl, rfl, rfl, hsm, hbl, hkb, htb, hown, hrows, hne⟩ := hrel
     obtain ⟨wC3, rfl⟩ : ∃ wC3 : World, wC3 = wr := ⟨_, rfl⟩
     have HSM := Lib.hid hsm
     have HB3 := Lib.hid hbl
     have HK3 := Lib.hid hkb
     have HT3 := Lib.hid htb
     have HO3 := Lib.hid hown
     have HR3 := Lib.hid hrows
     have HN3 := Lib.hid hne
     have hsz3 := hbl.size
     have q3 := keeps hbl hpl HQ3.out
     have hpl3 : bt < wC3.heap.size := Nat.lt_of_lt_of_le hpl hsz3
     clear hsm hbl hkb htb hown hrows hne
     by_cases hlt : i < E
     ·have hiE : i < t.edges.length := by rw [← HEE.out]; exact hlt
      obtain ⟨be2, oe2, hbeq, -, hbe2, f1, f2, f3⟩ := (HER.out.below HB3.out).edge hiE
      simp only [Option.some.injEq, Addr.mk.injEq, and_true] at hbeq
      obtain ⟨rfl, rfl⟩ := hbeq
      have t1 := HT3.out.cell 1 rfl
      have htl3 := HT3.out.lt
      have HMI : Hid ((t.edges[i].src == oth && t.edges[i].lab == ed.lab) = false → fsK t oth ed.lab fn (i + 1) = fsK t oth ed.lab fn i) := fsK_miss hiE
      have HHI : Hid ((t.edges[i].src == oth && t.edges[i].lab == ed.lab) = true → fsK t oth ed.lab fn (i + 1) = fsK t oth ed.lab fn i ++ [fn t.edges[i].dst]) := fsK_hit hiE
      have HEND : Hid ((t.edges[i].src == oth && t.edges[i].lab == ed.lab) = true → t.edges[i].dst ∈ endsG t oth ed.lab) := fun h => by
       simp only [Bool.and_eq_true] at h
       exact ends_mem.2 ⟨t.edges[i], List.mem_filter.2 ⟨List.getElem_mem hiE, h.1⟩, by simpa using h.2, rfl⟩
      have hok3 := HV.out.edge i hiE
      obtain ⟨ks, hks⟩ : ∃ ks, ks = t.edges[i].src := ⟨_, rfl⟩
      obtain ⟨kl, hkl⟩ : ∃ kl, kl = t.edges[i].lab := ⟨_, rfl⟩
      obtain ⟨kx, hkx⟩ : ∃ kx, kx = t.edges[i].dst := ⟨_, rfl⟩
      obtain ⟨el, hel⟩ : ∃ el, el = ed.lab := ⟨_, rfl⟩
      rw [← hks] at f1 HMI HHI HEND
      rw [← hkl] at f2 HMI HHI HEND
      rw [← hkx] at f3 HHI HEND
      have HKX : Hid (0 ≤ kx ∧ kx < t.states) := by unfold Hid; rw [hkx]; exact ⟨hok3.d0, hok3.d1⟩
      rw [← hel] at t1 HMI HHI HEND
      have HEL := Lib.hid hel
      have l3 := later_cell hpl3 q3
      have m1 := later_cell hbe2 f1
      have m2 := later_cell hbe2 f2
      have n1 := later_cell htl3 t1
      clear hok3 hks hkl hkx hel
      cases g1 : (ks == oth)
      ·have hg : (ks != oth) = true := by rw [bne, g1]; rfl
       have HFS : Hid (fsK t oth ed.lab fn (i + 1) = fsK t oth ed.lab fn i) := by unfold Hid; rw [← HEL.out]; exact HMI.out (by rw [g1]; rfl)
       clear g1 HMI HHI HEND
       go_wp2
       refine wp_region_later (by kernel_rfl) (by kernel_rfl) ?_
       repeat (go_big_quiet_step ((fail)))
       refine wpQuiet_nil ?_
       intro _ hw9
       obtain ⟨nl, hw8⟩ := hw9
       subst hw8
       have HBN : Hid (Below w.heap.size w nl.w) := HB3.out.trans (nl.h.mono hsz3)
       go_wp2
       go_roundw
       case rel => exact ⟨i + 1, g, c, sm, hs, by omega, rfl, rfl, by go_num, by rw [HFS.out]; exact HSM.out, HBN.out, HK3.out.below nl.h, HT3.out.below nl.h, owns_below HO3.out nl.h, by rw [HFS.out]; exact HR3.out, by rw [HFS.out]; exact HN3.out⟩
       case measure => simp [intOf]; omega
      ·have hg : (ks != oth) = false := by rw [bne, g1]; rfl
       cases g2 : (kl == el)
       ·have hg2 : (kl != el) = true := by rw [bne, g2]; rfl
        have HFS : Hid (fsK t oth ed.lab fn (i + 1) = fsK t oth ed.lab fn i) := by unfold Hid; rw [← HEL.out]; exact HMI.out (by rw [g1, g2]; rfl)
        clear g1 g2 HMI HHI HEND
        go_wp2
        refine wp_region_later (by kernel_rfl) (by kernel_rfl) ?_
        repeat (go_big_quiet_step ((fail)))
        refine wpQuiet_nil ?_
        intro _ hw9
        obtain ⟨nl, hw8⟩ := hw9
        subst hw8
        have HBN : Hid (Below w.heap.size w nl.w) := HB3.out.trans (nl.h.mono hsz3)
        go_wp2
        go_roundw
        case rel => exact ⟨i + 1, g, c, sm, hs, by omega, rfl, rfl, by go_num, by rw [HFS.out]; exact HSM.out, HBN.out, HK3.out.below nl.h, HT3.out.below nl.h, owns_below HO3.out nl.h, by rw [HFS.out]; exact HR3.out, by rw [HFS.out]; exact HN3.out⟩
        case measure => simp [intOf]; omega
       ·have hg2 : (kl != el) = false := by rw [bne, g2]; rfl
        have HFS : Hid (fsK t oth ed.lab fn (i + 1) = fsK t oth ed.lab fn i ++ [fn kx]) := by unfold Hid; rw [← HEL.out]; exact HHI.out (by rw [g1, g2]; rfl)
        have HKM : Hid (kx ∈ endsG t oth ed.lab) := by unfold Hid; rw [← HEL.out]; exact HEND.out (by rw [g1, g2]; rfl)
        have hsp0 := sep_ends HV.out (show d ≤ lastR t by rw [← HLL.out]; omega) (a := fr) (b := oth) (e := ed) (by rw [← HPE.out]; exact HLN.out) HKM.out
        have hsp : 0 < sepR t ed.dst kx ∧ sepR t ed.dst kx ≤ d := hsp0
        have HFX : Hid (fn kx = tellT t ed.dst kx) := congrFun HFN.out kx
        have hed0 := HOK.out.d0
        have hed1 := HOK.out.d1
        have hkx0 := HKX.out
        rw [← HSS.out] at hed1 hkx0
        obtain ⟨xn, yn, P, pv, hxn, hyn, hxS, hyS, hmi, hP16, hix, htaw, hpc, hps⟩ := HTB.out.at hS40 (x := ed.dst) (y := kx) (by omega) (by omega) hsp.1 hsp.2
        rw [← HFX.out] at hps
        obtain ⟨F, hF⟩ : ∃ F, F = fn kx := ⟨_, rfl⟩
        rw [← hF] at HFS HFX hps
        obtain ⟨pa9, pc9, hpe9, hpn9, hpm9, -⟩ := id hps
        have hFl : F.length ≤ 200 := by rw [HFX.out]; exact tellT_short t _ _
        have HFE : Hid (F.length = 0 → F = []) := fun h => List.length_eq_zero_iff.1 h
        obtain ⟨PL, hPL⟩ : ∃ PL, PL = F.length := ⟨_, rfl⟩
        rw [← hPL] at hpe9 hpn9 hFl HFE
        subst hpe9
        have HPS := Lib.hid hps
        have HFK := Lib.hid hF
        have HPL := Lib.hid hPL
        clear hsp0 hsp hed0 hed1 hkx0 hps hF hPL
        clear g1 g2 HMI HHI HEND
        go_wp2
        refine wp_region_later (by kernel_rfl) (by kernel_rfl) ?_
        repeat (go_big_quiet_step ((fail)))
        refine wpQuiet_nil ?_
        intro _ hw9
        obtain ⟨nl, hw8⟩ := hw9
        subst hw8
        obtain ⟨wD, hnl⟩ : ∃ wD, wD = nl.w := ⟨_, rfl⟩
        have hbd : Below wC3.heap.size wC3 wD := by rw [hnl]; exact nl.h
        rw [← hnl]
        clear hnl
        have HBN : Hid (Below w.heap.size w wD) := HB3.out.trans (hbd.mono hsz3)
        have HK4 := Lib.hid (HK3.out.below hbd)
        have HT4 := Lib.hid (HT3.out.below hbd)
        have HO4 := Lib.hid (owns_below HO3.out hbd)
        have q0n := keeps HBN.out hpl HQ0.out
        have q3n := keeps HBN.out hpl HQ3.out
        have f3n := keeps hbd hbe2 f3
        have t2n := HT4.out.cell 2 rfl
        have pcn := keeps HBN.out htaw hpc
        rw [← hxn] at t2n
        rw [← hyn] at f3n
        have HXN := Lib.hid hxn
        have HYN := Lib.hid hyn
        have hsz4 : w.heap.size ≤ wD.heap.size := HBN.out.size
        clear l3 m1 m2 n1 q3 f1 f2 f3 t1 hpc hg hg2 hxn hyn hbd HB3 HK3 HT3 HO3 nl
        by_cases hP0 : PL = 0
        ·have hz : ((PL : Int) == 0) = true := by rw [beq_iff_eq]; omega
         have HNIL : Hid (tellT t fr oth = []) := by
          unfold Hid
          rw [HTL.out]
          unfold buildN
          rw [if_pos]
          exact List.mem_map.2 ⟨kx, HKM.out, by rw [← HFK.out]; exact HFE.out hP0⟩
         clear hP0
         go_wp2
         go_ret
         exact ⟨_, rfl, HBN.out, by rw [HNIL.out]; exact World.ownsRow_nil _ _ _ _⟩
        ·have hz : ((PL : Int) == 0) = false := by rw [beq_eq_false_iff_ne]; omega
         obtain ⟨M, hM⟩ : ∃ M, M = hs.length := ⟨_, rfl⟩
         obtain ⟨D, hD⟩ : ∃ D, D = diffL (fsK t oth ed.lab fn i) := ⟨_, rfl⟩
         have hRL := HR3.out.1
         rw [← hM] at HO4 ⊢
         rw [← hD] at HR3 HSM hRL
         have hDl : D.length ≤ i := by rw [hD]; exact Nat.le_trans (diffL_len _) (fsK_len _ _ _ _ _)
         have HDF : Hid (∀ f ∈ D, f.length ≤ 200) := fun f hf => by
          rw [hD, diffL_mem] at hf
          obtain ⟨z, -, rfl⟩ := List.mem_map.1 (fsK_sub hf)
          rw [HFN.out]
          exact tellT_short t _ _
         have hsmb : sm ≤ 60300 := by have := sumN_le HDF.out; have := HSM.out; omega
         have hMD : D.length = M := by omega
         have HMD := Lib.hid hMD
         have HM := Lib.hid hM
         have HDE := Lib.hid hD
         have hMi : M ≤ 300 := by omega
         have HP0 := Lib.hid hP0
         have HDN : Hid (diffL (fsK t oth ed.lab fn (i + 1)) = addD D F) := by unfold Hid; rw [HFS.out, diffL_snoc, ← HDE.out]
         have HNI : Hid ([] ∉ fsK t oth ed.lab fn (i + 1)) := by
          unfold Hid
          rw [HFS.out, List.mem_append, List.mem_singleton]
          rintro (h | h)
          ·exact HN3.out h
          ·exact HP0.out (by rw [HPL.out, ← h]; rfl)
         clear hM hD hRL hDl hMD hP0
         go_wp2
         clear q0n q3n f3n t2n pcn hz
         go_loopw [28, 29] (fun v28 v29 wr => ∃ (m : Nat) (kn : Bool), m ≤ M ∧ v28 = .bool kn ∧ v29 = .int .i64 m ∧ kn = decide (F ∈ D.take m) ∧ Below wD.heap.size wD wr) (fun _ v29 _ => M - (intOf v29).toNat)
         case atStart => exact ⟨0, false, Nat.zero_le _, rfl, rfl, by simp, Below.refl _ _⟩
         case round =>
          obtain ⟨m, kn, hm, rfl, rfl, hkn, hb4⟩ := hrel
          obtain ⟨wE, rfl⟩ : ∃ wE : World, wE = wr := ⟨_, rfl⟩
          have HKN := Lib.hid hkn
          have HB4 := Lib.hid hb4
          have HBW : Hid (Below w.heap.size w wE) := HBN.out.trans (hb4.mono hsz4)
          have HO5 := Lib.hid (owns_below HO4.out hb4)
          have hszE : w.heap.size ≤ wE.heap.size := HBW.out.size
          clear hkn hb4
          by_cases hlm : m < M
          ·have hmD : m < D.length := by rw [HMD.out]; exact hlm
           have hmh : m < hs.length := by rw [← HM.out]; exact hlm
           have HTK : Hid (decide (F ∈ D.take (m + 1)) = (decide (F ∈ D.take m) || decide (D[m] = F))) := mem_takeM hmD
           cases kn
           ·have c1 := HO5.out.cellAt m (by omega)
            rw [List.getElem?_eq_getElem hmh] at c1
            have hsl := (HR3.out.2 m hmh hmD).below HBW.out
            have HSA := Lib.hid (same14_any 0 0 hs[m] (.slice pa9 PL pc9) D[m] F wE (Nat.le_trans (HDF.out _ (List.getElem_mem hmD)) (by decide)) hsl (HPS.out.below HBW.out))
            obtain ⟨hv, hhv⟩ : ∃ hv, hv = hs[m] := ⟨_, rfl⟩
            obtain ⟨bq, hbq⟩ : ∃ bq, bq = decide (D[m] = F) := ⟨_, rfl⟩
            rw [← hbq] at HSA HTK
            rw [← hhv] at HSA c1
            have HKQ : Hid (bq = decide (F ∈ D.take (m + 1))) := by unfold Hid; rw [HTK.out, ← HKN.out]; rfl
            clear hsl hhv hbq
            go_wp2_with fail
            refine Calls.mono HSA.out ?_
            rintro e wF ⟨rfl, hbF⟩
            have HBF : Hid (Below wD.heap.size wD wF) := HB4.out.trans (hbF.mono HB4.out.size)
            clear hbF HSA c1
            go_wp2
            go_roundw
            case rel => exact ⟨m + 1, bq, by omega, rfl, by go_num, HKQ.out, HBF.out⟩
            case measure => simp [intOf]; omega
           ·have HKQ : Hid (true = decide (F ∈ D.take (m + 1))) := by unfold Hid; rw [HTK.out, ← HKN.out]; rfl
            go_wp2
            go_roundw
            case rel => exact ⟨m + 1, true, by omega, rfl, by go_num, HKQ.out, HB4.out⟩
            case measure => simp [intOf]; omega
          ·have HKA : Hid (kn = decide (F ∈ D)) := by
            unfold Hid
            rw [HKN.out, List.take_of_length_le (by rw [HMD.out]; omega)]
           have HK5 := Lib.hid (HK4.out.below HB4.out)
           have HT5 := Lib.hid (HT4.out.below HB4.out)
           cases kn
           ·have HDA : Hid (diffL (fsK t oth ed.lab fn (i + 1)) = D ++ [F]) := by
             unfold Hid
             rw [HDN.out]
             unfold addD
             rw [if_neg (of_decide_eq_false HKA.out.symm)]
            have hbx : wE.heap.size ≤ (wE.alloc (.cells #[.slice pa9 PL pc9] 27)).heap.size := by simp
            go_wp2_with (at_builtin; refine wpList_append_lies _ rfl _ _ 47 rfl w.heap.size 27 i2 (.slice none 0 0) 1 24 Tryz.underlying47 hi2 hz20 hz21 hz22 rfl (by decide) _ _ _ rfl (HO5.out.alloc _) ⟨wE.heap.size, 0, none⟩ 1 1 [.slice pa9 PL pc9] rfl rfl ?c1 ?c2 ?c3 ?c4 ?c5 ?c6 _ rfl ?_)
            case c1 => exact World.news_of_block (cs := #[.slice pa9 PL pc9]) (t := 27) (fr := (0, 0)) (heap_alloc_new _ _)
            case c2 => intro u hu; simp at hu; subst hu; rfl
            case c3 => omega
            case c4 => simp [maxLen]; omega
            case c5 => omega
            case c6 => simp; omega
            intro g3 cap3 w3 ho3 hg3 hat3 hlt3
            have hal : Below wE.heap.size wE (wE.alloc (.cells #[.slice pa9 PL pc9] 27)) := (Below.refl _ _).alloc (Nat.le_refl _) _
            have hoA := owns_below HO5.out hal
            have hkA := HK5.out.below hal
            have htA := HT5.out.below hal
            have HK6 := Lib.hid (hkA.keptM hg3 (own_farM hoA hkA (by decide)))
            have HT6 := Lib.hid (htA.keptM hg3 (own_farM hoA htA (by decide)))
            have HB6 : Hid (Below w.heap.size w w3) := (HBW.out.trans (hal.mono hszE)).grown hg3 (by simp; omega) (fun b e => (HO5.out.lt b e).1)
            have HR6 : Hid (RowsR w (hs ++ [.slice pa9 PL pc9]) (D ++ [F])) := HR3.out.snoc HPS.out
            have HLS6 : Hid ((hs ++ [Value.slice pa9 PL pc9]).length = M + 1) := by unfold Hid; rw [List.length_append, ← HM.out]; rfl
            have HO6 := Lib.hid ho3
            have HSM6 : Hid (sm + (PL + 1) = sumN (D ++ [F])) := by unfold Hid; rw [sumN_snoc, HSM.out, HPL.out]
            clear ho3 hg3 hat3 hlt3 hal hoA hkA htA hbx
            go_wp2
            go_roundw
            case rel => exact ⟨i + 1, g3, cap3, sm + (PL + 1), hs ++ [.slice pa9 PL pc9], by omega, by rw [HLS6.out], by first | rfl | go_num, by go_num, by rw [HDA.out]; exact HSM6.out, HB6.out, HK6.out, HT6.out, by rw [HLS6.out]; exact HO6.out, by rw [HDA.out]; exact HR6.out, HNI.out⟩
            case measure => simp [intOf]; omega
           ·have HDA : Hid (diffL (fsK t oth ed.lab fn (i + 1)) = D) := by
             unfold Hid
             rw [HDN.out]
             unfold addD
             rw [if_pos (of_decide_eq_true HKA.out.symm)]
            go_wp2
            go_roundw
            case rel => exact ⟨i + 1, g, c, sm, hs, by omega, by rw [HM.out], rfl, by go_num, by rw [HDA.out]; exact HSM.out, HBW.out, HK5.out, HT5.out, by rw [← HM.out]; exact HO5.out, by rw [HDA.out]; exact HR3.out, HNI.out⟩
            case measure => simp [intOf]; omega
     ·have HIE : Hid (i = t.edges.length) := by have := HEE.out; unfold Hid; omega
      have HFE : Hid (fsK t oth ed.lab fn i = (endsG t oth ed.lab).map fn) := by unfold Hid; rw [HIE.out]; exact fsK_all t _ _ fn
      rw [HFE.out] at HSM HR3 HN3
      have hRL := HR3.out.1
      obtain ⟨D, hD⟩ : ∃ D, D = diffL ((endsG t oth ed.lab).map fn) := ⟨_, rfl⟩
      obtain ⟨M, hM⟩ : ∃ M, M = hs.length := ⟨_, rfl⟩
      rw [← hD] at HSM HR3 hRL
      rw [← hM] at HO3 hRL ⊢
      have HDE := Lib.hid hD
      have HM := Lib.hid hM
      have HDF : Hid (∀ f ∈ D, f.length ≤ 200) := fun f hf => by
       rw [hD, diffL_mem] at hf
       obtain ⟨z, -, rfl⟩ := List.mem_map.1 hf
       rw [HFN.out]
       exact tellT_short t _ _
      have hMi : M ≤ 300 := by
       have h1 := diffL_len ((endsG t oth ed.lab).map fn)
       have h2 := fsK_len t oth ed.lab fn i
       rw [← hD] at h1
       rw [HFE.out] at h2
       omega
      have hsmb : sm ≤ 60300 := by have := sumN_le HDF.out; have := HSM.out; omega
      have HMD : Hid (D.length = M) := hRL.symm
      clear hD hM hRL
      by_cases hbig : 200 < sm
      ·have HNIL : Hid (tellT t fr oth = []) := by
        have hne : (endsG t oth ed.lab).map fn ≠ [] := by
         intro h
         have h1 := HSM.out
         rw [HDE.out, h, diffL_nil] at h1
         have h2 : sumN [] = 0 := rfl
         omega
        unfold Hid
        rw [HTL.out, build_ok HN3.out hne, ← HDE.out, ← HSM.out, if_pos hbig]
       go_wp2
       go_ret
       exact ⟨_, rfl, HB3.out, by rw [HNIL.out]; exact World.ownsRow_nil _ _ _ _⟩
      ·have hk0 := HK3.out.cell 0 rfl
       have hk1 := HK3.out.cell 1 rfl
       have hk2 := HK3.out.cell 2 rfl
       have hk3 := HK3.out.cell 3 rfl
       obtain ⟨WO, hWO⟩ : ∃ WO, WO = wC3.alloc (.cells #[.int .i64 4, .int .i64 0, .string LT, .bool false] 55) := ⟨_, rfl⟩
       have hal : Below wC3.heap.size wC3 WO := by rw [hWO]; exact (Below.refl _ _).alloc (Nat.le_refl _) _
       have HBO : Hid (Below w.heap.size w WO) := HB3.out.trans (hal.mono hsz3)
       have HOH := Lib.hid (owns_below HO3.out hal)
       have hszO : w.heap.size ≤ WO.heap.size := HBO.out.size
       obtain ⟨ob, hob⟩ : ∃ ob, ob = wC3.heap.size := ⟨_, rfl⟩
       have HOO : Hid (WO.ownsRow w.heap.size 55 4 (.slice (some ⟨ob, 0, none⟩) 1 1) 1 [.int .i64 4, .int .i64 0, .string LT, .bool false]) := by
        have h := World.ownsRow_lit (base := w.heap.size) (size := 4) wC3 #[.int .i64 4, .int .i64 0, .string LT, .bool false] (e := 55) 1 hsz3 (by simp [maxLen]) rfl
        rw [← hWO, ← hob] at h
        exact h
       have HWO := Lib.hid hWO
       have hszO2 : WO.heap.size = ob + 1 := by rw [hWO, hob]; simp
       have HSO2 := Lib.hid hszO2
       have HOB := Lib.hid hob
       clear hal hWO hob HB3 HK3 HT3 hszO2
       by_cases hM0 : M = 0
       ·have HVAL : Hid (tellT t fr oth = [⟨4, LT⟩, ⟨0, ByteArray.empty⟩]) := by
         have h0 : (endsG t oth ed.lab).map fn = [] := diffL_empty.1 (by rw [← HDE.out]; exact List.length_eq_zero_iff.1 (by rw [HMD.out]; exact hM0))
         unfold Hid
         rw [HTL.out, h0]
         exact build_none
        subst hM0
        obtain ⟨WL, hWL⟩ : ∃ WL, WL = WO.alloc (.cells #[.int .i64 0, .int .i64 0, .string ⟨#[]⟩, .bool false] 55) := ⟨_, rfl⟩
        have hszO2 := HSO2.out
        have hal : Below WO.heap.size WO WL := by rw [hWL]; exact (Below.refl _ _).alloc (Nat.le_refl _) _
        have hszL : WL.heap.size = ob + 1 + 1 := by rw [hWL]; simp; omega
        have HSL := Lib.hid hszL
        have HBL : Hid (Below w.heap.size w WL) := HBO.out.trans (hal.mono hszO)
        have HOL := Lib.hid (owns_below HOO.out hal)
        have HWL := Lib.hid hWL
        have hszL2 : w.heap.size ≤ WL.heap.size := by omega
        clear hWL hal hszO2 hszL
        go_wp2_with (at_builtin; rw [← HWO.out, ← HOB.out, ← HWL.out]; refine wpList_append_lies _ rfl _ _ 27 rfl w.heap.size 55 i4 _ 4 40 Tryz.underlying27 hi4 hz40 hz41 hz42 rfl (by decide) _ _ _ rfl (HOL.out.alloc _) ⟨ob + 1 + 1, 0, none⟩ 1 1 [.int .i64 0, .int .i64 0, .string ⟨#[]⟩, .bool false] rfl rfl ?c1 ?c2 ?c3 ?c4 ?c5 ?c6 _ rfl ?_)
        case c1 => rw [← HSL.out]; exact World.news_of_block (cs := #[.int .i64 0, .int .i64 0, .string ⟨#[]⟩, .bool false]) (t := 55) (fr := (0, 0)) (heap_alloc_new _ _)
        case c2 => intro u hu; simp at hu; rcases hu with rfl | rfl | rfl | rfl <;> rfl
        case c3 => omega
        case c4 => simp [maxLen]
        case c5 => omega
        case c6 => simp; omega
        intro g9 c9 w9 ho9 hg9 hat9 hlt9
        have HB9 : Hid (Below w.heap.size w w9) := (HBL.out.alloc hszL2 _).grown hg9 (by simp; omega) (fun b e => (HOL.out.lt b e).1)
        have HO9 := Lib.hid ho9
        clear ho9 hg9 hat9 hlt9
        go_wp2
        go_loopw [30, 32] (fun v30 v32 wr => v30 = .slice (some ⟨g9, 0, none⟩) 2 c9 ∧ v32 = .int .i64 0 ∧ w9 = wr) (fun _ _ _ => 0)
        case atStart => exact ⟨rfl, rfl, rfl⟩
        case round =>
         obtain ⟨rfl, rfl, rfl⟩ := hrel
         go_wp2
         go_ret
         refine ⟨_, rfl, HB9.out, ?_⟩
         rw [HVAL.out]
         unfold FormO
         exact HO9.out
       ·have hz : ((M : Int) == 0) = false := by rw [beq_eq_false_iff_ne]; omega
        have HVAL : Hid (tellT t fr oth = ⟨4, LT⟩ :: joinT 2 D M) := by
         have hne : (endsG t oth ed.lab).map fn ≠ [] := by
          intro h
          apply hM0
          rw [← HMD.out, HDE.out, h, diffL_nil]
          rfl
         unfold Hid
         rw [HTL.out, build_ok HN3.out hne, ← HDE.out, ← HSM.out, if_neg hbig, ← HMD.out, joinT_all]
        have HD0 : Hid (0 < D.length) := by have := HMD.out; unfold Hid; omega
        clear hM0
        go_wp2_with fail
        rw [← HWO.out, ← HOB.out]
        clear hk0 hk1 hk2 hk3 hz q3
        go_loopw [30, 32] (fun v30 v32 wr => ∃ (j g6 c6 : Nat), j ≤ M ∧ v30 = .slice (some ⟨g6, 0, none⟩) ((joinT 2 D j).length + 1) c6 ∧ v32 = .int .i64 j ∧ Below w.heap.size w wr ∧ wr.ownsRow w.heap.size 55 4 (.slice (some ⟨g6, 0, none⟩) ((joinT 2 D j).length + 1) c6) ((joinT 2 D j).length + 1) (encN ⟨4, LT⟩ ++ (joinT 2 D j).flatMap encN) ∧ wr.ownsRow w.heap.size 27 1 (.slice (some ⟨g, 0, none⟩) M c) M hs) (fun _ v32 _ => M - (intOf v32).toNat)
        case atStart => exact ⟨0, ob, 1, Nat.zero_le _, by rw [joinT_zero HD0.out]; rfl, rfl, HBO.out, by rw [joinT_zero HD0.out]; exact HOO.out, HOH.out⟩
        case round =>
         clear HBO HOO HOH HWO HOB hszO
         obtain ⟨j, g6, c6, hj, rfl, rfl, hb6, ho6, hh6⟩ := hrel
         obtain ⟨wX, rfl⟩ : ∃ wX : World, wX = wr := ⟨_, rfl⟩
         obtain ⟨NL, hNL⟩ : ∃ NL, NL = (joinT 2 D j).length := ⟨_, rfl⟩
         rw [← hNL] at ho6 ⊢
         have hNL2 : NL ≤ 200 := by rw [hNL]; have := joinT_len 2 D j; have := HSM.out; omega
         have HNL := Lib.hid hNL
         have HBX := Lib.hid hb6
         have HON := Lib.hid ho6
         have HOX := Lib.hid hh6
         have hszX := hb6.size
         clear hNL hb6 ho6 hh6
         by_cases hlj : j < M
         ·have hjD : j < D.length := by rw [HMD.out]; exact hlj
          have hjh : j < hs.length := by rw [← HM.out]; exact hlj
          have HDJ : Hid (D[j] ≠ []) := fun h => by
           have h1 := List.getElem_mem hjD
           rw [h, HDE.out, diffL_mem] at h1
           exact HN3.out h1
          obtain ⟨bq, oq, cq, hqe, -, hqb, hqc⟩ := form_cells ((HR3.out.2 j hjh hjD)) HDJ.out
          obtain ⟨QL, hQL⟩ : ∃ QL, QL = D[j].length := ⟨_, rfl⟩
          have HC7 : Hid (∀ w' : World, w'.ownsRow w.heap.size 27 1 (.slice (some ⟨g, 0, none⟩) M c) M hs → w'.cell? ⟨g, j, none⟩ = some (.slice (some ⟨bq, oq, none⟩) QL cq)) := fun w' h => by
           have c7 := h.cellAt j (by omega)
           rw [List.getElem?_eq_getElem hjh, hqe, ← hQL] at c7
           exact c7
          have hQ1 : 0 < QL := by rw [hQL]; exact List.length_pos_iff.2 HDJ.out
          have HQC := Lib.hid (fun (w' : World) (hw : Below w.heap.size w w') => news_below hqb hqc hw)
          have HQF : Hid ((D[j].flatMap encN).length = QL * 4) := by unfold Hid; rw [flatN_len, ← hQL]
          have hQS : NL + QL + 1 ≤ 201 := by have := joinT_len2 (kind := 2) hjD; have := HNL.out; have := HSM.out; omega
          have HQL := Lib.hid hQL
          clear hqe hqb hqc hQL
          by_cases hlj1 : j + 1 < M
          ·have HJN : Hid (joinT 2 D (j + 1) = joinT 2 D j ++ [⟨2, ByteArray.empty⟩] ++ D[j]) := joinT_mid (by rw [HMD.out]; exact hlj1)
           have hgd : decide ((j : Int) < (M : Int) - 1) = true := decide_eq_true (by omega)
           have HC8 := Lib.hid HC7.out
           obtain ⟨WJ, hWJ⟩ : ∃ WJ, WJ = wX.alloc (.cells #[.int .i64 2, .int .i64 0, .string ⟨#[]⟩, .bool false] 55) := ⟨_, rfl⟩
           have hal : Below wX.heap.size wX WJ := by rw [hWJ]; exact (Below.refl _ _).alloc (Nat.le_refl _) _
           have HNW : Hid (WJ.heap[wX.heap.size]? = some (.cells #[.int .i64 2, .int .i64 0, .string ⟨#[]⟩, .bool false] 55 (0, 0))) := by unfold Hid; rw [hWJ]; exact heap_alloc_new _ _
           have HBJ := Lib.hid (HBX.out.trans (hal.mono hszX))
           have HOJ := Lib.hid (owns_below HON.out hal)
           have HHJ := Lib.hid (owns_below HOX.out hal)
           have HWJ := Lib.hid hWJ
           have hszJ : wX.heap.size ≤ WJ.heap.size := hal.size
           clear hWJ hal
           go_wp2_with (at_builtin; rw [← HWJ.out]; refine wpList_append_lies _ rfl _ _ 27 rfl w.heap.size 55 i4 _ 4 40 Tryz.underlying27 hi4 hz40 hz41 hz42 rfl (by decide) _ _ _ rfl HOJ.out ⟨wX.heap.size, 0, none⟩ 1 1 [.int .i64 2, .int .i64 0, .string ⟨#[]⟩, .bool false] rfl rfl ?c1 ?c2 ?c3 ?c4 ?c5 ?c6 _ rfl ?_)
           case c1 => exact World.news_of_block (cs := #[.int .i64 2, .int .i64 0, .string ⟨#[]⟩, .bool false]) (t := 55) (fr := (0, 0)) HNW.out
           case c2 => intro u hu; simp at hu; rcases hu with rfl | rfl | rfl | rfl <;> rfl
           case c3 => omega
           case c4 => simp [maxLen]; omega
           case c5 => omega
           case c6 => omega
           intro g8 c8 w8 ho8 hg8 hat8 hlt8
           have HH8 := Lib.hid (HHJ.out.kept hg8 (own_types HHJ.out HOJ.out (by decide)))
           have HO8 := Lib.hid ho8
           have HB8 : Hid (Below w.heap.size w w8) := HBJ.out.grown hg8 (by omega) (fun b e => (HOJ.out.lt b e).1)
           have hsz8 := HB8.out.size
           have c7 := HC8.out w8 HH8.out
           have HQC8 := Lib.hid (HQC.out w8 HB8.out)
           clear ho8 hg8 hat8 hlt8
           go_wp2_with (at_builtin; refine wpList_append_lies _ rfl _ _ 27 rfl w.heap.size 55 i4 _ 4 40 Tryz.underlying27 hi4 hz40 hz41 hz42 rfl (by decide) _ _ _ rfl HO8.out ⟨bq, oq, none⟩ QL cq (D[j].flatMap encN) rfl ?d1 HQC8.out (flatN_one _) ?d3 ?d4 ?d5 ?d6 _ rfl ?_)
           case d1 => exact HQF.out
           case d3 => exact hQ1
           case d4 => simp [maxLen]; omega
           case d5 => omega
           case d6 => omega
           intro g9 c9 w9 ho9 hg9 hat9 hlt9
           have HH9 := Lib.hid (HH8.out.kept hg9 (own_types HH8.out HO8.out (by decide)))
           have HB9 : Hid (Below w.heap.size w w9) := HB8.out.grown hg9 (by omega) (fun b e => (HO8.out.lt b e).1)
           have HV7 : Hid ((joinT 2 D (j + 1)).length + 1 = NL + 1 + 1 + QL) := by unfold Hid; rw [HJN.out]; simp only [List.length_append, List.length_cons, List.length_nil, ← HQL.out, ← HNL.out]; omega
           have HO9 : Hid (w9.ownsRow w.heap.size 55 4 (.slice (some ⟨g9, 0, none⟩) ((joinT 2 D (j + 1)).length + 1) c9) ((joinT 2 D (j + 1)).length + 1) (encN ⟨4, LT⟩ ++ (joinT 2 D (j + 1)).flatMap encN)) := by
            unfold Hid
            rw [HV7.out, HJN.out]
            have hen : encN ⟨2, ByteArray.empty⟩ = [.int .i64 2, .int .i64 0, .string ⟨#[]⟩, .bool false] := rfl
            simpa only [hen, List.flatMap_append, List.append_assoc, List.flatMap_cons, List.flatMap_nil, List.append_nil, List.cons_append, List.nil_append] using ho9
           clear ho9 hg9 hat9 hlt9 c7
           go_wp2
           go_roundw
           case rel => exact ⟨j + 1, g9, c9, by omega, by rw [HV7.out], by go_num, HB9.out, HO9.out, HH9.out⟩
           case measure => simp [intOf]; omega
          ·have HJN : Hid (joinT 2 D (j + 1) = joinT 2 D j ++ D[j]) := joinT_last hjD (by rw [HMD.out]; omega)
           have hgd : decide ((j : Int) < (M : Int) - 1) = false := decide_eq_false (by omega)
           have c7 := HC7.out wX HOX.out
           have HQC8 := Lib.hid (HQC.out wX HBX.out)
           go_wp2_with (at_builtin; refine wpList_append_lies _ rfl _ _ 27 rfl w.heap.size 55 i4 _ 4 40 Tryz.underlying27 hi4 hz40 hz41 hz42 rfl (by decide) _ _ _ rfl HON.out ⟨bq, oq, none⟩ QL cq (D[j].flatMap encN) rfl ?d1 HQC8.out (flatN_one _) ?d3 ?d4 ?d5 ?d6 _ rfl ?_)
           case d1 => exact HQF.out
           case d3 => exact hQ1
           case d4 => simp [maxLen]; omega
           case d5 => omega
           case d6 => omega
           intro g9 c9 w9 ho9 hg9 hat9 hlt9
           have HH9 := Lib.hid (HOX.out.kept hg9 (own_types HOX.out HON.out (by decide)))
           have HB9 : Hid (Below w.heap.size w w9) := HBX.out.grown hg9 (by omega) (fun b e => (HON.out.lt b e).1)
           have HV7 : Hid ((joinT 2 D (j + 1)).length + 1 = NL + 1 + QL) := by unfold Hid; rw [HJN.out]; simp only [List.length_append, ← HQL.out, ← HNL.out]; omega
           have HO9 : Hid (w9.ownsRow w.heap.size 55 4 (.slice (some ⟨g9, 0, none⟩) ((joinT 2 D (j + 1)).length + 1) c9) ((joinT 2 D (j + 1)).length + 1) (encN ⟨4, LT⟩ ++ (joinT 2 D (j + 1)).flatMap encN)) := by
            unfold Hid
            rw [HV7.out, HJN.out]
            have hen : encN ⟨2, ByteArray.empty⟩ = [.int .i64 2, .int .i64 0, .string ⟨#[]⟩, .bool false] := rfl
            simpa only [hen, List.flatMap_append, List.append_assoc, List.flatMap_cons, List.flatMap_nil, List.append_nil, List.cons_append, List.nil_append] using ho9
           clear ho9 hg9 hat9 hlt9 c7
           go_wp2
           go_roundw
           case rel => exact ⟨j + 1, g9, c9, by omega, by rw [HV7.out], by go_num, HB9.out, HO9.out, HH9.out⟩
           case measure => simp [intOf]; omega
         ·go_wp2
          go_ret
          obtain rfl : j = M := by omega
          refine ⟨_, rfl, HBX.out, ?_⟩
          unfold FormO
          rw [HVAL.out, List.length_cons, List.flatMap_cons, ← HNL.out]
          exact HON.out)
  ·rcases hr with ⟨-, hl2⟩ | ⟨n, rfl, hfi⟩
   ·exact absurd hl2 (HNOT.out hln)
   ·have HLN0 := Lib.hid hln
    clear hln
    obtain ⟨hn, hlone⟩ := hfi.lone
    have hok := HV.out.edge n hn
    have hnE : n < E := by rw [HEE.out]; exact hn
    obtain ⟨ed, hed⟩ : ∃ ed, ed = t.edges[n] := ⟨_, rfl⟩
    rw [← hed] at hlone hok
    have HLN := Lib.hid hlone
    have HOK := Lib.hid hok
    have HED := Lib.hid hed
    have HTL : Hid (tellT t oth fr = buildN 5 3 1 (labAt t ed) ((endsG t oth ed.lab).map fun x => tellT t x ed.dst)) := tell_none HV.out HSEP.out (by rw [← HPE.out]; exact HLN0.out) (by rw [← HPE.out]; exact HLN.out)
    obtain ⟨hlabl, hlabe⟩ := labAt_idx hok
    have q3 := keeps HBI0.out hpl HQ3.out
    have q2 := keeps HBI0.out hpl HQ2.out
    have hplC : bt < wC.heap.size := Nat.lt_of_lt_of_le hpl hszC
    obtain ⟨be, oe, rfl, -, hbe, e1, e2, e3⟩ := (HER.out.below HBI0.out).edge hn
    rw [← hed] at e1 e2 e3
    have hn0 : ¬ ((n : Nat) : Int) < 0 := by omega
    obtain ⟨tb, htb⟩ : ∃ tb, tb = wC.heap.size := ⟨_, rfl⟩
    obtain ⟨wA, hwA⟩ : ∃ wA, wA = wC.alloc (.cells #[.int .i64 ed.src, .int .i64 ed.lab, .int .i64 ed.dst] 66) := ⟨_, rfl⟩
    have hal : Below wC.heap.size wC wA := by rw [hwA]; exact (Below.refl _ _).alloc (Nat.le_refl _) _
    have HTBX : Hid (Blk wA tb [.int .i64 ed.src, .int .i64 ed.lab, .int .i64 ed.dst] 66) := by unfold Hid; rw [hwA, htb]; exact Blk.new wC _ _
    have HBA : Hid (Below w.heap.size w wA) := HBI0.out.trans (hal.mono hszC)
    have HKA := Lib.hid (HKI0.out.below hal)
    have htbl : w.heap.size ≤ tb := by rw [htb]; exact hszC
    have HWA := Lib.hid hwA
    have HTBE := Lib.hid htb
    clear hfi hlone hok hal hwA htb hed
    go_upto_region 27 with fail
    rw [← HWA.out]
    try rw [← HTBE.out]
    clear q2 q3 e1 e2 e3
    obtain ⟨la9, lc9, hlv, -, -, hlr⟩ := id (HLS.out.below HBA.out)
    subst hlv
    obtain ⟨bl, ol, rfl, -, hbl9, l1⟩ := hlr.one hlabl
    simp only [encS, List.getElem?_cons_zero] at l1
    obtain ⟨ln, hln⟩ : ∃ ln : Nat, (ln : Int) = ed.lab := ⟨ed.lab.toNat, by have := HOK.out.l0; omega⟩
    have hlx : ed.lab.toNat = ln := by omega
    simp only [hlx] at l1 hlabl hlabe
    rw [← hlabe] at l1
    obtain ⟨LT, hLT⟩ : ∃ LT, LT = labAt t ed := ⟨_, rfl⟩
    rw [← hLT] at l1 HTL
    obtain ⟨LN, hLN⟩ : ∃ LN, LN = t.labels.length := ⟨_, rfl⟩
    have q2 := keeps HBA.out hpl HQ2.out
    rw [← hLN] at q2 hlabl
    have t1 := HTBX.out.cell 1 rfl
    rw [← hln] at t1
    have k2 := HKA.out.cell 2 rfl
    have f2 := HKA.out.frozen 2
    have HLNN := Lib.hid hln
    have hLN12 : LN ≤ 12 := by rw [hLN]; exact HV.out.labels.most
    obtain ⟨wB, hwB⟩ : ∃ wB, wB = (wA.setCell ⟨pb, 2, none⟩ (.string LT)).drew := ⟨_, rfl⟩
    have HKB : Hid (Blk wB pb [.int .i64 5, .int .i64 0, .string LT, .bool false] 55) := by unfold Hid; rw [hwB]; exact HKA.out.set 2 _
    have hneb : tb ≠ pb := by
     rintro rfl
     have h1 := HTBX.out
     have h2 := HKA.out
     unfold Blk at h1 h2
     rw [h1] at h2
     simp only [Option.some.injEq, Obj.cells.injEq] at h2
     exact absurd h2.2.1 (by decide)
    have HTBB : Hid (Blk wB tb [.int .i64 ed.src, .int .i64 ed.lab, .int .i64 ed.dst] 66) := by unfold Hid; rw [hwB]; exact HTBX.out.setOther _ _ hneb
    have HBB : Hid (Below w.heap.size w wB) := by unfold Hid; rw [hwB]; exact (HBA.out.setCell hpbl _).drew
    have HWB := Lib.hid hwB
    have hplA : bt < wA.heap.size := Nat.lt_of_lt_of_le hpl HBA.out.size
    have y2 : wA.drew.cell? ⟨bt, 2, none⟩ = _ := q2
    have y1 : wA.drew.cell? ⟨bl, ol + ln, none⟩ = _ := l1
    have y3 : wA.drew.cell? ⟨tb, 1, none⟩ = _ := t1
    clear hwB hlr hlx hln hLT hLN hlabe
    go_region
    all_goals (
     rw [← HWB.out]
     clear q2 l1 t1 k2 f2 y1 y2 y3 HKA HTBX HWA HBA HWB
     obtain ⟨wP, hwP⟩ : ∃ wP, wP = wB.alloc (.cells #[] 27) := ⟨_, rfl⟩
     have hszB : w.heap.size ≤ wB.heap.size := HBB.out.size
     have halP : Below wB.heap.size wB wP := by rw [hwP]; exact (Below.refl _ _).alloc (Nat.le_refl _) _
     have HBP : Hid (Below w.heap.size w wP) := HBB.out.trans (halP.mono hszB)
     have HKP := Lib.hid (HKB.out.below halP)
     have HTP := Lib.hid (HTBB.out.below halP)
     have HOP : Hid (wP.ownsRow w.heap.size 27 1 (.slice (some ⟨wB.heap.size, 0, none⟩) 0 0) 0 []) := by
      have h := World.ownsRow_lit (base := w.heap.size) (size := 1) wB #[] (e := 27) 0 hszB (by simp [maxLen]) rfl
      rw [← hwP] at h
      exact h
     have HWP := Lib.hid hwP
     clear halP hwP HKB HTBB HBB
     obtain ⟨fn, hfn⟩ : ∃ fn : Int → List Nd, fn = fun x => tellT t x ed.dst := ⟨_, rfl⟩
     rw [← hfn] at HTL
     have HFN := Lib.hid hfn
     clear hfn
     go_wp2_with fail
     rw [← HWP.out]
     go_loopw [22, 23, 24] (fun v22 v23 v24 wr => ∃ (i g c sm : Nat) (hs : List Value), i ≤ E ∧ v22 = .slice (some ⟨g, 0, none⟩) hs.length c ∧ v23 = .int .i64 sm ∧ v24 = .int .i64 i ∧ sm = sumN (diffL (fsK t oth ed.lab fn i)) ∧ Below w.heap.size w wr ∧ Blk wr pb [.int .i64 5, .int .i64 0, .string LT, .bool false] 55 ∧ Blk wr tb [.int .i64 ed.src, .int .i64 ed.lab, .int .i64 ed.dst] 66 ∧ wr.ownsRow w.heap.size 27 1 (.slice (some ⟨g, 0, none⟩) hs.length c) hs.length hs ∧ RowsR w hs (diffL (fsK t oth ed.lab fn i)) ∧ [] ∉ fsK t oth ed.lab fn i) (fun _ _ v24 _ => E - (intOf v24).toNat)
     case atStart => exact ⟨0, wB.heap.size, 0, 0, [], Nat.zero_le _, rfl, rfl, rfl, by rw [fsK_zero]; rfl, HBP.out, HKP.out, HTP.out, HOP.out, by rw [fsK_zero]; exact RowsR.nil w, by rw [fsK_zero]; simp⟩
     case round =>
      clear HBP HKP HTP HOP HWP
      obtain ⟨i, g, c, sm, hs, hi, rfl, rfl, rfl, hsm, hbl, hkb, htb, hown, hrows, hne⟩ := hrel
      obtain ⟨wC3, rfl⟩ : ∃ wC3 : World, wC3 = wr := ⟨_, rfl⟩
      have HSM := Lib.hid hsm
      have HB3 := Lib.hid hbl
      have HK3 := Lib.hid hkb
      have HT3 := Lib.hid htb
      have HO3 := Lib.hid hown
      have HR3 := Lib.hid hrows
      have HN3 := Lib.hid hne
      have hsz3 := hbl.size
      have q3 := keeps hbl hpl HQ3.out
      have hpl3 : bt < wC3.heap.size := Nat.lt_of_lt_of_le hpl hsz3
      clear hsm hbl hkb htb hown hrows hne
      by_cases hlt : i < E
      ·have hiE : i < t.edges.length := by rw [← HEE.out]; exact hlt
       obtain ⟨be2, oe2, hbeq, -, hbe2, f1, f2, f3⟩ := (HER.out.below HB3.out).edge hiE
       simp only [Option.some.injEq, Addr.mk.injEq, and_true] at hbeq
       obtain ⟨rfl, rfl⟩ := hbeq
       have t1 := HT3.out.cell 1 rfl
       have htl3 := HT3.out.lt
       have HMI : Hid ((t.edges[i].src == oth && t.edges[i].lab == ed.lab) = false → fsK t oth ed.lab fn (i + 1) = fsK t oth ed.lab fn i) := fsK_miss hiE
       have HHI : Hid ((t.edges[i].src == oth && t.edges[i].lab == ed.lab) = true → fsK t oth ed.lab fn (i + 1) = fsK t oth ed.lab fn i ++ [fn t.edges[i].dst]) := fsK_hit hiE
       have HEND : Hid ((t.edges[i].src == oth && t.edges[i].lab == ed.lab) = true → t.edges[i].dst ∈ endsG t oth ed.lab) := fun h => by
        simp only [Bool.and_eq_true] at h
        exact ends_mem.2 ⟨t.edges[i], List.mem_filter.2 ⟨List.getElem_mem hiE, h.1⟩, by simpa using h.2, rfl⟩
       have hok3 := HV.out.edge i hiE
       obtain ⟨ks, hks⟩ : ∃ ks, ks = t.edges[i].src := ⟨_, rfl⟩
       obtain ⟨kl, hkl⟩ : ∃ kl, kl = t.edges[i].lab := ⟨_, rfl⟩
       obtain ⟨kx, hkx⟩ : ∃ kx, kx = t.edges[i].dst := ⟨_, rfl⟩
       obtain ⟨el, hel⟩ : ∃ el, el = ed.lab := ⟨_, rfl⟩
       rw [← hks] at f1 HMI HHI HEND
       rw [← hkl] at f2 HMI HHI HEND
       rw [← hkx] at f3 HHI HEND
       have HKX : Hid (0 ≤ kx ∧ kx < t.states) := by unfold Hid; rw [hkx]; exact ⟨hok3.d0, hok3.d1⟩
       rw [← hel] at t1 HMI HHI HEND
       have HEL := Lib.hid hel
       have l3 := later_cell hpl3 q3
       have m1 := later_cell hbe2 f1
       have m2 := later_cell hbe2 f2
       have n1 := later_cell htl3 t1
       clear hok3 hks hkl hkx hel
       cases g1 : (ks == oth)
       ·have hg : (ks != oth) = true := by rw [bne, g1]; rfl
        have HFS : Hid (fsK t oth ed.lab fn (i + 1) = fsK t oth ed.lab fn i) := by unfold Hid; rw [← HEL.out]; exact HMI.out (by rw [g1]; rfl)
        clear g1 HMI HHI HEND
        go_wp2
        refine wp_region_later (by kernel_rfl) (by kernel_rfl) ?_
        repeat (go_big_quiet_step ((fail)))
        refine wpQuiet_nil ?_
        intro _ hw9
        obtain ⟨nl, hw8⟩ := hw9
        subst hw8
        have HBN : Hid (Below w.heap.size w nl.w) := HB3.out.trans (nl.h.mono hsz3)
        go_wp2
        go_roundw
        case rel => exact ⟨i + 1, g, c, sm, hs, by omega, rfl, rfl, by go_num, by rw [HFS.out]; exact HSM.out, HBN.out, HK3.out.below nl.h, HT3.out.below nl.h, owns_below HO3.out nl.h, by rw [HFS.out]; exact HR3.out, by rw [HFS.out]; exact HN3.out⟩
        case measure => simp [intOf]; omega
       ·have hg : (ks != oth) = false := by rw [bne, g1]; rfl
        cases g2 : (kl == el)
        ·have hg2 : (kl != el) = true := by rw [bne, g2]; rfl
         have HFS : Hid (fsK t oth ed.lab fn (i + 1) = fsK t oth ed.lab fn i) := by unfold Hid; rw [← HEL.out]; exact HMI.out (by rw [g1, g2]; rfl)
         clear g1 g2 HMI HHI HEND
         go_wp2
         refine wp_region_later (by kernel_rfl) (by kernel_rfl) ?_
         repeat (go_big_quiet_step ((fail)))
         refine wpQuiet_nil ?_
         intro _ hw9
         obtain ⟨nl, hw8⟩ := hw9
         subst hw8
         have HBN : Hid (Below w.heap.size w nl.w) := HB3.out.trans (nl.h.mono hsz3)
         go_wp2
         go_roundw
         case rel => exact ⟨i + 1, g, c, sm, hs, by omega, rfl, rfl, by go_num, by rw [HFS.out]; exact HSM.out, HBN.out, HK3.out.below nl.h, HT3.out.below nl.h, owns_below HO3.out nl.h, by rw [HFS.out]; exact HR3.out, by rw [HFS.out]; exact HN3.out⟩
         case measure => simp [intOf]; omega
        ·have hg2 : (kl != el) = false := by rw [bne, g2]; rfl
         have HFS : Hid (fsK t oth ed.lab fn (i + 1) = fsK t oth ed.lab fn i ++ [fn kx]) := by unfold Hid; rw [← HEL.out]; exact HHI.out (by rw [g1, g2]; rfl)
         have HKM : Hid (kx ∈ endsG t oth ed.lab) := by unfold Hid; rw [← HEL.out]; exact HEND.out (by rw [g1, g2]; rfl)
         have hsp0 := sep_ends HV.out (show d ≤ lastR t by rw [← HLL.out]; omega) (a := fr) (b := oth) (e := ed) (by rw [← HPE.out]; exact HLN.out) HKM.out
         have hsp : 0 < sepR t kx ed.dst ∧ sepR t kx ed.dst ≤ d := by rw [sep_comm]; exact hsp0
         have HFX : Hid (fn kx = tellT t kx ed.dst) := congrFun HFN.out kx
         have hed0 := HOK.out.d0
         have hed1 := HOK.out.d1
         have hkx0 := HKX.out
         rw [← HSS.out] at hed1 hkx0
         obtain ⟨xn, yn, P, pv, hxn, hyn, hxS, hyS, hmi, hP16, hix, htaw, hpc, hps⟩ := HTB.out.at hS40 (x := kx) (y := ed.dst) (by omega) (by omega) hsp.1 hsp.2
         rw [← HFX.out] at hps
         obtain ⟨F, hF⟩ : ∃ F, F = fn kx := ⟨_, rfl⟩
         rw [← hF] at HFS HFX hps
         obtain ⟨pa9, pc9, hpe9, hpn9, hpm9, -⟩ := id hps
         have hFl : F.length ≤ 200 := by rw [HFX.out]; exact tellT_short t _ _
         have HFE : Hid (F.length = 0 → F = []) := fun h => List.length_eq_zero_iff.1 h
         obtain ⟨PL, hPL⟩ : ∃ PL, PL = F.length := ⟨_, rfl⟩
         rw [← hPL] at hpe9 hpn9 hFl HFE
         subst hpe9
         have HPS := Lib.hid hps
         have HFK := Lib.hid hF
         have HPL := Lib.hid hPL
         clear hsp0 hsp hed0 hed1 hkx0 hps hF hPL
         clear g1 g2 HMI HHI HEND
         go_wp2
         refine wp_region_later (by kernel_rfl) (by kernel_rfl) ?_
         repeat (go_big_quiet_step ((fail)))
         refine wpQuiet_nil ?_
         intro _ hw9
         obtain ⟨nl, hw8⟩ := hw9
         subst hw8
         obtain ⟨wD, hnl⟩ : ∃ wD, wD = nl.w := ⟨_, rfl⟩
         have hbd : Below wC3.heap.size wC3 wD := by rw [hnl]; exact nl.h
         rw [← hnl]
         clear hnl
         have HBN : Hid (Below w.heap.size w wD) := HB3.out.trans (hbd.mono hsz3)
         have HK4 := Lib.hid (HK3.out.below hbd)
         have HT4 := Lib.hid (HT3.out.below hbd)
         have HO4 := Lib.hid (owns_below HO3.out hbd)
         have q0n := keeps HBN.out hpl HQ0.out
         have q3n := keeps HBN.out hpl HQ3.out
         have f3n := keeps hbd hbe2 f3
         have t2n := HT4.out.cell 2 rfl
         have pcn := keeps HBN.out htaw hpc
         rw [← hxn] at f3n
         rw [← hyn] at t2n
         have HXN := Lib.hid hxn
         have HYN := Lib.hid hyn
         have hsz4 : w.heap.size ≤ wD.heap.size := HBN.out.size
         clear l3 m1 m2 n1 q3 f1 f2 f3 t1 hpc hg hg2 hxn hyn hbd HB3 HK3 HT3 HO3 nl
         by_cases hP0 : PL = 0
         ·have hz : ((PL : Int) == 0) = true := by rw [beq_iff_eq]; omega
          have HNIL : Hid (tellT t oth fr = []) := by
           unfold Hid
           rw [HTL.out]
           unfold buildN
           rw [if_pos]
           exact List.mem_map.2 ⟨kx, HKM.out, by rw [← HFK.out]; exact HFE.out hP0⟩
          clear hP0
          go_wp2
          go_ret
          exact ⟨_, rfl, HBN.out, by rw [HNIL.out]; exact World.ownsRow_nil _ _ _ _⟩
         ·have hz : ((PL : Int) == 0) = false := by rw [beq_eq_false_iff_ne]; omega
          obtain ⟨M, hM⟩ : ∃ M, M = hs.length := ⟨_, rfl⟩
          obtain ⟨D, hD⟩ : ∃ D, D = diffL (fsK t oth ed.lab fn i) := ⟨_, rfl⟩
          have hRL := HR3.out.1
          rw [← hM] at HO4 ⊢
          rw [← hD] at HR3 HSM hRL
          have hDl : D.length ≤ i := by rw [hD]; exact Nat.le_trans (diffL_len _) (fsK_len _ _ _ _ _)
          have HDF : Hid (∀ f ∈ D, f.length ≤ 200) := fun f hf => by
           rw [hD, diffL_mem] at hf
           obtain ⟨z, -, rfl⟩ := List.mem_map.1 (fsK_sub hf)
           rw [HFN.out]
           exact tellT_short t _ _
          have hsmb : sm ≤ 60300 := by have := sumN_le HDF.out; have := HSM.out; omega
          have hMD : D.length = M := by omega
          have HMD := Lib.hid hMD
          have HM := Lib.hid hM
          have HDE := Lib.hid hD
          have hMi : M ≤ 300 := by omega
          have HP0 := Lib.hid hP0
          have HDN : Hid (diffL (fsK t oth ed.lab fn (i + 1)) = addD D F) := by unfold Hid; rw [HFS.out, diffL_snoc, ← HDE.out]
          have HNI : Hid ([] ∉ fsK t oth ed.lab fn (i + 1)) := by
           unfold Hid
           rw [HFS.out, List.mem_append, List.mem_singleton]
           rintro (h | h)
           ·exact HN3.out h
           ·exact HP0.out (by rw [HPL.out, ← h]; rfl)
          clear hM hD hRL hDl hMD hP0
          go_wp2
          clear q0n q3n f3n t2n pcn hz
          go_loopw [28, 29] (fun v28 v29 wr => ∃ (m : Nat) (kn : Bool), m ≤ M ∧ v28 = .bool kn ∧ v29 = .int .i64 m ∧ kn = decide (F ∈ D.take m) ∧ Below wD.heap.size wD wr) (fun _ v29 _ => M - (intOf v29).toNat)
          case atStart => exact ⟨0, false, Nat.zero_le _, rfl, rfl, by simp, Below.refl _ _⟩
          case round =>
           obtain ⟨m, kn, hm, rfl, rfl, hkn, hb4⟩ := hrel
           obtain ⟨wE, rfl⟩ : ∃ wE : World, wE = wr := ⟨_, rfl⟩
           have HKN := Lib.hid hkn
           have HB4 := Lib.hid hb4
           have HBW : Hid (Below w.heap.size w wE) := HBN.out.trans (hb4.mono hsz4)
           have HO5 := Lib.hid (owns_below HO4.out hb4)
           have hszE : w.heap.size ≤ wE.heap.size := HBW.out.size
           clear hkn hb4
           by_cases hlm : m < M
           ·have hmD : m < D.length := by rw [HMD.out]; exact hlm
            have hmh : m < hs.length := by rw [← HM.out]; exact hlm
            have HTK : Hid (decide (F ∈ D.take (m + 1)) = (decide (F ∈ D.take m) || decide (D[m] = F))) := mem_takeM hmD
            cases kn
            ·have c1 := HO5.out.cellAt m (by omega)
             rw [List.getElem?_eq_getElem hmh] at c1
             have hsl := (HR3.out.2 m hmh hmD).below HBW.out
             have HSA := Lib.hid (same14_any 0 0 hs[m] (.slice pa9 PL pc9) D[m] F wE (Nat.le_trans (HDF.out _ (List.getElem_mem hmD)) (by decide)) hsl (HPS.out.below HBW.out))
             obtain ⟨hv, hhv⟩ : ∃ hv, hv = hs[m] := ⟨_, rfl⟩
             obtain ⟨bq, hbq⟩ : ∃ bq, bq = decide (D[m] = F) := ⟨_, rfl⟩
             rw [← hbq] at HSA HTK
             rw [← hhv] at HSA c1
             have HKQ : Hid (bq = decide (F ∈ D.take (m + 1))) := by unfold Hid; rw [HTK.out, ← HKN.out]; rfl
             clear hsl hhv hbq
             go_wp2_with fail
             refine Calls.mono HSA.out ?_
             rintro e wF ⟨rfl, hbF⟩
             have HBF : Hid (Below wD.heap.size wD wF) := HB4.out.trans (hbF.mono HB4.out.size)
             clear hbF HSA c1
             go_wp2
             go_roundw
             case rel => exact ⟨m + 1, bq, by omega, rfl, by go_num, HKQ.out, HBF.out⟩
             case measure => simp [intOf]; omega
            ·have HKQ : Hid (true = decide (F ∈ D.take (m + 1))) := by unfold Hid; rw [HTK.out, ← HKN.out]; rfl
             go_wp2
             go_roundw
             case rel => exact ⟨m + 1, true, by omega, rfl, by go_num, HKQ.out, HB4.out⟩
             case measure => simp [intOf]; omega
           ·have HKA : Hid (kn = decide (F ∈ D)) := by
             unfold Hid
             rw [HKN.out, List.take_of_length_le (by rw [HMD.out]; omega)]
            have HK5 := Lib.hid (HK4.out.below HB4.out)
            have HT5 := Lib.hid (HT4.out.below HB4.out)
            cases kn
            ·have HDA : Hid (diffL (fsK t oth ed.lab fn (i + 1)) = D ++ [F]) := by
              unfold Hid
              rw [HDN.out]
              unfold addD
              rw [if_neg (of_decide_eq_false HKA.out.symm)]
             have hbx : wE.heap.size ≤ (wE.alloc (.cells #[.slice pa9 PL pc9] 27)).heap.size := by simp
             go_wp2_with (at_builtin; refine wpList_append_lies _ rfl _ _ 47 rfl w.heap.size 27 i2 (.slice none 0 0) 1 24 Tryz.underlying47 hi2 hz20 hz21 hz22 rfl (by decide) _ _ _ rfl (HO5.out.alloc _) ⟨wE.heap.size, 0, none⟩ 1 1 [.slice pa9 PL pc9] rfl rfl ?c1 ?c2 ?c3 ?c4 ?c5 ?c6 _ rfl ?_)
             case c1 => exact World.news_of_block (cs := #[.slice pa9 PL pc9]) (t := 27) (fr := (0, 0)) (heap_alloc_new _ _)
             case c2 => intro u hu; simp at hu; subst hu; rfl
             case c3 => omega
             case c4 => simp [maxLen]; omega
             case c5 => omega
             case c6 => simp; omega
             intro g3 cap3 w3 ho3 hg3 hat3 hlt3
             have hal : Below wE.heap.size wE (wE.alloc (.cells #[.slice pa9 PL pc9] 27)) := (Below.refl _ _).alloc (Nat.le_refl _) _
             have hoA := owns_below HO5.out hal
             have hkA := HK5.out.below hal
             have htA := HT5.out.below hal
             have HK6 := Lib.hid (hkA.keptM hg3 (own_farM hoA hkA (by decide)))
             have HT6 := Lib.hid (htA.keptM hg3 (own_farM hoA htA (by decide)))
             have HB6 : Hid (Below w.heap.size w w3) := (HBW.out.trans (hal.mono hszE)).grown hg3 (by simp; omega) (fun b e => (HO5.out.lt b e).1)
             have HR6 : Hid (RowsR w (hs ++ [.slice pa9 PL pc9]) (D ++ [F])) := HR3.out.snoc HPS.out
             have HLS6 : Hid ((hs ++ [Value.slice pa9 PL pc9]).length = M + 1) := by unfold Hid; rw [List.length_append, ← HM.out]; rfl
             have HO6 := Lib.hid ho3
             have HSM6 : Hid (sm + (PL + 1) = sumN (D ++ [F])) := by unfold Hid; rw [sumN_snoc, HSM.out, HPL.out]
             clear ho3 hg3 hat3 hlt3 hal hoA hkA htA hbx
             go_wp2
             go_roundw
             case rel => exact ⟨i + 1, g3, cap3, sm + (PL + 1), hs ++ [.slice pa9 PL pc9], by omega, by rw [HLS6.out], by first | rfl | go_num, by go_num, by rw [HDA.out]; exact HSM6.out, HB6.out, HK6.out, HT6.out, by rw [HLS6.out]; exact HO6.out, by rw [HDA.out]; exact HR6.out, HNI.out⟩
             case measure => simp [intOf]; omega
            ·have HDA : Hid (diffL (fsK t oth ed.lab fn (i + 1)) = D) := by
              unfold Hid
              rw [HDN.out]
              unfold addD
              rw [if_pos (of_decide_eq_true HKA.out.symm)]
             go_wp2
             go_roundw
             case rel => exact ⟨i + 1, g, c, sm, hs, by omega, by rw [HM.out], rfl, by go_num, by rw [HDA.out]; exact HSM.out, HBW.out, HK5.out, HT5.out, by rw [← HM.out]; exact HO5.out, by rw [HDA.out]; exact HR3.out, HNI.out⟩
             case measure => simp [intOf]; omega
      ·have HIE : Hid (i = t.edges.length) := by have := HEE.out; unfold Hid; omega
       have HFE : Hid (fsK t oth ed.lab fn i = (endsG t oth ed.lab).map fn) := by unfold Hid; rw [HIE.out]; exact fsK_all t _ _ fn
       rw [HFE.out] at HSM HR3 HN3
       have hRL := HR3.out.1
       obtain ⟨D, hD⟩ : ∃ D, D = diffL ((endsG t oth ed.lab).map fn) := ⟨_, rfl⟩
       obtain ⟨M, hM⟩ : ∃ M, M = hs.length := ⟨_, rfl⟩
       rw [← hD] at HSM HR3 hRL
       rw [← hM] at HO3 hRL ⊢
       have HDE := Lib.hid hD
       have HM := Lib.hid hM
       have HDF : Hid (∀ f ∈ D, f.length ≤ 200) := fun f hf => by
        rw [hD, diffL_mem] at hf
        obtain ⟨z, -, rfl⟩ := List.mem_map.1 hf
        rw [HFN.out]
        exact tellT_short t _ _
       have hMi : M ≤ 300 := by
        have h1 := diffL_len ((endsG t oth ed.lab).map fn)
        have h2 := fsK_len t oth ed.lab fn i
        rw [← hD] at h1
        rw [HFE.out] at h2
        omega
       have hsmb : sm ≤ 60300 := by have := sumN_le HDF.out; have := HSM.out; omega
       have HMD : Hid (D.length = M) := hRL.symm
       clear hD hM hRL
       by_cases hbig : 200 < sm
       ·have HNIL : Hid (tellT t oth fr = []) := by
         have hne : (endsG t oth ed.lab).map fn ≠ [] := by
          intro h
          have h1 := HSM.out
          rw [HDE.out, h, diffL_nil] at h1
          have h2 : sumN [] = 0 := rfl
          omega
         unfold Hid
         rw [HTL.out, build_ok HN3.out hne, ← HDE.out, ← HSM.out, if_pos hbig]
        go_wp2
        go_ret
        exact ⟨_, rfl, HB3.out, by rw [HNIL.out]; exact World.ownsRow_nil _ _ _ _⟩
       ·have hk0 := HK3.out.cell 0 rfl
        have hk1 := HK3.out.cell 1 rfl
        have hk2 := HK3.out.cell 2 rfl
        have hk3 := HK3.out.cell 3 rfl
        obtain ⟨WO, hWO⟩ : ∃ WO, WO = wC3.alloc (.cells #[.int .i64 5, .int .i64 0, .string LT, .bool false] 55) := ⟨_, rfl⟩
        have hal : Below wC3.heap.size wC3 WO := by rw [hWO]; exact (Below.refl _ _).alloc (Nat.le_refl _) _
        have HBO : Hid (Below w.heap.size w WO) := HB3.out.trans (hal.mono hsz3)
        have HOH := Lib.hid (owns_below HO3.out hal)
        have hszO : w.heap.size ≤ WO.heap.size := HBO.out.size
        obtain ⟨ob, hob⟩ : ∃ ob, ob = wC3.heap.size := ⟨_, rfl⟩
        have HOO : Hid (WO.ownsRow w.heap.size 55 4 (.slice (some ⟨ob, 0, none⟩) 1 1) 1 [.int .i64 5, .int .i64 0, .string LT, .bool false]) := by
         have h := World.ownsRow_lit (base := w.heap.size) (size := 4) wC3 #[.int .i64 5, .int .i64 0, .string LT, .bool false] (e := 55) 1 hsz3 (by simp [maxLen]) rfl
         rw [← hWO, ← hob] at h
         exact h
        have HWO := Lib.hid hWO
        have hszO2 : WO.heap.size = ob + 1 := by rw [hWO, hob]; simp
        have HSO2 := Lib.hid hszO2
        have HOB := Lib.hid hob
        clear hal hWO hob HB3 HK3 HT3 hszO2
        by_cases hM0 : M = 0
        ·have HVAL : Hid (tellT t oth fr = [⟨5, LT⟩, ⟨1, ByteArray.empty⟩]) := by
          have h0 : (endsG t oth ed.lab).map fn = [] := diffL_empty.1 (by rw [← HDE.out]; exact List.length_eq_zero_iff.1 (by rw [HMD.out]; exact hM0))
          unfold Hid
          rw [HTL.out, h0]
          exact build_none
         subst hM0
         obtain ⟨WL, hWL⟩ : ∃ WL, WL = WO.alloc (.cells #[.int .i64 1, .int .i64 0, .string ⟨#[]⟩, .bool false] 55) := ⟨_, rfl⟩
         have hszO2 := HSO2.out
         have hal : Below WO.heap.size WO WL := by rw [hWL]; exact (Below.refl _ _).alloc (Nat.le_refl _) _
         have hszL : WL.heap.size = ob + 1 + 1 := by rw [hWL]; simp; omega
         have HSL := Lib.hid hszL
         have HBL : Hid (Below w.heap.size w WL) := HBO.out.trans (hal.mono hszO)
         have HOL := Lib.hid (owns_below HOO.out hal)
         have HWL := Lib.hid hWL
         have hszL2 : w.heap.size ≤ WL.heap.size := by omega
         clear hWL hal hszO2 hszL
         go_wp2_with (at_builtin; rw [← HWO.out, ← HOB.out, ← HWL.out]; refine wpList_append_lies _ rfl _ _ 27 rfl w.heap.size 55 i4 _ 4 40 Tryz.underlying27 hi4 hz40 hz41 hz42 rfl (by decide) _ _ _ rfl (HOL.out.alloc _) ⟨ob + 1 + 1, 0, none⟩ 1 1 [.int .i64 1, .int .i64 0, .string ⟨#[]⟩, .bool false] rfl rfl ?c1 ?c2 ?c3 ?c4 ?c5 ?c6 _ rfl ?_)
         case c1 => rw [← HSL.out]; exact World.news_of_block (cs := #[.int .i64 1, .int .i64 0, .string ⟨#[]⟩, .bool false]) (t := 55) (fr := (0, 0)) (heap_alloc_new _ _)
         case c2 => intro u hu; simp at hu; rcases hu with rfl | rfl | rfl | rfl <;> rfl
         case c3 => omega
         case c4 => simp [maxLen]
         case c5 => omega
         case c6 => simp; omega
         intro g9 c9 w9 ho9 hg9 hat9 hlt9
         have HB9 : Hid (Below w.heap.size w w9) := (HBL.out.alloc hszL2 _).grown hg9 (by simp; omega) (fun b e => (HOL.out.lt b e).1)
         have HO9 := Lib.hid ho9
         clear ho9 hg9 hat9 hlt9
         go_wp2
         go_loopw [30, 32] (fun v30 v32 wr => v30 = .slice (some ⟨g9, 0, none⟩) 2 c9 ∧ v32 = .int .i64 0 ∧ w9 = wr) (fun _ _ _ => 0)
         case atStart => exact ⟨rfl, rfl, rfl⟩
         case round =>
          obtain ⟨rfl, rfl, rfl⟩ := hrel
          go_wp2
          go_ret
          refine ⟨_, rfl, HB9.out, ?_⟩
          rw [HVAL.out]
          unfold FormO
          exact HO9.out
        ·have hz : ((M : Int) == 0) = false := by rw [beq_eq_false_iff_ne]; omega
         have HVAL : Hid (tellT t oth fr = ⟨5, LT⟩ :: joinT 3 D M) := by
          have hne : (endsG t oth ed.lab).map fn ≠ [] := by
           intro h
           apply hM0
           rw [← HMD.out, HDE.out, h, diffL_nil]
           rfl
          unfold Hid
          rw [HTL.out, build_ok HN3.out hne, ← HDE.out, ← HSM.out, if_neg hbig, ← HMD.out, joinT_all]
         have HD0 : Hid (0 < D.length) := by have := HMD.out; unfold Hid; omega
         clear hM0
         go_wp2_with fail
         rw [← HWO.out, ← HOB.out]
         clear hk0 hk1 hk2 hk3 hz q3
         go_loopw [30, 32] (fun v30 v32 wr => ∃ (j g6 c6 : Nat), j ≤ M ∧ v30 = .slice (some ⟨g6, 0, none⟩) ((joinT 3 D j).length + 1) c6 ∧ v32 = .int .i64 j ∧ Below w.heap.size w wr ∧ wr.ownsRow w.heap.size 55 4 (.slice (some ⟨g6, 0, none⟩) ((joinT 3 D j).length + 1) c6) ((joinT 3 D j).length + 1) (encN ⟨5, LT⟩ ++ (joinT 3 D j).flatMap encN) ∧ wr.ownsRow w.heap.size 27 1 (.slice (some ⟨g, 0, none⟩) M c) M hs) (fun _ v32 _ => M - (intOf v32).toNat)
         case atStart => exact ⟨0, ob, 1, Nat.zero_le _, by rw [joinT_zero HD0.out]; rfl, rfl, HBO.out, by rw [joinT_zero HD0.out]; exact HOO.out, HOH.out⟩
         case round =>
          clear HBO HOO HOH HWO HOB hszO
          obtain ⟨j, g6, c6, hj, rfl, rfl, hb6, ho6, hh6⟩ := hrel
          obtain ⟨wX, rfl⟩ : ∃ wX : World, wX = wr := ⟨_, rfl⟩
          obtain ⟨NL, hNL⟩ : ∃ NL, NL = (joinT 3 D j).length := ⟨_, rfl⟩
          rw [← hNL] at ho6 ⊢
          have hNL2 : NL ≤ 200 := by rw [hNL]; have := joinT_len 3 D j; have := HSM.out; omega
          have HNL := Lib.hid hNL
          have HBX := Lib.hid hb6
          have HON := Lib.hid ho6
          have HOX := Lib.hid hh6
          have hszX := hb6.size
          clear hNL hb6 ho6 hh6
          by_cases hlj : j < M
          ·have hjD : j < D.length := by rw [HMD.out]; exact hlj
           have hjh : j < hs.length := by rw [← HM.out]; exact hlj
           have HDJ : Hid (D[j] ≠ []) := fun h => by
            have h1 := List.getElem_mem hjD
            rw [h, HDE.out, diffL_mem] at h1
            exact HN3.out h1
           obtain ⟨bq, oq, cq, hqe, -, hqb, hqc⟩ := form_cells ((HR3.out.2 j hjh hjD)) HDJ.out
           obtain ⟨QL, hQL⟩ : ∃ QL, QL = D[j].length := ⟨_, rfl⟩
           have HC7 : Hid (∀ w' : World, w'.ownsRow w.heap.size 27 1 (.slice (some ⟨g, 0, none⟩) M c) M hs → w'.cell? ⟨g, j, none⟩ = some (.slice (some ⟨bq, oq, none⟩) QL cq)) := fun w' h => by
            have c7 := h.cellAt j (by omega)
            rw [List.getElem?_eq_getElem hjh, hqe, ← hQL] at c7
            exact c7
           have hQ1 : 0 < QL := by rw [hQL]; exact List.length_pos_iff.2 HDJ.out
           have HQC := Lib.hid (fun (w' : World) (hw : Below w.heap.size w w') => news_below hqb hqc hw)
           have HQF : Hid ((D[j].flatMap encN).length = QL * 4) := by unfold Hid; rw [flatN_len, ← hQL]
           have hQS : NL + QL + 1 ≤ 201 := by have := joinT_len2 (kind := 3) hjD; have := HNL.out; have := HSM.out; omega
           have HQL := Lib.hid hQL
           clear hqe hqb hqc hQL
           by_cases hlj1 : j + 1 < M
           ·have HJN : Hid (joinT 3 D (j + 1) = joinT 3 D j ++ [⟨3, ByteArray.empty⟩] ++ D[j]) := joinT_mid (by rw [HMD.out]; exact hlj1)
            have hgd : decide ((j : Int) < (M : Int) - 1) = true := decide_eq_true (by omega)
            have HC8 := Lib.hid HC7.out
            obtain ⟨WJ, hWJ⟩ : ∃ WJ, WJ = wX.alloc (.cells #[.int .i64 3, .int .i64 0, .string ⟨#[]⟩, .bool false] 55) := ⟨_, rfl⟩
            have hal : Below wX.heap.size wX WJ := by rw [hWJ]; exact (Below.refl _ _).alloc (Nat.le_refl _) _
            have HNW : Hid (WJ.heap[wX.heap.size]? = some (.cells #[.int .i64 3, .int .i64 0, .string ⟨#[]⟩, .bool false] 55 (0, 0))) := by unfold Hid; rw [hWJ]; exact heap_alloc_new _ _
            have HBJ := Lib.hid (HBX.out.trans (hal.mono hszX))
            have HOJ := Lib.hid (owns_below HON.out hal)
            have HHJ := Lib.hid (owns_below HOX.out hal)
            have HWJ := Lib.hid hWJ
            have hszJ : wX.heap.size ≤ WJ.heap.size := hal.size
            clear hWJ hal
            go_wp2_with (at_builtin; rw [← HWJ.out]; refine wpList_append_lies _ rfl _ _ 27 rfl w.heap.size 55 i4 _ 4 40 Tryz.underlying27 hi4 hz40 hz41 hz42 rfl (by decide) _ _ _ rfl HOJ.out ⟨wX.heap.size, 0, none⟩ 1 1 [.int .i64 3, .int .i64 0, .string ⟨#[]⟩, .bool false] rfl rfl ?c1 ?c2 ?c3 ?c4 ?c5 ?c6 _ rfl ?_)
            case c1 => exact World.news_of_block (cs := #[.int .i64 3, .int .i64 0, .string ⟨#[]⟩, .bool false]) (t := 55) (fr := (0, 0)) HNW.out
            case c2 => intro u hu; simp at hu; rcases hu with rfl | rfl | rfl | rfl <;> rfl
            case c3 => omega
            case c4 => simp [maxLen]; omega
            case c5 => omega
            case c6 => omega
            intro g8 c8 w8 ho8 hg8 hat8 hlt8
            have HH8 := Lib.hid (HHJ.out.kept hg8 (own_types HHJ.out HOJ.out (by decide)))
            have HO8 := Lib.hid ho8
            have HB8 : Hid (Below w.heap.size w w8) := HBJ.out.grown hg8 (by omega) (fun b e => (HOJ.out.lt b e).1)
            have hsz8 := HB8.out.size
            have c7 := HC8.out w8 HH8.out
            have HQC8 := Lib.hid (HQC.out w8 HB8.out)
            clear ho8 hg8 hat8 hlt8
            go_wp2_with (at_builtin; refine wpList_append_lies _ rfl _ _ 27 rfl w.heap.size 55 i4 _ 4 40 Tryz.underlying27 hi4 hz40 hz41 hz42 rfl (by decide) _ _ _ rfl HO8.out ⟨bq, oq, none⟩ QL cq (D[j].flatMap encN) rfl ?d1 HQC8.out (flatN_one _) ?d3 ?d4 ?d5 ?d6 _ rfl ?_)
            case d1 => exact HQF.out
            case d3 => exact hQ1
            case d4 => simp [maxLen]; omega
            case d5 => omega
            case d6 => omega
            intro g9 c9 w9 ho9 hg9 hat9 hlt9
            have HH9 := Lib.hid (HH8.out.kept hg9 (own_types HH8.out HO8.out (by decide)))
            have HB9 : Hid (Below w.heap.size w w9) := HB8.out.grown hg9 (by omega) (fun b e => (HO8.out.lt b e).1)
            have HV7 : Hid ((joinT 3 D (j + 1)).length + 1 = NL + 1 + 1 + QL) := by unfold Hid; rw [HJN.out]; simp only [List.length_append, List.length_cons, List.length_nil, ← HQL.out, ← HNL.out]; omega
            have HO9 : Hid (w9.ownsRow w.heap.size 55 4 (.slice (some ⟨g9, 0, none⟩) ((joinT 3 D (j + 1)).length + 1) c9) ((joinT 3 D (j + 1)).length + 1) (encN ⟨5, LT⟩ ++ (joinT 3 D (j + 1)).flatMap encN)) := by
             unfold Hid
             rw [HV7.out, HJN.out]
             have hen : encN ⟨3, ByteArray.empty⟩ = [.int .i64 3, .int .i64 0, .string ⟨#[]⟩, .bool false] := rfl
             simpa only [hen, List.flatMap_append, List.append_assoc, List.flatMap_cons, List.flatMap_nil, List.append_nil, List.cons_append, List.nil_append] using ho9
            clear ho9 hg9 hat9 hlt9 c7
            go_wp2
            go_roundw
            case rel => exact ⟨j + 1, g9, c9, by omega, by rw [HV7.out], by go_num, HB9.out, HO9.out, HH9.out⟩
            case measure => simp [intOf]; omega
           ·have HJN : Hid (joinT 3 D (j + 1) = joinT 3 D j ++ D[j]) := joinT_last hjD (by rw [HMD.out]; omega)
            have hgd : decide ((j : Int) < (M : Int) - 1) = false := decide_eq_false (by omega)
            have c7 := HC7.out wX HOX.out
            have HQC8 := Lib.hid (HQC.out wX HBX.out)
            go_wp2_with (at_builtin; refine wpList_append_lies _ rfl _ _ 27 rfl w.heap.size 55 i4 _ 4 40 Tryz.underlying27 hi4 hz40 hz41 hz42 rfl (by decide) _ _ _ rfl HON.out ⟨bq, oq, none⟩ QL cq (D[j].flatMap encN) rfl ?d1 HQC8.out (flatN_one _) ?d3 ?d4 ?d5 ?d6 _ rfl ?_)
            case d1 => exact HQF.out
            case d3 => exact hQ1
            case d4 => simp [maxLen]; omega
            case d5 => omega
            case d6 => omega
            intro g9 c9 w9 ho9 hg9 hat9 hlt9
            have HH9 := Lib.hid (HOX.out.kept hg9 (own_types HOX.out HON.out (by decide)))
            have HB9 : Hid (Below w.heap.size w w9) := HBX.out.grown hg9 (by omega) (fun b e => (HON.out.lt b e).1)
            have HV7 : Hid ((joinT 3 D (j + 1)).length + 1 = NL + 1 + QL) := by unfold Hid; rw [HJN.out]; simp only [List.length_append, ← HQL.out, ← HNL.out]; omega
            have HO9 : Hid (w9.ownsRow w.heap.size 55 4 (.slice (some ⟨g9, 0, none⟩) ((joinT 3 D (j + 1)).length + 1) c9) ((joinT 3 D (j + 1)).length + 1) (encN ⟨5, LT⟩ ++ (joinT 3 D (j + 1)).flatMap encN)) := by
             unfold Hid
             rw [HV7.out, HJN.out]
             have hen : encN ⟨3, ByteArray.empty⟩ = [.int .i64 3, .int .i64 0, .string ⟨#[]⟩, .bool false] := rfl
             simpa only [hen, List.flatMap_append, List.append_assoc, List.flatMap_cons, List.flatMap_nil, List.append_nil, List.cons_append, List.nil_append] using ho9
            clear ho9 hg9 hat9 hlt9 c7
            go_wp2
            go_roundw
            case rel => exact ⟨j + 1, g9, c9, by omega, by rw [HV7.out], by go_num, HB9.out, HO9.out, HH9.out⟩
            case measure => simp [intOf]; omega
          ·go_wp2
           go_ret
           obtain rfl : j = M := by omega
           refine ⟨_, rfl, HBX.out, ?_⟩
           unfold FormO
           rw [HVAL.out, List.length_cons, List.flatMap_cons, ← HNL.out]
           exact HON.out)

end Go.Proofs.YtjoacldbgnphkaaGreatDoor
