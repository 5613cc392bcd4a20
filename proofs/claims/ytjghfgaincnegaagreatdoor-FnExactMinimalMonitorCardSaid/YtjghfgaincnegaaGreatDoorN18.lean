/-
  The program's MinimalMonitor.
  What the reference's functions on systems compute: the edges from a state, the step by a label.
  The reference's l30Is: a valid monitor.
  Two moves that lead to one block. Plain.
-/
import Derived.Test.YtjghfgaincnegaaGreatDoorN7
import Derived.Test.YtjghfgaincnegaaGreatDoorN17
import Derived.Deep.RegionHeld3
import Derived.Deep.AppendLies
import Derived.Test.YtjghfgaincnegaaGreatDoorN3
import Derived.Test.YtjghfgaincnegaaGreatDoorN1
import Derived.Test.YtjghfgaincnegaaGreatDoorN10
namespace Go.Proofs.YtjghfgaincnegaaGreatDoor
open Go Go.RowKit

theorem ivi_results {w : World} {b : Nat} {v0 v1 v2 v3 v4 : Value} {tmps : Array Value} (hc : tmps.getD 2 undef = .pointer (some ⟨b, 0, none⟩)) (hb : Blk w b [v0, v1, v2, v3, v4] 34) :
  (results Tryz.f8 tmps).run Tryz.prog w = .ok (.tuple #[.agg #[v0, v1, v2, v3, v4], tmps.getD 3 undef]) w := by
 have h0 := hb.cell 0 rfl
 have h1 := hb.cell 1 rfl
 have h2 := hb.cell 2 rfl
 have h3 := hb.cell 3 rfl
 have h4 := hb.cell 4 rfl
 simp only [Array.getD_eq_getD_getElem?] at hc
 simp [results, Tryz.results8, go_sem, hc, h0, h1, h2, h3, h4, Result.andThen]
theorem info_int64J : (Tryz.prog.info? 2).map (fun i => (i.zero, i.size, i.bytes)) = some (some (.int .i64 0), 1, 8) := by kernel_rfl

set_option maxRecDepth 100000 in
set_option maxHeartbeats 4000000 in
theorem implMinimalMonitor_any (lo : Nat) (m : Mon) (lv ev vv : Value) (w : World) (hsh : Short20 m.sys.labels) (hp : MonIn lo w lv ev vv m) (g : Glob w) :
  Calls Tryz.prog 8 #[.agg #[.int .i64 m.sys.states, .int .i64 m.sys.initial, lv, ev, vv]] w (RetMinM m w) := by
 obtain ⟨tb, htb⟩ : ∃ tb, tb = w.heap.size := ⟨_, rfl⟩
 obtain ⟨wA, hwA⟩ : ∃ wA, wA = (w.alloc (.cells #[.int .i64 m.sys.states, .int .i64 m.sys.initial, lv, ev, vv] 34)).alloc (.cells #[.int .i64 0, .int .i64 0, .slice none 0 0, .slice none 0 0, .slice none 0 0] 34) := ⟨_, rfl⟩
 have hbA : Below w.heap.size w wA := by rw [hwA]; exact ((Below.refl _ _).alloc (Nat.le_refl _) _).alloc (by simp) _
 have hT : Blk wA tb [.int .i64 m.sys.states, .int .i64 m.sys.initial, lv, ev, vv] 34 := by rw [hwA, htb]; exact (Blk.new w _ _).alloc _
 have hR : Blk wA (tb + 1) [.int .i64 0, .int .i64 0, .slice none 0 0, .slice none 0 0, .slice none 0 0] 34 := by
  have := Blk.new (w.alloc (.cells #[.int .i64 m.sys.states, .int .i64 m.sys.initial, lv, ev, vv] 34)) [.int .i64 0, .int .i64 0, .slice none 0 0, .slice none 0 0, .slice none 0 0] 34
  rw [World.size_alloc, ← htb] at this
  rw [hwA]
  exact this
 have HPA := Lib.hid (hp.below hbA)
 have HC := Lib.hid (ValidMonitor_any lo m lv ev vv wA hsh HPA.out (g.below hbA))
 have HG := Lib.hid (g.below hbA)
 have HSH := Lib.hid hsh
 have HBA := Lib.hid hbA
 have HT := Lib.hid hT
 have HR := Lib.hid hR
 have HWA := Lib.hid hwA
 have HTB := Lib.hid htb
 have hle : w.heap.size ≤ tb + 1 := by rw [htb]; omega
 obtain ⟨i1, hi1, hz10, hz11, hz12⟩ := info_parts info_int64J
 clear hsh hp g hwA hbA hT hR htb
 by_cases hv : MonOk m
 ·have HV := Lib.hid hv
  have HVA := Lib.hid (Decides.yes HC.out hv)
  have hst0 := hv.valid.st0
  have hst1 := hv.valid.st1
  obtain ⟨N, hN⟩ : ∃ N : Nat, (N : Int) = m.sys.states := ⟨m.sys.states.toNat, by omega⟩
  have hVN : m.vs.length = N := by have := hv.len; omega
  have hv6 : ∀ x ∈ m.vs, I64 x := fun x hx => by have := hv.low x hx; exact ⟨by omega, by omega⟩
  rw [← hN] at hst0 hst1
  have HN := Lib.hid hN
  have HVN := Lib.hid hVN
  have HV6 := Lib.hid hv6
  clear hv hN hVN hv6
  go_enter Tryz.func8, Tryz.ntmps8
  go_wp2_with fail
  rw [← HWA.out]
  refine Calls.mono HVA.out ?_
  rintro e w1 ⟨rfl, hb1⟩
  have HB1 := Lib.hid (HBA.out.trans (hb1.mono HBA.out.size))
  have HA1 := Lib.hid hb1
  have HT1 := Lib.hid (HT.out.below hb1)
  have HR1 := Lib.hid (HR.out.below hb1)
  have HMF := Lib.hid (minimalFromV_any lo lo N m.sys m.vs lv ev vv w1 HV.out.valid HV.out.single HN.out (HPA.out.below hb1).labels (HPA.out.below hb1).edges (HPA.out.below hb1).marks HVN.out HV6.out (HG.out.below hb1) HSH.out)
  have t0 := HT1.out.cell 0 rfl
  have t1 := HT1.out.cell 1 rfl
  have t2 := HT1.out.cell 2 rfl
  have t3 := HT1.out.cell 3 rfl
  have t4 := HT1.out.cell 4 rfl
  clear hb1 HVA
  rw [← HTB.out]
  go_wp2_with fail
  refine Calls.mono HMF.out ?_
  rintro e w2 ⟨hb2, st, r, lv2, ev2, sv, rfl, hms, hown, hsv⟩
  obtain ⟨la, lc, rfl, -, -⟩ := owns_slice hown.1
  obtain ⟨ea, ec, rfl, -, -⟩ := owns_slice hown.2
  have hfew := hms.few HV.out.valid HV.out.single HV.out.len
  have hgood := hms.1.good HV.out.valid HV.out.single
  obtain ⟨gS, cS, rfl, hgS, hgSw⟩ := own_someP hsv hgood.some
  obtain ⟨R, hR⟩ : ∃ R, R = st.rows.length := ⟨_, rfl⟩
  obtain ⟨LL, hLL⟩ : ∃ LL, LL = r.labels.length := ⟨_, rfl⟩
  obtain ⟨EE, hEE⟩ : ∃ EE, EE = r.edges.length := ⟨_, rfl⟩
  have hlow : ∀ x ∈ st.rows, 0 ≤ x ∧ x < (N : Int) := by rw [HN.out]; exact hgood.low
  have hR40 : R ≤ 40 := by rw [hR]; exact hfew.2.2
  obtain ⟨tl, htl⟩ : ∃ tl, tl = w2.heap.size := ⟨_, rfl⟩
  obtain ⟨ob, hob⟩ : ∃ ob, ob = tl + 1 := ⟨_, rfl⟩
  obtain ⟨wB, hwB⟩ : ∃ wB, wB = (w2.alloc (.cells #[.int .i64 r.states, .int .i64 r.initial, .slice la r.labels.length lc, .slice ea r.edges.length ec] 32)).alloc (.cells #[.int .i64 r.states, .int .i64 r.initial, .slice la r.labels.length lc, .slice ea r.edges.length ec, .slice none 0 0] 34) := ⟨_, rfl⟩
  have hbB : Below w2.heap.size w2 wB := by rw [hwB]; exact ((Below.refl _ _).alloc (Nat.le_refl _) _).alloc (by simp) _
  have hO : Blk wB ob [.int .i64 r.states, .int .i64 r.initial, .slice la r.labels.length lc, .slice ea r.edges.length ec, .slice none 0 0] 34 := by
   have := Blk.new (w2.alloc (.cells #[.int .i64 r.states, .int .i64 r.initial, .slice la r.labels.length lc, .slice ea r.edges.length ec] 32)) [.int .i64 r.states, .int .i64 r.initial, .slice la r.labels.length lc, .slice ea r.edges.length ec, .slice none 0 0] 34
   rw [World.size_alloc, ← htl, ← hob] at this
   rw [hwB]
   exact this
  have h1B : Below w1.heap.size w1 wB := hb2.trans (hbB.mono hb2.size)
  have HBB := Lib.hid (HB1.out.trans (h1B.mono HB1.out.size))
  have HTB2 := Lib.hid (HT1.out.below h1B)
  have HRB := Lib.hid (HR1.out.below h1B)
  have HAB := Lib.hid (HA1.out.trans (h1B.mono HA1.out.size))
  have hAtl : wA.heap.size ≤ tl := by have := HA1.out.size; have := hb2.size; omega
  have HOWN := Lib.hid (hown.below hbB)
  have HSV := Lib.hid (owns_below hsv hbB)
  rw [← hR] at HSV
  have HO := Lib.hid hO
  have HMS := Lib.hid hms
  have HLOW := Lib.hid hlow
  have HRR := Lib.hid hR
  have HLL := Lib.hid hLL
  have HEE := Lib.hid hEE
  have HWB := Lib.hid hwB
  have hgSo : gS < ob := by omega
  have htbo : tb < ob := by have h9 := HT1.out.lt; have := hb2.size; omega
  have hszB : wB.heap.size = ob + 1 := by rw [hwB, hob, htl]; simp
  have hlab : ∀ b, (Value.slice la r.labels.length lc).ownBlock = some b → b < ob := fun b e => by have := (hown.1.lt b e).2; omega
  have hedg : ∀ b, (Value.slice ea r.edges.length ec).ownBlock = some b → b < ob := fun b e => by have := (hown.2.lt b e).2; omega
  have HLAB := Lib.hid hlab
  have HEDG := Lib.hid hedg
  have HTL := Lib.hid htl
  have HOBE := Lib.hid hob
  rw [← hLL, ← hEE] at HO HWB
  rw [← hLL, ← hEE, ← hR]
  have hs1w : w.heap.size ≤ w1.heap.size := HB1.out.size
  clear hb2 hms hown hsv hfew hgood hlow hR hwB hbB hO h1B hlab hedg hLL hEE htl hob t0 t1 t2 t3 t4 HMF hgSw
  go_wp2
  try rw [← HWB.out]
  try rw [← HTL.out]
  try rw [← HOBE.out]
  go_loopw [25] (fun v25 wr => ∃ (k : Nat) (vr : Value), k ≤ R ∧ v25 = .int .i64 k ∧ Below ob wB wr ∧ Blk wr ob [.int .i64 r.states, .int .i64 r.initial, .slice la LL lc, .slice ea EE ec, vr] 34 ∧ wr.ownsRow (ob + 1) 2 1 vr k (((st.rows.take k).map (bkOf m.vs)).map (Value.int .i64))) (fun v25 _ => R - (intOf v25).toNat)
  case atStart => exact ⟨0, _, Nat.zero_le _, rfl, Below.refl _ _, HO.out, World.ownsRow_nil _ _ _ _⟩
  case round =>
   clear HO
   obtain ⟨k, vr, hk, rfl, hbl, hbo, hvo⟩ := hrel
   obtain ⟨wC, rfl⟩ : ∃ wC : World, wC = wr := ⟨_, rfl⟩
   have HBL := Lib.hid hbl
   have HBO := Lib.hid hbo
   have HVO := Lib.hid hvo
   have hszC := hbl.size
   have hobw := hbo.lt
   by_cases hlt : k < R
   ·have hkr : k < st.rows.length := by rw [← HRR.out]; exact hlt
    obtain ⟨x, hx⟩ : ∃ x, x = st.rows[k] := ⟨_, rfl⟩
    have hxl := HLOW.out x (by rw [hx]; exact List.getElem_mem _)
    obtain ⟨xn, hxn⟩ : ∃ xn : Nat, (xn : Int) = x := ⟨x.toNat, by omega⟩
    have hxnN : xn < N := by omega
    have cx := (hbl.cell (p := ⟨gS, k, none⟩) hgSo).trans (cell_num HSV.out hlt)
    have hxi : st.rows.getD k 0 = (xn : Int) := by rw [List.getD_eq_getElem?_getD, List.getElem?_eq_getElem hkr, hxn, hx]; rfl
    rw [hxi] at cx
    obtain ⟨y, hy⟩ : ∃ y, y = bkOf m.vs x := ⟨_, rfl⟩
    have hxV : xn < m.vs.length := by rw [HVN.out]; exact hxnN
    have hyV : y = m.vs[xn] := by
     rw [hy]
     unfold bkOf
     rw [← hxn, Int.toNat_natCast]
     exact getD_eq hxV
    have HXS : Hid ((st.rows.take (k + 1)).map (bkOf m.vs) = (st.rows.take k).map (bkOf m.vs) ++ [y]) := by
     unfold Hid
     rw [hy, hx, List.take_add_one, List.getElem?_eq_getElem hkr, List.map_append]
     rfl
    have hmk := HPA.out.marks
    obtain ⟨am, cm, rfl, hmn, hmc, hmrow⟩ := hmk
    obtain ⟨bv, ov, rfl, -, hbvA, cv⟩ := hmrow.one hxV
    simp only [encI, List.getElem?_cons_zero] at cv
    rw [← hyV] at cv
    have hbvo : bv < ob := by have := HOBE.out; omega
    have cv2 := (hbl.cell (p := ⟨bv, ov + xn, none⟩) hbvo).trans (keeps HAB.out hbvA cv)
    have t4 := (hbl.cell (p := ⟨tb, 4, none⟩) htbo).trans (HTB2.out.cell 4 rfl)
    rw [HVN.out] at t4 hmn
    have cob := hbo.cell 4 rfl
    have hfz := hbo.frozen 4
    have htbC : tb < wC.heap.size := by omega
    have hbvC : bv < wC.heap.size := by omega
    have hne1 : some tb ≠ vr.ownBlock := fun e => by have := (hvo.lt tb e.symm).1; omega
    have hne2 : some bv ≠ vr.ownBlock := fun e => by have := (hvo.lt bv e.symm).1; omega
    have hne4 : some ob ≠ vr.ownBlock := fun e => by have := (hvo.lt ob e.symm).1; omega
    have hnt : tb ≠ ob := by omega
    have hnb : bv ≠ ob := by omega
    have HT4 := Lib.hid t4
    have HCV := Lib.hid cv2
    have HCOB := Lib.hid cob
    have HFZ := Lib.hid hfz
    have HNE := Lib.hid (And.intro hne1 (And.intro hne2 hne4))
    have HAD : Hid (Below wC.heap.size wC ((wC.alloc (.cells #[.int .i64 y] 2)).drew)) := ((Below.refl _ _).alloc (Nat.le_refl _) _).drew
    have hoC : ob + 1 ≤ wC.heap.size := hobw
    rw [← hxn] at *
    clear hbl hbo hvo hx hxl hxi hy hyV cv hmrow hne1 hne2 hne4 hfz hxn hxV
    go_wp2
    refine wp_region_noPanic ?_
    refine wp_region_held_drew (S := fun w' => w'.cell? ⟨tb, 4, none⟩ = some (.slice (some ⟨bv, ov, none⟩) N cm) ∧ w'.cell? ⟨bv, ov + xn, none⟩ = some (.int .i64 y)) (by kernel_rfl) ?hS (fun hHeld => ?goon)
    case hS =>
     try dsimp only
     first
           | exact ⟨HT4.out, HCV.out⟩
           | exact hS5
           | (refine ⟨?_, ?_⟩ <;> (rw [cell_setV (by first | exact hnt | exact hnb)]; first | exact hS5.1 | exact hS5.2))
           | go_keep
    case goon =>
     refine wpAnyH_take (i := 0) (oi := ?oi1) (v := ?v1) ?ho1 ?ka1 ?kb1 ?kc1 (fun _ _ _ h => h) (Or.inl ⟨?wn1, ?hy1⟩) (by assumption) ?rest1
     case ho1 => (simp only [List.getElem?_toArray, List.getElem?_cons_zero]; rfl)
     case ka1 => kernel_rfl
     case kb1 => kernel_rfl
     case kc1 => kernel_rfl
     case wn1 => rfl
     case hy1 => (intro w hSw; (try dsimp only at hSw); first | (go_simp; done) | (go_simp; with_reducible rfl))
     case rest1 =>
      try simp only [Act.put, List.setIfInBounds_toArray, List.set_cons_zero, List.set_cons_succ]
      refine wpAnyH_take (i := 2) (oi := ?oi2) (v := ?v2) ?ho2 ?ka2 ?kb2 ?kc2 (fun _ _ _ h => h) (Or.inl ⟨?wn2, ?hy2⟩) (by assumption) ?rest2
      case ho2 => (simp only [List.getElem?_toArray, List.getElem?_cons_succ, List.getElem?_cons_zero]; rfl)
      case ka2 => kernel_rfl
      case kb2 => kernel_rfl
      case kc2 => kernel_rfl
      case wn2 => rfl
      case hy2 => (intro w hSw; (try dsimp only at hSw); first | (go_simp; done) | (go_simp; with_reducible rfl))
      case rest2 =>
       try simp only [Act.put, List.setIfInBounds_toArray, List.set_cons_zero, List.set_cons_succ]
       refine wpAnyH_take (i := 3) (oi := ?oi3) (v := ?v3) ?ho3 ?ka3 ?kb3 ?kc3 (fun _ _ _ h => h) (Or.inl ⟨?wn3, ?hy3⟩) (by assumption) ?rest3
       case ho3 => (simp only [List.getElem?_toArray, List.getElem?_cons_succ, List.getElem?_cons_zero]; rfl)
       case ka3 => kernel_rfl
       case kb3 => kernel_rfl
       case kc3 => kernel_rfl
       case wn3 => rfl
       case hy3 => (intro w hSw; (try dsimp only at hSw); first | (go_simp; done) | (go_simp; with_reducible rfl))
       case rest3 =>
        try simp only [Act.put, List.setIfInBounds_toArray, List.set_cons_zero, List.set_cons_succ]
        refine wpAnyH_take (i := 4) (oi := ?oi4) (v := ?v4) ?ho4 ?ka4 ?kb4 ?kc4 (fun _ _ _ h => h) (Or.inl ⟨?wn4, ?hy4⟩) (by assumption) ?rest4
        case ho4 => (simp only [List.getElem?_toArray, List.getElem?_cons_succ, List.getElem?_cons_zero]; rfl)
        case ka4 => kernel_rfl
        case kb4 => kernel_rfl
        case kc4 => kernel_rfl
        case wn4 => rfl
        case hy4 => (intro w hSw; (try dsimp only at hSw); first | (go_simp; done) | (go_simp; with_reducible rfl))
        case rest4 =>
         try simp only [Act.put, List.setIfInBounds_toArray, List.set_cons_zero, List.set_cons_succ]
         refine wpAnyH_take (i := 5) (oi := ?oi5) (v := ?v5) ?ho5 ?ka5 ?kb5 ?kc5 (fun _ _ _ h => h) (Or.inl ⟨?wn5, ?hy5⟩) (by assumption) ?rest5
         case ho5 => (simp only [List.getElem?_toArray, List.getElem?_cons_succ, List.getElem?_cons_zero]; rfl)
         case ka5 => kernel_rfl
         case kb5 => kernel_rfl
         case kc5 => kernel_rfl
         case wn5 => rfl
         case hy5 => (intro w hSw; (try dsimp only at hSw); first | (go_simp; done) | (go_simp; with_reducible rfl))
         case rest5 =>
          try simp only [Act.put, List.setIfInBounds_toArray, List.set_cons_zero, List.set_cons_succ]
          refine wpAnyH_take (i := 6) (oi := ?oi6) (v := ?v6) ?ho6 ?ka6 ?kb6 ?kc6 (fun _ _ _ h => h) (Or.inl ⟨?wn6, ?hy6⟩) (by assumption) ?rest6
          case ho6 => (simp only [List.getElem?_toArray, List.getElem?_cons_succ, List.getElem?_cons_zero]; rfl)
          case ka6 => kernel_rfl
          case kb6 => kernel_rfl
          case kc6 => kernel_rfl
          case wn6 => rfl
          case hy6 => (intro w hSw; (try dsimp only at hSw); first | (go_simp; done) | (go_simp; with_reducible rfl))
          case rest6 =>
           try simp only [Act.put, List.setIfInBounds_toArray, List.set_cons_zero, List.set_cons_succ]
           refine wpAnyH_ready (rs := [1, 7]) (by kernel_rfl) (by simp) ?_
           refine AllReadyH.cons (o := ?o7) ?ho7 (fun K hK => ?st7) ?more7
           case ho7 => (simp only [List.getElem?_toArray, List.getElem?_cons_succ, List.getElem?_cons_zero]; rfl)
           case st7 =>
            go_simp
            refine hK.out _ _ ?hS7 (fun hHeld => ?goon7)
            case hS7 =>
             try dsimp only
             first
                   | exact ⟨HT4.out, HCV.out⟩
                   | exact hS5
                   | (refine ⟨?_, ?_⟩ <;> (rw [cell_setV (by first | exact hnt | exact hnb)]; first | exact hS5.1 | exact hS5.2))
                   | go_keep
            case goon7 =>
             clear hK K
             try simp only [Act.put, List.setIfInBounds_toArray, List.set_cons_zero, List.set_cons_succ]
             refine wpAnyH_ready (rs := [7]) (by kernel_rfl) (by simp) ?_
             refine AllReadyH.cons (o := ?o8) ?ho8 (fun K hK => ?st8) ?more8
             case ho8 => (simp only [List.getElem?_toArray, List.getElem?_cons_succ, List.getElem?_cons_zero]; rfl)
             case st8 =>
              go_simp
              refine hK.out _ _ ?hS8 (fun hHeld => ?goon8)
              case hS8 =>
               try dsimp only
               first
                     | exact ⟨HT4.out, HCV.out⟩
                     | exact hS5
                     | (refine ⟨?_, ?_⟩ <;> (rw [cell_setV (by first | exact hnt | exact hnb)]; first | exact hS5.1 | exact hS5.2))
                     | go_keep
              case goon8 =>
               clear hK K
               try simp only [Act.put, List.setIfInBounds_toArray, List.set_cons_zero, List.set_cons_succ]
               refine wpAnyH_ready (rs := [8]) (by kernel_rfl) (by simp) ?_
               refine AllReadyH.cons (o := ?o9) ?ho9 (fun K hK => ?st9) ?more9
               case ho9 => (simp only [List.getElem?_toArray, List.getElem?_cons_succ, List.getElem?_cons_zero]; rfl)
               case st9 =>
                first
                      | (refine step_append_lies _ (by rfl) _ _ 26 (by rfl) (ob + 1) 2 i1 _ 1 8 Tryz.underlying26 hi1 hz10 hz11 hz12 rfl (by omega) vr k _ (by rfl) (owns_below HVO.out HAD.out) ⟨wC.heap.size, 0, none⟩ 1 1 [.int .i64 y] (by rfl) (by rfl) (World.news_of_block (cs := #[.int .i64 y]) (t := 2) (fr := (0, 0)) (heap_alloc_new _ _)) (by simp [Value.oneCell']) (by omega) (by simp [maxLen]; omega) (by omega) (by simp; omega) (wC.heap.size + 1) (by simp) ?_; intro gg cap w5 hown5 hgrow5 hat5 hlt5; have z1 : w5.frozen? ⟨ob, 4, none⟩ = false := (hgrow5.frozen_far ⟨ob, 4, none⟩ (by simp; omega) HNE.out.2.2).trans ((HAD.out.frozen (p := ⟨ob, 4, none⟩) hobw).trans HFZ.out); have z2 := (hgrow5.cell_far ⟨ob, 4, none⟩ (by simp; omega) HNE.out.2.2).trans (keeps HAD.out hobw HCOB.out); have hS5 : w5.cell? ⟨tb, 4, none⟩ = some (.slice (some ⟨bv, ov, none⟩) N cm) ∧ w5.cell? ⟨bv, ov + xn, none⟩ = some (.int .i64 y) := ⟨(hgrow5.cell_far ⟨tb, 4, none⟩ (by simp; omega) HNE.out.1).trans (keeps HAD.out htbC HT4.out), (hgrow5.cell_far ⟨bv, ov + xn, none⟩ (by simp; omega) HNE.out.2.1).trans (keeps HAD.out hbvC HCV.out)⟩)
                      | fail
                refine hK.out _ _ ?hS9 (fun hHeld => ?goon9)
                case hS9 =>
                 try dsimp only
                 first
                       | exact ⟨HT4.out, HCV.out⟩
                       | exact hS5
                       | (refine ⟨?_, ?_⟩ <;> (rw [cell_setV (by first | exact hnt | exact hnb)]; first | exact hS5.1 | exact hS5.2))
                       | go_keep
                case goon9 =>
                 clear hK K
                 try simp only [Act.put, List.setIfInBounds_toArray, List.set_cons_zero, List.set_cons_succ]
                 refine wpAnyH_take (i := 9) (oi := ?oi10) (v := ?v10) ?ho10 ?ka10 ?kb10 ?kc10 (fun _ _ _ h => h) (Or.inl ⟨?wn10, ?hy10⟩) (by assumption) ?rest10
                 case ho10 => (simp only [List.getElem?_toArray, List.getElem?_cons_succ, List.getElem?_cons_zero]; rfl)
                 case ka10 => kernel_rfl
                 case kb10 => kernel_rfl
                 case kc10 => kernel_rfl
                 case wn10 => rfl
                 case hy10 => (intro w hSw; (try dsimp only at hSw); first | (go_simp; done) | (go_simp; with_reducible rfl))
                 case rest10 =>
                  try simp only [Act.put, List.setIfInBounds_toArray, List.set_cons_zero, List.set_cons_succ]
                  refine wpAnyH_ready (rs := [10]) (by kernel_rfl) (by simp) ?_
                  refine AllReadyH.cons (o := ?o11) ?ho11 (fun K hK => ?st11) ?more11
                  case ho11 => (simp only [List.getElem?_toArray, List.getElem?_cons_succ, List.getElem?_cons_zero]; rfl)
                  case st11 =>
                   go_simp
                   refine hK.out _ _ ?hS11 (fun hHeld => ?goon11)
                   case hS11 =>
                    try dsimp only
                    first
                          | exact ⟨HT4.out, HCV.out⟩
                          | exact hS5
                          | (refine ⟨?_, ?_⟩ <;> (rw [cell_setV (by first | exact hnt | exact hnb)]; first | exact hS5.1 | exact hS5.2))
                          | go_keep
                   case goon11 =>
                    clear hK K
                    try simp only [Act.put, List.setIfInBounds_toArray, List.set_cons_zero, List.set_cons_succ]
                    refine wpAnyH_done (by kernel_rfl) ?_ _
                    refine NoPanic.normal ?_
                    obtain ⟨v2, hv2⟩ : ∃ v2, v2 = Value.slice (some ⟨gg, 0, none⟩) (k + 1) cap := ⟨_, rfl⟩
                    try rw [← hv2]
                    rw [← hv2] at hown5
                    have HB6 : Hid (Below ob wB (w5.setCell ⟨ob, 4, none⟩ v2)) := ((HBL.out.trans (HAD.out.mono (by omega))).grown hgrow5 (by simp; omega) (fun b e => by have := (HVO.out.lt b e).1; omega)).setCell (Nat.le_refl _) _
                    have hO5 : Blk w5 ob [.int .i64 r.states, .int .i64 r.initial, .slice la LL lc, .slice ea EE ec, vr] 34 := (HBO.out.below HAD.out).kept hgrow5 HNE.out.2.2
                    have HO6 := Lib.hid (hO5.set 4 v2)
                    have HV6 : Hid ((w5.setCell ⟨ob, 4, none⟩ v2).ownsRow (ob + 1) 2 1 v2 (k + 1) (((st.rows.take (k + 1)).map (bkOf m.vs)).map (Value.int .i64))) := by
                     unfold Hid
                     rw [HXS.out, List.map_append]
                     exact own_sets hown5 hO5 (by decide) 4 _
                    clear hv2 hown5 hgrow5 hat5 hlt5 z1 z2 hS5 hO5 t4 cv2 cob
                    go_wp2
                    go_roundw
                    case rel => exact ⟨k + 1, v2, by omega, by go_num, HB6.out, HO6.out, HV6.out⟩
                    case measure => simp [intOf]; omega
                  exact AllReadyH.nil
               exact AllReadyH.nil
             exact AllReadyH.nil
           refine AllReadyH.cons (o := ?o12) ?ho12 (fun K hK => ?st12) ?more12
           case ho12 => (simp only [List.getElem?_toArray, List.getElem?_cons_succ, List.getElem?_cons_zero]; rfl)
           case st12 =>
            go_simp
            refine hK.out _ _ ?hS12 (fun hHeld => ?goon12)
            case hS12 =>
             try dsimp only
             first
                   | exact ⟨HT4.out, HCV.out⟩
                   | exact hS5
                   | (refine ⟨?_, ?_⟩ <;> (rw [cell_setV (by first | exact hnt | exact hnb)]; first | exact hS5.1 | exact hS5.2))
                   | go_keep
            case goon12 =>
             clear hK K
             try simp only [Act.put, List.setIfInBounds_toArray, List.set_cons_zero, List.set_cons_succ]
             refine wpAnyH_ready (rs := [1]) (by kernel_rfl) (by simp) ?_
             refine AllReadyH.cons (o := ?o13) ?ho13 (fun K hK => ?st13) ?more13
             case ho13 => (simp only [List.getElem?_toArray, List.getElem?_cons_succ, List.getElem?_cons_zero]; rfl)
             case st13 =>
              go_simp
              refine hK.out _ _ ?hS13 (fun hHeld => ?goon13)
              case hS13 =>
               try dsimp only
               first
                     | exact ⟨HT4.out, HCV.out⟩
                     | exact hS5
                     | (refine ⟨?_, ?_⟩ <;> (rw [cell_setV (by first | exact hnt | exact hnb)]; first | exact hS5.1 | exact hS5.2))
                     | go_keep
              case goon13 =>
               clear hK K
               try simp only [Act.put, List.setIfInBounds_toArray, List.set_cons_zero, List.set_cons_succ]
               refine wpAnyH_ready (rs := [8]) (by kernel_rfl) (by simp) ?_
               refine AllReadyH.cons (o := ?o14) ?ho14 (fun K hK => ?st14) ?more14
               case ho14 => (simp only [List.getElem?_toArray, List.getElem?_cons_succ, List.getElem?_cons_zero]; rfl)
               case st14 =>
                first
                      | (refine step_append_lies _ (by rfl) _ _ 26 (by rfl) (ob + 1) 2 i1 _ 1 8 Tryz.underlying26 hi1 hz10 hz11 hz12 rfl (by omega) vr k _ (by rfl) (owns_below HVO.out HAD.out) ⟨wC.heap.size, 0, none⟩ 1 1 [.int .i64 y] (by rfl) (by rfl) (World.news_of_block (cs := #[.int .i64 y]) (t := 2) (fr := (0, 0)) (heap_alloc_new _ _)) (by simp [Value.oneCell']) (by omega) (by simp [maxLen]; omega) (by omega) (by simp; omega) (wC.heap.size + 1) (by simp) ?_; intro gg cap w5 hown5 hgrow5 hat5 hlt5; have z1 : w5.frozen? ⟨ob, 4, none⟩ = false := (hgrow5.frozen_far ⟨ob, 4, none⟩ (by simp; omega) HNE.out.2.2).trans ((HAD.out.frozen (p := ⟨ob, 4, none⟩) hobw).trans HFZ.out); have z2 := (hgrow5.cell_far ⟨ob, 4, none⟩ (by simp; omega) HNE.out.2.2).trans (keeps HAD.out hobw HCOB.out); have hS5 : w5.cell? ⟨tb, 4, none⟩ = some (.slice (some ⟨bv, ov, none⟩) N cm) ∧ w5.cell? ⟨bv, ov + xn, none⟩ = some (.int .i64 y) := ⟨(hgrow5.cell_far ⟨tb, 4, none⟩ (by simp; omega) HNE.out.1).trans (keeps HAD.out htbC HT4.out), (hgrow5.cell_far ⟨bv, ov + xn, none⟩ (by simp; omega) HNE.out.2.1).trans (keeps HAD.out hbvC HCV.out)⟩)
                      | fail
                refine hK.out _ _ ?hS14 (fun hHeld => ?goon14)
                case hS14 =>
                 try dsimp only
                 first
                       | exact ⟨HT4.out, HCV.out⟩
                       | exact hS5
                       | (refine ⟨?_, ?_⟩ <;> (rw [cell_setV (by first | exact hnt | exact hnb)]; first | exact hS5.1 | exact hS5.2))
                       | go_keep
                case goon14 =>
                 clear hK K
                 try simp only [Act.put, List.setIfInBounds_toArray, List.set_cons_zero, List.set_cons_succ]
                 refine wpAnyH_take (i := 9) (oi := ?oi15) (v := ?v15) ?ho15 ?ka15 ?kb15 ?kc15 (fun _ _ _ h => h) (Or.inl ⟨?wn15, ?hy15⟩) (by assumption) ?rest15
                 case ho15 => (simp only [List.getElem?_toArray, List.getElem?_cons_succ, List.getElem?_cons_zero]; rfl)
                 case ka15 => kernel_rfl
                 case kb15 => kernel_rfl
                 case kc15 => kernel_rfl
                 case wn15 => rfl
                 case hy15 => (intro w hSw; (try dsimp only at hSw); first | (go_simp; done) | (go_simp; with_reducible rfl))
                 case rest15 =>
                  try simp only [Act.put, List.setIfInBounds_toArray, List.set_cons_zero, List.set_cons_succ]
                  refine wpAnyH_ready (rs := [10]) (by kernel_rfl) (by simp) ?_
                  refine AllReadyH.cons (o := ?o16) ?ho16 (fun K hK => ?st16) ?more16
                  case ho16 => (simp only [List.getElem?_toArray, List.getElem?_cons_succ, List.getElem?_cons_zero]; rfl)
                  case st16 =>
                   go_simp
                   refine hK.out _ _ ?hS16 (fun hHeld => ?goon16)
                   case hS16 =>
                    try dsimp only
                    first
                          | exact ⟨HT4.out, HCV.out⟩
                          | exact hS5
                          | (refine ⟨?_, ?_⟩ <;> (rw [cell_setV (by first | exact hnt | exact hnb)]; first | exact hS5.1 | exact hS5.2))
                          | go_keep
                   case goon16 =>
                    clear hK K
                    try simp only [Act.put, List.setIfInBounds_toArray, List.set_cons_zero, List.set_cons_succ]
                    refine wpAnyH_done (by kernel_rfl) ?_ _
                    refine NoPanic.normal ?_
                    obtain ⟨v2, hv2⟩ : ∃ v2, v2 = Value.slice (some ⟨gg, 0, none⟩) (k + 1) cap := ⟨_, rfl⟩
                    try rw [← hv2]
                    rw [← hv2] at hown5
                    have HB6 : Hid (Below ob wB (w5.setCell ⟨ob, 4, none⟩ v2)) := ((HBL.out.trans (HAD.out.mono (by omega))).grown hgrow5 (by simp; omega) (fun b e => by have := (HVO.out.lt b e).1; omega)).setCell (Nat.le_refl _) _
                    have hO5 : Blk w5 ob [.int .i64 r.states, .int .i64 r.initial, .slice la LL lc, .slice ea EE ec, vr] 34 := (HBO.out.below HAD.out).kept hgrow5 HNE.out.2.2
                    have HO6 := Lib.hid (hO5.set 4 v2)
                    have HV6 : Hid ((w5.setCell ⟨ob, 4, none⟩ v2).ownsRow (ob + 1) 2 1 v2 (k + 1) (((st.rows.take (k + 1)).map (bkOf m.vs)).map (Value.int .i64))) := by
                     unfold Hid
                     rw [HXS.out, List.map_append]
                     exact own_sets hown5 hO5 (by decide) 4 _
                    clear hv2 hown5 hgrow5 hat5 hlt5 z1 z2 hS5 hO5 t4 cv2 cob
                    go_wp2
                    go_roundw
                    case rel => exact ⟨k + 1, v2, by omega, by go_num, HB6.out, HO6.out, HV6.out⟩
                    case measure => simp [intOf]; omega
                  exact AllReadyH.nil
               exact AllReadyH.nil
             exact AllReadyH.nil
           exact AllReadyH.nil
   ·obtain rfl : k = R := by omega
    have hrO : tb + 1 < ob := by have := HOBE.out; have h9 := HR.out.lt; omega
    have HRC := Lib.hid (HRB.out.belowB hbl hrO)
    obtain ⟨va, vc, rfl, -, -⟩ := owns_slice hvo
    have r0 := HRC.out.cell 0 rfl
    have r1 := HRC.out.cell 1 rfl
    have r2 := HRC.out.cell 2 rfl
    have r3 := HRC.out.cell 3 rfl
    have r4 := HRC.out.cell 4 rfl
    have s0 := HRC.out.frozen 0
    have s1 := HRC.out.frozen 1
    have s2 := HRC.out.frozen 2
    have s3 := HRC.out.frozen 3
    have s4 := HRC.out.frozen 4
    have o0 := hbo.cell 0 rfl
    have o1 := hbo.cell 1 rfl
    have o2 := hbo.cell 2 rfl
    have o3 := hbo.cell 3 rfl
    have o4 := hbo.cell 4 rfl
    have HWC : Hid (Below w.heap.size w wC) := HBB.out.trans (hbl.mono (by have := HTB.out; omega))
    have HLC : Hid (wC.ownsRow w.heap.size 9 1 (.slice la LL lc) r.labels.length (r.labels.map .string)) := by
     have h := own_lower (own_under HOWN.out.1 hbl HLAB.out) hs1w
     rw [← HLL.out] at h ⊢
     exact h
    have HEC : Hid (wC.ownsRow w.heap.size 78 3 (.slice ea EE ec) r.edges.length (r.edges.flatMap encE)) := by
     have h := own_lower (own_under HOWN.out.2 hbl HEDG.out) hs1w
     rw [← HEE.out] at h ⊢
     exact h
    have HVC : Hid (wC.ownsRow w.heap.size 2 1 (.slice va k vc) (st.rows.map (bkOf m.vs)).length ((st.rows.map (bkOf m.vs)).map (Value.int .i64))) := by
     have h := HVO.out
     rw [HRR.out, List.take_length] at h
     unfold Hid
     rw [List.length_map, HRR.out]
     exact own_lower h (by have := HTB.out; omega)
    clear hbl hbo hvo HVO
    go_wp2
    refine bodyPost_ret (ivi_results rfl (((((HRC.out.set 0 _).set 1 _).set 2 _).set 3 _).set 4 _)) rfl ?_
    refine ⟨((((HWC.out.setCell hle _).setCell hle _).setCell hle _).setCell hle _).setCell hle _, ⟨r, st.rows.map (bkOf m.vs)⟩, 0, _, _, .slice va k vc, rfl, .inr ⟨HV.out, ⟨st, HMS.out, rfl⟩, rfl⟩, ⟨?_, ?_⟩, ?_⟩
    ·exact own5M HRC.out HLC.out (by decide)
    ·exact own5M HRC.out HEC.out (by decide)
    ·exact own5M HRC.out HVC.out (by decide)
 ·have HV := Lib.hid hv
  have HVA := Lib.hid (Decides.no HC.out hv)
  clear hv
  go_enter Tryz.func8, Tryz.ntmps8
  go_wp2_with fail
  rw [← HWA.out]
  refine Calls.mono HVA.out ?_
  rintro e w1 ⟨rfl, hb1⟩
  have HB1 := Lib.hid hb1
  have HR1 := Lib.hid (HR.out.below hb1)
  have r0 := HR1.out.cell 0 rfl
  have r1 := HR1.out.cell 1 rfl
  have r2 := HR1.out.cell 2 rfl
  have r3 := HR1.out.cell 3 rfl
  have r4 := HR1.out.cell 4 rfl
  have s0 := HR1.out.frozen 0
  have s1 := HR1.out.frozen 1
  have s2 := HR1.out.frozen 2
  have s3 := HR1.out.frozen 3
  have s4 := HR1.out.frozen 4
  clear hb1
  rw [← HTB.out]
  go_wp2
  refine bodyPost_ret (ivi_results rfl (((((HR1.out.set 0 _).set 1 _).set 2 _).set 3 _).set 4 _)) rfl ?_
  exact minm_none ((((((HBA.out.trans (HB1.out.mono HBA.out.size)).setCell hle _).setCell hle _).setCell hle _).setCell hle _).setCell hle _) HV.out

end Go.Proofs.YtjghfgaincnegaaGreatDoor

namespace Go.Proofs.YtjghfgaincnegaaGreatDoor
open Go Go.RowKit

set_option maxRecDepth 100000 in
set_option maxHeartbeats 4000000 in
theorem l11Single_any (p lo : Nat) (t : Lts) (w : World) (hp : LtsPtr lo w p t) : Calls Tryz.prog 41 #[.pointer (some ⟨p, 0, none⟩)] w (Decides (Single t) w) := by
 obtain ⟨lv, ev, hpl, -, -, -, q3, -, he⟩ := hp
 obtain ⟨ae, ce, rfl, hen, hec, hrow⟩ := he
 have HQ3 := Lib.hid q3
 go_enter Tryz.func41, Tryz.ntmps41
 go_wp2
 go_loopw [3] (fun i wr => ∃ k : Nat, k ≤ t.edges.length ∧ i = .int .i64 k ∧ Below w.heap.size w wr ∧ (∀ q (h : q < t.edges.length), q < k → t.edges[q].lab ≠ 0) ∧ (∀ q (h : q + 1 < t.edges.length), q + 1 < k → ¬ (t.edges[q + 1].src = t.edges[q].src ∧ t.edges[q + 1].lab = t.edges[q].lab))) (fun i _ => t.edges.length - (intOf i).toNat)
 case atStart => exact ⟨0, Nat.zero_le _, rfl, Below.refl _ _, fun _ _ h => by omega, fun _ _ h => by omega⟩
 case round =>
  obtain ⟨k, hk, rfl, hbl, hx1, hx2⟩ := hrel
  have HX1 := Lib.hid hx1
  have HX2 := Lib.hid hx2
  have HBL := Lib.hid hbl
  have hsz := hbl.size
  replace q3 := keeps hbl hpl HQ3.out
  clear hx1 hx2 hbl
  by_cases hlt : k < t.edges.length
  ·obtain ⟨be, oe, rfl, -, hbe, e1, e2, e3⟩ := (hrow.below HBL.out).edge hlt
   have s3 := later_cell (show p < wr.heap.size by omega) q3
   replace e1 := later_cell hbe e1
   replace e2 := later_cell hbe e2
   clear e3
   cases g1 : (t.edges[k].lab == 0)
   ·have HG1 : Hid (t.edges[k].lab ≠ 0) := by unfold Hid; simpa using g1
    rcases Nat.eq_zero_or_pos k with hk0 | hk0
    ·have hkz : k ≤ 0 := by omega
     have hk1 : decide ((0 : Int) < (k : Int)) = false := by rw [decide_eq_false_iff_not]; omega
     have hk2 : decide (0 < k) = false := by rw [decide_eq_false_iff_not]; omega
     have hk3 : ¬ (0 : Int) < (k : Int) := by omega
     have hk4 : ¬ 0 < k := by omega
     clear hk0 hrow
     go_wp2
     refine wp_region_later (by kernel_rfl) (by kernel_rfl) ?_
     repeat (go_big_quiet_step ((fail)))
     refine wpQuiet_nil ?_
     intro _ hw9
     obtain ⟨nl, hw8⟩ := hw9
     subst hw8
     clear e1 e2 g1
     have s3 := s3 nl
     go_wp2
     go_roundw
     case rel => exact ⟨k + 1, by omega, by go_num, HBL.out.trans (nl.h.mono hsz), fun q h h' => by
       obtain rfl : q = k := by omega
       exact HG1.out, fun q h h' => by omega⟩
     case measure => simp [intOf]; omega
    ·obtain ⟨m, rfl⟩ : ∃ m, k = m + 1 := ⟨k - 1, by omega⟩
     clear hk0
     obtain ⟨_, _, e9, -, -, d1, d2, d3⟩ := (hrow.below HBL.out).edge (show m < t.edges.length by omega)
     simp only [Option.some.injEq, Addr.mk.injEq, and_true] at e9
     obtain ⟨rfl, rfl⟩ := e9
     replace d1 := later_cell hbe d1
     replace d2 := later_cell hbe d2
     clear d3 hrow
     have hk1 : decide ((0 : Int) < (m : Int) + 1) = true := by rw [decide_eq_true_eq]; omega
     have hk2 : (0 : Int) < (m : Int) + 1 := by omega
     cases g2 : (t.edges[m + 1].src == t.edges[m].src)
     ·have HG2 : Hid (¬ t.edges[m + 1].src = t.edges[m].src) := by unfold Hid; simpa using g2
      go_wp2
      refine wp_region_later (by kernel_rfl) (by kernel_rfl) ?_
      repeat (go_big_quiet_step ((fail)))
      refine wpQuiet_nil ?_
      intro _ hw9
      obtain ⟨nl, hw8⟩ := hw9
      subst hw8
      clear e1 e2 g1 g2 d1 d2
      have s3 := s3 nl
      go_wp2
      go_roundw
      case rel => exact ⟨m + 1 + 1, by omega, by go_num, HBL.out.trans (nl.h.mono hsz), fun q h h' => by
        by_cases e : q = m + 1
        ·subst e; exact HG1.out
        ·exact HX1.out q h (by omega), fun q h h' => by
        by_cases e : q = m
        ·subst e; exact fun h => HG2.out h.1
        ·exact HX2.out q h (by omega)⟩
      case measure => simp [intOf]; omega
     ·cases g3 : (t.edges[m + 1].lab == t.edges[m].lab)
      ·have HG3 : Hid (¬ t.edges[m + 1].lab = t.edges[m].lab) := by unfold Hid; simpa using g3
       go_wp2
       refine wp_region_later (by kernel_rfl) (by kernel_rfl) ?_
       repeat (go_big_quiet_step ((fail)))
       refine wpQuiet_nil ?_
       intro _ hw9
       obtain ⟨nl, hw8⟩ := hw9
       subst hw8
       clear e1 e2 g1 g2 g3 d1 d2
       have s3 := s3 nl
       go_wp2
       go_roundw
       case rel => exact ⟨m + 1 + 1, by omega, by go_num, HBL.out.trans (nl.h.mono hsz), fun q h h' => by
         by_cases e : q = m + 1
         ·subst e; exact HG1.out
         ·exact HX1.out q h (by omega), fun q h h' => by
         by_cases e : q = m
         ·subst e; exact fun h => HG3.out h.2
         ·exact HX2.out q h (by omega)⟩
       case measure => simp [intOf]; omega
      ·have HG2 : Hid (t.edges[m + 1].src = t.edges[m].src) := by unfold Hid; simpa using g2
       have HG3 : Hid (t.edges[m + 1].lab = t.edges[m].lab) := by unfold Hid; simpa using g3
       go_wp2
       refine wp_region_later (by kernel_rfl) (by kernel_rfl) ?_
       repeat (go_big_quiet_step ((fail)))
       refine wpQuiet_nil ?_
       intro _ hw9
       obtain ⟨nl, hw8⟩ := hw9
       subst hw8
       go_wp2
       go_ret
       exact ⟨false, rfl, ⟨(fun h => by cases h), fun h => absurd ⟨HG2.out, HG3.out⟩ (h.one m hlt)⟩, HBL.out.trans (nl.h.mono hsz)⟩
   ·clear hrow
    have HG1 : Hid (t.edges[k].lab = 0) := by unfold Hid; simpa using g1
    go_wp2
    refine wp_region_later (by kernel_rfl) (by kernel_rfl) ?_
    repeat (go_big_quiet_step ((fail)))
    refine wpQuiet_nil ?_
    intro _ hw9
    obtain ⟨nl, hw8⟩ := hw9
    subst hw8
    go_wp2
    go_ret
    exact ⟨false, rfl, ⟨(fun h => by cases h), fun h => absurd HG1.out (h.visible k hlt)⟩, HBL.out.trans (nl.h.mono hsz)⟩
  ·clear hrow
   go_wp2
   go_ret
   exact ⟨true, rfl, ⟨fun _ => ⟨fun q h => HX1.out q h (by omega), fun q h => HX2.out q h (by omega)⟩, fun _ => rfl⟩, HBL.out⟩

set_option maxRecDepth 100000 in
set_option maxHeartbeats 1000000 in
theorem l11Out_any (p lo : Nat) (t : Lts) (s : Int) (w : World) (hsmall : t.edges.length ≤ 1073741824) (hp : LtsPtr lo w p t) : Calls Tryz.prog 43 #[.pointer (some ⟨p, 0, none⟩), .int .i64 s] w (MadeOut t s w) := by
 obtain ⟨lv, ev, hpl, -, -, -, q3, -, he⟩ := hp
 obtain ⟨ae, ce, rfl, hen, hec, hrow⟩ := he
 obtain ⟨i0, hi, hz0, hz1, hz2⟩ := info_parts info_edge2
 have HQ3 := Lib.hid q3
 go_enter Tryz.func43, Tryz.ntmps43
 go_wp2
 clear q3
 go_loopw [5, 6] (fun v i wr => ∃ k : Nat, k ≤ t.edges.length ∧ i = .int .i64 k ∧ Below w.heap.size w wr ∧ wr.ownsRow w.heap.size 78 3 v ((t.edges.take k).filter fun e => e.src == s).length (((t.edges.take k).filter fun e => e.src == s).flatMap encE)) (fun _ i _ => t.edges.length - (intOf i).toNat)
 case atStart => exact ⟨0, Nat.zero_le _, rfl, (Below.refl _ _).alloc (Nat.le_refl _) _, World.ownsRow_lit (size := 3) w #[] 0 (Nat.le_refl _) (by simp [maxLen]) rfl⟩
 case round =>
  obtain ⟨k, hk, rfl, hbl, ho⟩ := hrel
  have HBL := Lib.hid hbl
  have HO := Lib.hid ho
  have hsz := hbl.size
  have q3 := keeps hbl hpl HQ3.out
  have hfl : ((t.edges.take k).filter fun e => e.src == s).length ≤ k := Nat.le_trans (List.length_filter_le _ _) (List.length_take_le _ _)
  clear hbl ho
  by_cases hlt : k < t.edges.length
  ·obtain ⟨be, oe, rfl, -, hbe, e1, e2, e3⟩ := (hrow.below HBL.out).edge hlt
   clear hrow
   cases g : (t.edges[k].src == s)
   ·have HL : Hid ((t.edges.take (k + 1)).filter (fun e => e.src == s) = (t.edges.take k).filter fun e => e.src == s) := by
     unfold Hid
     rw [List.take_succ_eq_append_getElem hlt, List.filter_append]
     simp [g]
    go_wp2
    go_roundw
    case rel => exact ⟨k + 1, by omega, by go_num, HBL.out, by rw [HL.out]; exact HO.out⟩
    case measure => simp [intOf]; omega
   ·have HL : Hid ((t.edges.take (k + 1)).filter (fun e => e.src == s) = ((t.edges.take k).filter fun e => e.src == s) ++ [t.edges[k]]) := by
     unfold Hid
     rw [List.take_succ_eq_append_getElem hlt, List.filter_append]
     simp [g]
    generalize hfs : (t.edges.take k).filter (fun e => e.src == s) = fs at *
    have HFS := Lib.hid hfs
    clear hfs
    go_wp2_with (at_builtin; refine wpList_append_own _ rfl _ _ 30 rfl w.heap.size 78 i0 (.agg #[.int .i64 0, .int .i64 0, .int .i64 0]) 3 24 Tryz.underlying30 hi hz0 hz1 hz2 rfl (by decide) _ _ _ rfl (HO.out.alloc _) ⟨wr.heap.size, 0, none⟩ 1 1 (encE t.edges[k]) rfl rfl ?c1 ?c2 ?c3 ?c4 ?c5 ?_)
    case c1 => exact three_new _ _ _
    case c2 => intro u hu; simp [encE] at hu; rcases hu with rfl | rfl | rfl <;> rfl
    case c3 => simp [maxLen]; omega
    case c4 => omega
    case c5 => simp; omega
    intro v' w1 ho1 hg1 _
    have HO2 : Hid (w1.ownsRow w.heap.size 78 3 v' (fs ++ [t.edges[k]]).length ((fs ++ [t.edges[k]]).flatMap encE)) := by
     unfold Hid
     rw [List.length_append, List.flatMap_append, List.flatMap_singleton]
     exact ho1
    have HB2 : Hid (Below w.heap.size w w1) := (HBL.out.alloc hsz _).grown hg1 (by simp; omega) (fun b e => (HO.out.lt b e).1)
    clear ho1 hg1
    go_wp2
    go_roundw
    case rel => exact ⟨k + 1, by omega, by go_num, HB2.out, by rw [HL.out]; exact HO2.out⟩
    case measure => simp [intOf]; omega
  ·clear hrow
   go_wp2
   go_ret
   obtain rfl : k = t.edges.length := by omega
   exact ⟨_, rfl, HBL.out, by unfold outOf; have := HO.out; rw [List.take_length] at this; exact this⟩

end Go.Proofs.YtjghfgaincnegaaGreatDoor

namespace Go.Proofs.YtjghfgaincnegaaGreatDoor
open Go Go.RowKit

theorem mon_all {m : Mon} (hv : Valid m.sys) (hs : Single m.sys) (hl : (m.vs.length : Int) = m.sys.states) (h : ∀ j (hj : j < m.vs.length), (0 ≤ m.vs[j] ∧ m.vs[j] ≤ 2) ∧ (m.vs[j] ≠ 0 → outOf m.sys (j : Int) = [])) : MonOk m := by
 refine ⟨hv, hs, hl, fun v hm => ?_, fun e he => ?_⟩
 ·obtain ⟨j, hj, rfl⟩ := List.mem_iff_getElem.1 hm
  exact (h j hj).1
 ·obtain ⟨i, hi, rfl⟩ := List.mem_iff_getElem.1 he
  have ho := hv.edge i hi
  have h0 := ho.s0
  have h1 := ho.s1
  have hj : m.sys.edges[i].src.toNat < m.vs.length := by omega
  rw [List.getD_eq_getElem?_getD, List.getElem?_eq_getElem hj]
  refine Classical.byContradiction fun hne => ?_
  have h2 := (h _ hj).2 hne
  have h3 : m.sys.edges[i] ∈ outOf m.sys ((m.sys.edges[i].src.toNat : Nat) : Int) := by
   unfold outOf
   rw [List.mem_filter]
   refine ⟨List.getElem_mem _, ?_⟩
   simp only [beq_iff_eq]
   omega
  rw [h2] at h3
  cases h3
theorem mon_not {m : Mon} {j : Nat} (hj : j < m.vs.length) (h1 : m.vs[j] ≠ 0) (h2 : outOf m.sys (j : Int) ≠ []) : ¬ MonOk m := fun h => by
 obtain ⟨e, t, ht⟩ := List.exists_cons_of_ne_nil h2
 have he : e ∈ outOf m.sys (j : Int) := by rw [ht]; exact List.mem_cons_self ..
 unfold outOf at he
 rw [List.mem_filter] at he
 have h3 := h.fin e he.1
 have h4 : e.src = (j : Int) := by simpa using he.2
 rw [h4, Int.toNat_natCast, List.getD_eq_getElem?_getD, List.getElem?_eq_getElem hj] at h3
 exact h1 h3

set_option maxRecDepth 100000 in
set_option maxHeartbeats 2000000 in
theorem l30Is_any (p lo : Nat) (m : Mon) (w : World) (hsh : Short m.sys.labels) (hp : MonPtr lo w p m) : Calls Tryz.prog 19 #[.pointer (some ⟨p, 0, none⟩)] w (Decides (MonOk m) w) := by
 have HS := Lib.hid hsh
 have HMP := Lib.hid hp
 obtain ⟨hl, vv, q4, hvs⟩ := hp
 have HL := Lib.hid hl
 obtain ⟨_, _, hpl, q0, -⟩ := hl
 obtain ⟨am, cm, rfl, hmn, hmc, hrow⟩ := hvs
 have HR := Lib.hid hrow
 have HQ0 := Lib.hid q0
 have HQ4 := Lib.hid q4
 obtain ⟨VN, hVN⟩ : ∃ VN, VN = m.vs.length := ⟨_, rfl⟩
 obtain ⟨ST, hST⟩ : ∃ ST, ST = m.sys.states := ⟨_, rfl⟩
 rw [← hVN] at HQ4 q4 hmn
 rw [← hST] at HQ0 q0
 have HVN := Lib.hid hVN
 have HST := Lib.hid hST
 replace q0 := later_cell hpl q0
 replace q4 := later_cell hpl q4
 clear hsh hrow hVN hST
 by_cases hv : Valid m.sys
 ·by_cases hs : Single m.sys
  ·by_cases hn : (VN : Int) = ST
   ·have HV := Lib.hid hv
    have HSI := Lib.hid hs
    have HN : Hid ((m.vs.length : Int) = m.sys.states) := by unfold Hid; rw [← HVN.out, ← HST.out]; exact hn
    have hst2 : ST ≤ 40 := by rw [HST.out]; exact hv.st1
    have hmost := hv.most
    have hb : ((VN : Int) != ST) = false := by rw [bne, beq_iff_eq.2 hn]; rfl
    have HNN := Lib.hid hn
    have hVN40 : VN ≤ 40 := by omega
    clear hv hs hn
    go_enter Tryz.func19, Tryz.ntmps19
    go_wp2
    refine wp_region_later (by kernel_rfl) (by kernel_rfl) ?_
    repeat (go_big_quiet_step ((first | (go_at_call 40; exact later_call (Decides.yes (l11Is_any p lo m.sys _ HS.out (LtsPtr.below HL.out (Later.h _))) HV.out)) | (go_at_call 41; exact later_call (Decides.yes (l11Single_any p lo m.sys _ (LtsPtr.below HL.out (Later.h _))) HSI.out)))))
    refine wpQuiet_nil ?_
    intro _ hw9
    obtain ⟨nl, hw8⟩ := hw9
    subst hw8
    have HB1 := Lib.hid nl.h
    obtain ⟨w1, hw1⟩ : ∃ w1, w1 = nl.w := ⟨_, rfl⟩
    rw [← hw1] at HB1 ⊢
    clear hw1 nl q0 q4 hb
    go_wp2
    go_loopw [3] (fun v3 wr => ∃ k : Nat, k ≤ VN ∧ v3 = .int .i64 k ∧ Below w.heap.size w wr ∧ ∀ j (hj : j < m.vs.length), j < k → (0 ≤ m.vs[j] ∧ m.vs[j] ≤ 2) ∧ (m.vs[j] ≠ 0 → outOf m.sys (j : Int) = [])) (fun v3 _ => VN - (intOf v3).toNat)
    case atStart => exact ⟨0, Nat.zero_le _, rfl, HB1.out, fun _ _ h => by omega⟩
    case round =>
     obtain ⟨k, hk, rfl, hbl, hx⟩ := hrel
     obtain ⟨wK, rfl⟩ : ∃ wK : World, wK = wr := ⟨_, rfl⟩
     have HX := Lib.hid hx
     have HBL := Lib.hid hbl
     have hsz := hbl.size
     have q4 := keeps hbl hpl HQ4.out
     clear hx HB1
     by_cases hlt : k < VN
     ·have hkm : k < m.vs.length := by rw [← HVN.out]; exact hlt
      obtain ⟨bv, ov, rfl, -, hbv, c1⟩ := (HR.out.below hbl).one hkm
      simp only [encI, List.getElem?_cons_zero] at c1
      obtain ⟨x, hx⟩ : ∃ x, x = m.vs[k] := ⟨_, rfl⟩
      rw [← hx] at c1
      have HXX := Lib.hid hx
      have HLK := Lib.hid (HL.out.below hbl)
      clear hx hbl
      have HIN := Lib.hid (l00In_any x 0 2 wK)
      cases hin : inB x 0 2
      ·rw [hin] at HIN
       have HNO : Hid (¬ MonOk m) := fun h => by
        have h9 := h.low m.vs[k] (List.getElem_mem _)
        rw [← HXX.out, ← inB_iff, hin] at h9
        cases h9
       clear hin
       go_wp2_with fail
       refine Calls.mono HIN.out ?_
       rintro e w2 ⟨rfl, rfl⟩
       go_wp2_with fail
       go_ret
       exact ⟨false, rfl, ⟨(fun h => by cases h), fun h => absurd h HNO.out⟩, HBL.out⟩
      ·rw [hin] at HIN
       have HI2 : Hid (0 ≤ m.vs[k] ∧ m.vs[k] ≤ 2) := by unfold Hid; rw [← HXX.out]; exact inB_iff.1 hin
       clear hin
       cases hx0 : (x == 0)
       ·have HX0 : Hid (m.vs[k] ≠ 0) := by unfold Hid; rw [← HXX.out]; simpa using hx0
        have hx0' : ¬ x = 0 := by simpa using hx0
        have hxb : (x != 0) = true := bne_iff_ne.2 hx0'
        have HOU := Lib.hid (l11Out_any p lo m.sys (k : Int) wK (by omega) HLK.out)
        go_wp2_with fail
        refine Calls.mono HIN.out ?_
        rintro e w2 ⟨rfl, rfl⟩
        go_wp2_with fail
        refine Calls.mono HOU.out ?_
        rintro e w3 ⟨v3, rfl, hb3, ho3⟩
        obtain ⟨a3, c3, rfl, -, -⟩ := owns_slice ho3
        obtain ⟨ON, hON⟩ : ∃ ON, ON = (outOf m.sys (k : Int)).length := ⟨_, rfl⟩
        rw [← hON]
        have HB3 := Lib.hid (HBL.out.trans (hb3.mono hsz))
        by_cases h0 : 0 < ON
        ·have HNO : Hid (¬ MonOk m) := mon_not hkm HX0.out (List.ne_nil_of_length_pos (by omega))
         clear hb3 ho3 HOU HIN hON
         go_wp2_with fail
         go_ret
         exact ⟨false, rfl, ⟨(fun h => by cases h), fun h => absurd h HNO.out⟩, HB3.out⟩
        ·have HNI : Hid (outOf m.sys (k : Int) = []) := List.eq_nil_of_length_eq_zero (by omega)
         clear hb3 ho3 HOU HIN hON
         go_wp2_with fail
         go_roundw
         case rel => exact ⟨k + 1, by omega, by go_num, HB3.out, fun j hj h => by
          by_cases e : j = k
          ·subst e; exact ⟨HI2.out, fun _ => HNI.out⟩
          ·exact HX.out j hj (by omega)⟩
         case measure => simp [intOf]; omega
       ·have HX0 : Hid (m.vs[k] = 0) := by unfold Hid; rw [← HXX.out]; simpa using hx0
        have hx0' : x = 0 := by simpa using hx0
        have hxb : (x != 0) = false := by rw [hx0']; rfl
        clear hx0'
        go_wp2_with fail
        refine Calls.mono HIN.out ?_
        rintro e w2 ⟨rfl, rfl⟩
        go_wp2_with fail
        go_roundw
        case rel => exact ⟨k + 1, by omega, by go_num, HBL.out, fun j hj h => by
         by_cases e : j = k
         ·subst e; exact ⟨HI2.out, fun h => absurd HX0.out h⟩
         ·exact HX.out j hj (by omega)⟩
        case measure => simp [intOf]; omega
     ·clear hbl
      go_wp2
      go_ret
      exact ⟨true, rfl, ⟨fun _ => mon_all HV.out HSI.out HN.out fun j hj => HX.out j hj (by have := HVN.out; omega), fun _ => rfl⟩, HBL.out⟩
   ·have HV := Lib.hid hv
    have HSI := Lib.hid hs
    have HN : Hid (¬ MonOk m) := fun h => hn (by have := h.len; rw [HVN.out, HST.out]; exact this)
    have hb : ((VN : Int) != ST) = true := by rw [bne, beq_eq_false_iff_ne.2 hn]; rfl
    clear hv hs hn
    go_enter Tryz.func19, Tryz.ntmps19
    go_wp2
    refine wp_region_later (by kernel_rfl) (by kernel_rfl) ?_
    repeat (go_big_quiet_step ((first | (go_at_call 40; exact later_call (Decides.yes (l11Is_any p lo m.sys _ HS.out (LtsPtr.below HL.out (Later.h _))) HV.out)) | (go_at_call 41; exact later_call (Decides.yes (l11Single_any p lo m.sys _ (LtsPtr.below HL.out (Later.h _))) HSI.out)))))
    refine wpQuiet_nil ?_
    intro _ hw9
    obtain ⟨nl, hw8⟩ := hw9
    subst hw8
    go_wp2
    go_ret
    exact ⟨false, rfl, ⟨(fun h => by cases h), fun h => absurd h HN.out⟩, nl.h⟩
  ·have HV := Lib.hid hv
   have HSI := Lib.hid hs
   clear hv hs
   go_enter Tryz.func19, Tryz.ntmps19
   go_wp2
   refine wp_region_later (by kernel_rfl) (by kernel_rfl) ?_
   repeat (go_big_quiet_step ((first | (go_at_call 40; exact later_call (Decides.yes (l11Is_any p lo m.sys _ HS.out (LtsPtr.below HL.out (Later.h _))) HV.out)) | (go_at_call 41; exact later_call (Decides.no (l11Single_any p lo m.sys _ (LtsPtr.below HL.out (Later.h _))) HSI.out)))))
   refine wpQuiet_nil ?_
   intro _ hw9
   obtain ⟨nl, hw8⟩ := hw9
   subst hw8
   go_wp2
   go_ret
   exact ⟨false, rfl, ⟨(fun h => by cases h), fun h => absurd h.single HSI.out⟩, nl.h⟩
 ·have HV := Lib.hid hv
  clear hv
  go_enter Tryz.func19, Tryz.ntmps19
  go_wp2
  refine wp_region_later (by kernel_rfl) (by kernel_rfl) ?_
  repeat (go_big_quiet_step ((first | (go_at_call 40; exact later_call (Decides.no (l11Is_any p lo m.sys _ HS.out (LtsPtr.below HL.out (Later.h _))) HV.out)))))
  refine wpQuiet_nil ?_
  intro _ hw9
  obtain ⟨nl, hw8⟩ := hw9
  subst hw8
  go_wp2
  go_ret
  exact ⟨false, rfl, ⟨(fun h => by cases h), fun h => absurd h.valid HV.out⟩, nl.h⟩

end Go.Proofs.YtjghfgaincnegaaGreatDoor

namespace Go.Proofs.YtjghfgaincnegaaGreatDoor
open Go Go.RowKit

theorem own_someC {w : World} {base e size n : Nat} {v : Value} {xs : List Value} (h : w.ownsRow base e size v n xs) (hn : 0 < n) : ∃ g c, v = .slice (some ⟨g, 0, none⟩) n c ∧ base ≤ g ∧ g < w.heap.size := by
 rcases h.2 with ⟨h1, h0⟩ | ⟨g, cap, cur, h1, h2, hg, -⟩
 ·omega
 ·exact ⟨g, cap, h1, h2, (Array.getElem?_eq_some_iff.1 hg).1⟩
/-- Two moves lead to one block, or both to none. -/
def sameTo (P : List Int) (x y : Int) : Prop := (if x < 0 then (-1 : Int) else P.getD x.toNat 0) = (if y < 0 then -1 else P.getD y.toNat 0)
theorem sameTo_both {P : List Int} {x y : Int} (hx : x < 0) (hy : y < 0) : sameTo P x y := by unfold sameTo; rw [if_pos hx, if_pos hy]
theorem sameTo_left {P : List Int} {x y : Int} (hP : ∀ z ∈ P, 0 ≤ z) (hx : x < 0) (hy : ¬ y < 0) : ¬ sameTo P x y := by
 unfold sameTo
 rw [if_pos hx, if_neg hy]
 intro h
 have h1 : 0 ≤ P.getD y.toNat 0 := by
  rw [List.getD_eq_getElem?_getD]
  cases e : P[y.toNat]? with
  | none => exact Int.le_refl 0
  | some z => exact hP z (List.mem_of_getElem? e)
 omega
theorem sameTo_right {P : List Int} {x y : Int} (hP : ∀ z ∈ P, 0 ≤ z) (hx : ¬ x < 0) (hy : y < 0) : ¬ sameTo P x y := fun h => sameTo_left hP hy hx h.symm
theorem sameTo_some {P : List Int} {x y : Int} (hx : ¬ x < 0) (hy : ¬ y < 0) : sameTo P x y ↔ P.getD x.toNat 0 = P.getD y.toNat 0 := by unfold sameTo; rw [if_neg hx, if_neg hy]

end Go.Proofs.YtjghfgaincnegaaGreatDoor
