/-
  What the explorer's find computes at pairs: the place of a pair among the rows, a new row for a new pair.
  An arc in memory.
-/
import Derived.Test.YtmhpfmanagbggaaGreatDoorK11
import Derived.Deep.RegionHeld3
import Derived.Test.YtmhpfmanagbggaaGreatDoorK7
namespace Go.Proofs.YtmhpfmanagbggaaGreatDoor
open Go Go.RowKit

set_option maxRecDepth 100000 in
set_option maxHeartbeats 2000000 in
theorem findW_old (B xb mb pb ib rb : Nat) (on : Bool) (i B2 : Nat) (t : Lts) (st : WNet) (sv av rv : Value) (vs : List Value) (r : List Int) (y : Int) (w : World) (h : ExpW B xb mb pb ib rb on i t st sv av vs w) (hd : st.rows.Nodup) (hok : ∀ r ∈ st.rows, WRok r) (hr : WRok (r, y))
  (hv : w.ownsRow B2 2 1 rv r.length (r.map (Value.int .i64))) (hm : (r, y) ∈ st.rows) (g : Glob w) :
  Calls Tryz.prog 79 #[.pointer (some ⟨xb, 0, none⟩), .agg #[rv, .int .i64 y]] w fun e w' => e = .returned (.int .i64 (pwplace st.rows (r, y))) ∧ Below w.heap.size w w' := by
 have hpl := pwplace_lt.2 hm
 have hpk : pwplace st.rows (r, y) < (st.rows.map keyP).length := by rw [List.length_map]; exact hpl
 have HL := Lib.hid (fun (w' : World) (hm : NumMap .i64 w' mb (st.rows.map keyP)) => hm.found keyedS underMapS (fun v hv => by obtain ⟨q', hq', rfl⟩ := List.mem_map.1 hv; exact (hok q' hq').key) (keysP_nodup hd hok) hpk)
 have hk3 : (st.rows.map keyP)[pwplace st.rows (r, y)] = keyP (r, y) := by rw [List.getElem_map, pwplace_get hpl]
 rw [hk3] at HL
 obtain ⟨n, hn⟩ : ∃ n, n = pwplace st.rows (r, y) := ⟨_, rfl⟩
 rw [← hn] at HL
 have HN := Lib.hid hn
 obtain ⟨W, hW⟩ : ∃ W, W = w.alloc (.cells #[rv, .int .i64 y] 78) := ⟨_, rfl⟩
 obtain ⟨b, hb⟩ : ∃ b, b = w.heap.size := ⟨_, rfl⟩
 have hbW : Below w.heap.size w W := by rw [hW]; exact (Below.refl _ _).alloc (Nat.le_refl _) _
 have hX : Blk W b [rv, .int .i64 y] 78 := by rw [hW, hb]; exact Blk.new w _ _
 have HK : Hid (∀ l : Later W, Calls Tryz.prog 43 #[.agg #[rv, .int .i64 y]] l.w fun e w' => e = .returned (.string (keyW r y)) ∧ Below l.w.heap.size l.w w') := fun l =>
  key_any B2 rv r y l.w (SliceK.of_owns (enc := encI) encI_len rfl (by rw [flat_encI]; exact owns_below (owns_below hv hbW) l.h)) hr.row.low (by have := hr.row.len; show r.length ≤ 1000; have : r.length ≤ 40 := this; omega) hr.y0 hr.y1 ((g.below hbW).below l.h)
 have HE := Lib.hid (h.below hbW)
 have HB := Lib.hid hbW
 have HW := Lib.hid hW
 have HBE := Lib.hid hb
 obtain ⟨ar, cr, rfl, -, -⟩ := owns_slice hv
 have l0 := later_cell hX.lt (hX.cell 0 rfl)
 have l1 := later_cell hX.lt (hX.cell 1 rfl)
 have l3 := later_cell HE.out.box.lt (HE.out.box.cell 3 rfl)
 clear h hd hok hr hv hm g hpl hpk hk3 hn hW hb hbW hX
 go_enter Tryz.func79, Tryz.ntmps79
 go_wp2
 rw [← HW.out]
 try rw [← HBE.out]
 refine wp_region_later (by kernel_rfl) (by kernel_rfl) ?_
 repeat (go_big_quiet_step (((go_at_call 43; exact later_call (HK.out _)))))
 refine wpQuiet_nil ?_
 intro _ hw9
 obtain ⟨nl, hw8⟩ := hw9
 subst hw8
 have HE1 := Lib.hid (HE.out.below nl.h)
 have HB1 := Lib.hid (HB.out.trans (nl.h.mono HB.out.size))
 have x1 := HE1.out.box.cell 1 rfl
 have hlk := HL.out nl.w HE1.out.map
 unfold keyP at hlk
 clear l0 l1 l3 HK HE
 go_wp2
 go_ret
 exact ⟨by rw [← HN.out]; rfl, HB1.out⟩

set_option maxRecDepth 100000 in
set_option maxHeartbeats 4000000 in
theorem findW_new (B xb mb pb ib rb : Nat) (on : Bool) (i B2 : Nat) (t : Lts) (st : WNet) (sv av rv : Value) (vs : List Value) (r : List Int) (y : Int) (w : World) (hB : B ≤ w.heap.size) (h : ExpW B xb mb pb ib rb on i t st sv av vs w) (hok : ∀ r ∈ st.rows, WRok r) (hr : WRok (r, y))
  (hB2 : B ≤ B2) (hv : w.ownsRow B2 2 1 rv r.length (r.map (Value.int .i64))) (hm : (r, y) ∉ st.rows) (hfew : st.rows.length ≤ 1000) (g : Glob w) :
  Calls Tryz.prog 79 #[.pointer (some ⟨xb, 0, none⟩), .agg #[rv, .int .i64 y]] w fun e w' => e = .returned (.int .i64 st.rows.length) ∧ Below B w w' ∧ ∃ sv', ExpW B xb mb pb ib rb on i t ⟨st.rows ++ [(r, y)], st.edges⟩ sv' av (vs ++ [rv]) w' ∧ Frm xb mb sv av sv' av w w' := by
 have hks : ∀ v ∈ st.rows.map keyP, ∃ l, keyOf Tryz.prog 9 v = some l := fun v hv => by obtain ⟨q', hq', rfl⟩ := List.mem_map.1 hv; exact (hok q' hq').key
 obtain ⟨kl, hkl⟩ := hr.key
 have hkn : keyP (r, y) ∉ st.rows.map keyP := fun hmm => by obtain ⟨q', hq', e⟩ := List.mem_map.1 hmm; rw [(hok q' hq').inj hr e] at hq'; exact hm hq'
 have HL := Lib.hid (fun (w' : World) (hm : NumMap .i64 w' mb (st.rows.map keyP)) => hm.missing keyedS underMapS hks (zeroI64 w') hkl hkn)
 have HU := Lib.hid (fun (w' : World) (hm : NumMap .i64 w' mb (st.rows.map keyP)) => hm.store keyedS underMapS hks hkl hkn (by rw [List.length_map]; unfold maxLen; omega))
 rw [List.length_map] at HU
 obtain ⟨W, hW⟩ : ∃ W, W = w.alloc (.cells #[rv, .int .i64 y] 78) := ⟨_, rfl⟩
 obtain ⟨b, hb⟩ : ∃ b, b = w.heap.size := ⟨_, rfl⟩
 have hbW : Below w.heap.size w W := by rw [hW]; exact (Below.refl _ _).alloc (Nat.le_refl _) _
 have hX : Blk W b [rv, .int .i64 y] 78 := by rw [hW, hb]; exact Blk.new w _ _
 have HK : Hid (∀ l : Later W, Calls Tryz.prog 43 #[.agg #[rv, .int .i64 y]] l.w fun e w' => e = .returned (.string (keyW r y)) ∧ Below l.w.heap.size l.w w') := fun l =>
  key_any B2 rv r y l.w (SliceK.of_owns (enc := encI) encI_len rfl (by rw [flat_encI]; exact owns_below (owns_below hv hbW) l.h)) hr.row.low (by have := hr.row.len; show r.length ≤ 1000; have : r.length ≤ 40 := this; omega) hr.y0 hr.y1 ((g.below hbW).below l.h)
 have HE := Lib.hid (h.below hbW)
 have HV := Lib.hid (owns_below hv hbW)
 have HB := Lib.hid hbW
 have HW := Lib.hid hW
 have HBE := Lib.hid hb
 have HX := Lib.hid hX
 obtain ⟨a0, c0, rfl, -, -⟩ := owns_slice h.rows.2.1
 obtain ⟨ar, cr, rfl, -, -⟩ := owns_slice hv
 have hnbs : some b ≠ (Value.slice a0 st.rows.length c0).ownBlock := fun e => by
  have := (h.rows.2.1.lt b e.symm).2
  omega
 have l0 := later_cell hX.lt (hX.cell 0 rfl)
 have l1 := later_cell hX.lt (hX.cell 1 rfl)
 have l3 := later_cell HE.out.box.lt (HE.out.box.cell 3 rfl)
 obtain ⟨N, hN⟩ : ∃ N, N = st.rows.length := ⟨_, rfl⟩
 rw [← hN] at HU hfew HE hnbs
 rw [← hN]
 have HNN := Lib.hid hN
 obtain ⟨RL, hRL⟩ : ∃ RL, RL = r.length := ⟨_, rfl⟩
 rw [← hRL] at HV HK HX HW l0
 rw [← hRL]
 have HRL := Lib.hid hRL
 have HBB := Lib.hid hB
 obtain ⟨i0, hi, hz0, hz1, hz2⟩ := info_parts info_watched
 clear h hok hr hv hm g hN hks hkl hkn hRL hB hW hb hbW hX
 go_enter Tryz.func79, Tryz.ntmps79
 go_wp2
 rw [← HW.out]
 try rw [← HBE.out]
 refine wp_region_later (by kernel_rfl) (by kernel_rfl) ?_
 repeat (go_big_quiet_step (((go_at_call 43; exact later_call (HK.out _)))))
 refine wpQuiet_nil ?_
 intro _ hw9
 obtain ⟨nl, hw8⟩ := hw9
 subst hw8
 have hs0 : B ≤ W.heap.size := Nat.le_trans HBB.out HB.out.size
 have HB1 := Lib.hid (Below.mono (HB.out.trans (nl.h.mono HB.out.size)) HBB.out)
 have HE1 := Lib.hid (HE.out.below nl.h)
 have HV1 := Lib.hid (owns_below HV.out nl.h)
 have HX1 := Lib.hid (HX.out.below nl.h)
 have hs1 : B ≤ nl.w.heap.size := Nat.le_trans hs0 nl.h.size
 have HNL := Lib.hid nl.h
 obtain ⟨w1, hw1⟩ : ∃ w1, w1 = nl.w := ⟨_, rfl⟩
 rw [← hw1] at HB1 HE1 HV1 HX1 hs1 HNL ⊢
 have x1 := HE1.out.box.cell 1 rfl
 have x0 := HE1.out.box.cell 0 rfl
 have hlk := HL.out w1 HE1.out.map
 obtain ⟨w2, hup, hm2, hg2⟩ := HU.out w1 HE1.out.map
 unfold keyP at hlk hup
 have mblk : w1.heap[mb]? = some (.map (((st.rows.map keyP).mapIdx fun i k => (⟨k, .int .i64 i, i⟩ : MapEntry)).toArray) (st.rows.map keyP).length) := HE1.out.map
 have X2 : Hid (Blk w2 xb _ _) := (hg2.block xb HE1.out.box.lt (fun e => blk_map_ne' HE1.out.box mblk (Option.some.inj e))).trans HE1.out.box
 have Y2 : Hid (Blk w2 b _ _) := (hg2.block b HX1.out.lt (fun e => blk_map_ne' HX1.out mblk (Option.some.inj e))).trans HX1.out
 have R2 := Lib.hid (HE1.out.rows.2.1.kept hg2 (own_map_ne HE1.out.rows.2.1 mblk))
 rw [← HNN.out] at R2
 have HG2 := Lib.hid hg2
 have HM2 := Lib.hid hm2
 have HB2 := Lib.hid (HB1.out.grown hg2 hs1 (fun k e => by cases e; exact HE1.out.mbase))
 have y0 := X2.out.cell 0 rfl
 have yf := X2.out.frozen 0
 have b0 := Y2.out.cell 0 rfl
 have b1 := Y2.out.cell 1 rfl
 have hs2 : B ≤ w2.heap.size := Nat.le_trans hs1 hg2.size
 have hx2 := X2.out.lt
 have hb2 := Y2.out.lt
 have hnb : b ≠ xb := blk_blk_ne Y2.out X2.out (by decide)
 have hne : some xb ≠ (Value.slice a0 N c0).ownBlock := blk_own_ne' X2.out R2.out (by decide)
 have hD : Below w2.heap.size w2 w2.drew := (Below.refl _ _).drew
 have R3 := Lib.hid (owns_below R2.out hD)
 have Y0 := keeps hD hx2 y0
 have B0 := keeps hD hb2 b0
 have B1 := keeps hD hb2 b1
 have HD := Lib.hid hD
 have HBW1 := Lib.hid (HB.out.trans (HNL.out.mono HB.out.size))
 clear l0 l1 l3 HK HE HV HX hw1 hg2 hm2 mblk hD
 go_wp2
 refine wp_region_noPanic ?_
 refine wp_region_held_drew (S := fun w' => w'.cell? ⟨b, 0, none⟩ = some (.slice ar RL cr) ∧ w'.cell? ⟨b, 1, none⟩ = some (.int .i64 y)) (by kernel_rfl) ?hS (fun hHeld => ?goon)
 case hS =>
  try dsimp only
  first
     | (refine ⟨?_, ?_⟩ <;> assumption)
     | (refine ⟨?_, ?_⟩ <;> (rw [cell_setV (by first | exact fun e => hnb e | exact fun e => hnb e.symm)]; assumption))
     | go_keep
 case goon =>
  refine wpAnyH_take (i := 0) (oi := ?oi1) (v := ?v1) ?ho1 ?ka1 ?kb1 ?kc1 (fun _ _ _ h => h) (Or.inl ⟨?wn1, ?hy1⟩) (by assumption) ?rest1
  case ho1 => (simp only [List.getElem?_toArray, List.getElem?_cons_zero]; rfl)
  case ka1 => kernel_rfl
  case kb1 => kernel_rfl
  case kc1 => kernel_rfl
  case wn1 => rfl
  case hy1 => (intro w hSw; (try dsimp only at hSw); first | (go_simp; done) | (go_simp; with_reducible rfl))
  case rest1 =>
   try simp only [Act.put, List.setIfInBounds_toArray, List.set_cons_zero, List.set_cons_succ]
   refine wpAnyH_take (i := 1) (oi := ?oi2) (v := ?v2) ?ho2 ?ka2 ?kb2 ?kc2 (fun _ _ _ h => h) (Or.inl ⟨?wn2, ?hy2⟩) (by assumption) ?rest2
   case ho2 => (simp only [List.getElem?_toArray, List.getElem?_cons_succ, List.getElem?_cons_zero]; rfl)
   case ka2 => kernel_rfl
   case kb2 => kernel_rfl
   case kc2 => kernel_rfl
   case wn2 => rfl
   case hy2 => (intro w hSw; (try dsimp only at hSw); first | (go_simp; done) | (go_simp; with_reducible rfl))
   case rest2 =>
    try simp only [Act.put, List.setIfInBounds_toArray, List.set_cons_zero, List.set_cons_succ]
    refine wpAnyH_take (i := 2) (oi := ?oi3) (v := ?v3) ?ho3 ?ka3 ?kb3 ?kc3 (fun _ _ _ h => h) (Or.inl ⟨?wn3, ?hy3⟩) (by assumption) ?rest3
    case ho3 => (simp only [List.getElem?_toArray, List.getElem?_cons_succ, List.getElem?_cons_zero]; rfl)
    case ka3 => kernel_rfl
    case kb3 => kernel_rfl
    case kc3 => kernel_rfl
    case wn3 => rfl
    case hy3 => (intro w hSw; (try dsimp only at hSw); first | (go_simp; done) | (go_simp; with_reducible rfl))
    case rest3 =>
     try simp only [Act.put, List.setIfInBounds_toArray, List.set_cons_zero, List.set_cons_succ]
     refine wpAnyH_take (i := 3) (oi := ?oi4) (v := ?v4) ?ho4 ?ka4 ?kb4 ?kc4 (fun _ _ _ h => h) (Or.inl ⟨?wn4, ?hy4⟩) (by assumption) ?rest4
     case ho4 => (simp only [List.getElem?_toArray, List.getElem?_cons_succ, List.getElem?_cons_zero]; rfl)
     case ka4 => kernel_rfl
     case kb4 => kernel_rfl
     case kc4 => kernel_rfl
     case wn4 => rfl
     case hy4 => (intro w hSw; (try dsimp only at hSw); first | (go_simp; done) | (go_simp; with_reducible rfl))
     case rest4 =>
      try simp only [Act.put, List.setIfInBounds_toArray, List.set_cons_zero, List.set_cons_succ]
      refine wpAnyH_take (i := 5) (oi := ?oi5) (v := ?v5) ?ho5 ?ka5 ?kb5 ?kc5 (fun _ _ _ h => h) (Or.inl ⟨?wn5, ?hy5⟩) (by assumption) ?rest5
      case ho5 => (simp only [List.getElem?_toArray, List.getElem?_cons_succ, List.getElem?_cons_zero]; rfl)
      case ka5 => kernel_rfl
      case kb5 => kernel_rfl
      case kc5 => kernel_rfl
      case wn5 => rfl
      case hy5 => (intro w hSw; (try dsimp only at hSw); first | (go_simp; done) | (go_simp; with_reducible rfl))
      case rest5 =>
       try simp only [Act.put, List.setIfInBounds_toArray, List.set_cons_zero, List.set_cons_succ]
       refine wpAnyH_ready (rs := [4, 6]) (by kernel_rfl) (by simp) ?_
       refine AllReadyH.cons (o := ?o6) ?ho6 (fun K hK => ?st6) ?more6
       case ho6 => (simp only [List.getElem?_toArray, List.getElem?_cons_succ, List.getElem?_cons_zero]; rfl)
       case st6 =>
        go_simp
        refine hK.out _ _ ?hS6 (fun hHeld => ?goon6)
        case hS6 =>
         try dsimp only
         first
            | (refine ⟨?_, ?_⟩ <;> assumption)
            | (refine ⟨?_, ?_⟩ <;> (rw [cell_setV (by first | exact fun e => hnb e | exact fun e => hnb e.symm)]; assumption))
            | go_keep
        case goon6 =>
         clear hK K
         try simp only [Act.put, List.setIfInBounds_toArray, List.set_cons_zero, List.set_cons_succ]
         refine wpAnyH_ready (rs := [6]) (by kernel_rfl) (by simp) ?_
         refine AllReadyH.cons (o := ?o7) ?ho7 (fun K hK => ?st7) ?more7
         case ho7 => (simp only [List.getElem?_toArray, List.getElem?_cons_succ, List.getElem?_cons_zero]; rfl)
         case st7 =>
          go_simp
          refine hK.out _ _ ?hS7 (fun hHeld => ?goon7)
          case hS7 =>
           try dsimp only
           first
              | (refine ⟨?_, ?_⟩ <;> assumption)
              | (refine ⟨?_, ?_⟩ <;> (rw [cell_setV (by first | exact fun e => hnb e | exact fun e => hnb e.symm)]; assumption))
              | go_keep
          case goon7 =>
           clear hK K
           try simp only [Act.put, List.setIfInBounds_toArray, List.set_cons_zero, List.set_cons_succ]
           refine wpAnyH_ready (rs := [7]) (by kernel_rfl) (by simp) ?_
           refine AllReadyH.cons (o := ?o8) ?ho8 (fun K hK => ?st8) ?more8
           case ho8 => (simp only [List.getElem?_toArray, List.getElem?_cons_succ, List.getElem?_cons_zero]; rfl)
           case st8 =>
            first
               | (refine step_append_lies _ (by rfl) _ _ _ (by rfl) B 78 i0 _ 2 32 Tryz.underlying82 hi hz0 hz1 hz2 rfl (by omega) (.slice a0 N c0) N _ (by rfl) (R3.out.alloc _) ⟨w2.heap.size, 0, none⟩ 1 1 [.slice ar RL cr, .int .i64 y] (by rfl) (by rfl) (World.news_of_block (cs := #[.slice ar RL cr, .int .i64 y]) (t := 78) (fr := (0, 0)) (heap_alloc_new _ _)) (by simp [Value.oneCell']) (by omega) (by simp [maxLen]; omega) (by omega) (by simp; omega) (w2.heap.size + 1) (by simp) ?_; intro gg cap w5 hown5 hgrow5 hat5 hlt5; have hA5 : Below w2.heap.size w2 (w2.drew.alloc (.cells #[.slice ar RL cr, .int .i64 y] 78)) := HD.out.alloc (Nat.le_refl _) _; have z1 : w5.frozen? ⟨xb, 0, none⟩ = false := (hgrow5.frozen_far ⟨xb, 0, none⟩ (by simp; omega) hne).trans ((hA5.frozen (p := ⟨xb, 0, none⟩) hx2).trans yf); have z2 := (hgrow5.cell_far ⟨xb, 0, none⟩ (by simp; omega) hne).trans (keeps hA5 hx2 y0); have z3 := (hgrow5.cell_far ⟨b, 0, none⟩ (by simp; omega) hnbs).trans (keeps hA5 hb2 b0); have z4 := (hgrow5.cell_far ⟨b, 1, none⟩ (by simp; omega) hnbs).trans (keeps hA5 hb2 b1))
               | fail
            refine hK.out _ _ ?hS8 (fun hHeld => ?goon8)
            case hS8 =>
             try dsimp only
             first
                | (refine ⟨?_, ?_⟩ <;> assumption)
                | (refine ⟨?_, ?_⟩ <;> (rw [cell_setV (by first | exact fun e => hnb e | exact fun e => hnb e.symm)]; assumption))
                | go_keep
            case goon8 =>
             clear hK K
             try simp only [Act.put, List.setIfInBounds_toArray, List.set_cons_zero, List.set_cons_succ]
             refine wpAnyH_take (i := 8) (oi := ?oi9) (v := ?v9) ?ho9 ?ka9 ?kb9 ?kc9 (fun _ _ _ h => h) (Or.inl ⟨?wn9, ?hy9⟩) (by assumption) ?rest9
             case ho9 => (simp only [List.getElem?_toArray, List.getElem?_cons_succ, List.getElem?_cons_zero]; rfl)
             case ka9 => kernel_rfl
             case kb9 => kernel_rfl
             case kc9 => kernel_rfl
             case wn9 => rfl
             case hy9 => (intro w hSw; (try dsimp only at hSw); first | (go_simp; done) | (go_simp; with_reducible rfl))
             case rest9 =>
              try simp only [Act.put, List.setIfInBounds_toArray, List.set_cons_zero, List.set_cons_succ]
              refine wpAnyH_take (i := 9) (oi := ?oi10) (v := ?v10) ?ho10 ?ka10 ?kb10 ?kc10 (fun _ _ _ h => h) (Or.inl ⟨?wn10, ?hy10⟩) (by assumption) ?rest10
              case ho10 => (simp only [List.getElem?_toArray, List.getElem?_cons_succ, List.getElem?_cons_zero]; rfl)
              case ka10 => kernel_rfl
              case kb10 => kernel_rfl
              case kc10 => kernel_rfl
              case wn10 => rfl
              case hy10 => (intro w hSw; (try dsimp only at hSw); first | (go_simp; done) | (go_simp; with_reducible rfl))
              case rest10 =>
               try simp only [Act.put, List.setIfInBounds_toArray, List.set_cons_zero, List.set_cons_succ]
               refine wpAnyH_ready (rs := [10]) (by kernel_rfl) (by simp) ?_
               refine AllReadyH.cons (o := ?o11) ?ho11 (fun K hK => ?st11) ?more11
               case ho11 => (simp only [List.getElem?_toArray, List.getElem?_cons_succ, List.getElem?_cons_zero]; rfl)
               case st11 =>
                go_simp
                refine hK.out _ _ ?hS11 (fun hHeld => ?goon11)
                case hS11 =>
                 try dsimp only
                 first
                    | (refine ⟨?_, ?_⟩ <;> assumption)
                    | (refine ⟨?_, ?_⟩ <;> (rw [cell_setV (by first | exact fun e => hnb e | exact fun e => hnb e.symm)]; assumption))
                    | go_keep
                case goon11 =>
                 clear hK K
                 try simp only [Act.put, List.setIfInBounds_toArray, List.set_cons_zero, List.set_cons_succ]
                 refine wpAnyH_done (by kernel_rfl) ?_ _
                 refine NoPanic.normal ?_
                 obtain ⟨sv', hsv'⟩ : ∃ sv', sv' = Value.slice (some ⟨gg, 0, none⟩) (N + 1) cap := ⟨_, rfl⟩
                 have hF := ExpW.grow (B2 := B2) (r := (r, y)) (sv' := Value.slice (some ⟨gg, 0, none⟩) (N + 1) cap) HE1.out HG2.out HM2.out hA5 hgrow5 (by rw [← HNN.out]; exact hown5) hB2 (by rw [← HRL.out]; exact HV1.out)
                 have hFR : Frm xb mb (.slice a0 N c0) av (.slice (some ⟨gg, 0, none⟩) (N + 1) cap) av w _ := Frm.of_grow (xb := xb) (av := av) (sv' := Value.slice (some ⟨gg, 0, none⟩) (N + 1) cap) HBW1.out HG2.out hA5 hgrow5 (fun b' e => by
                  rcases hat5 with h | h
                  ·exact .inl (h.trans e)
                  ·have e2 : gg = b' := Option.some.inj e
                   have h1 := HBW1.out.size
                   have h2 := HG2.out.size
                   exact .inr (by omega))
                 have hB4 : Below B w w5 := (HB2.out.trans (hA5.mono hs2)).grown hgrow5 (by simp; omega) (fun b e => (R2.out.lt b e).1)
                 rw [← hsv'] at hF hFR ⊢
                 have HF := Lib.hid hF
                 have HFR := Lib.hid hFR
                 have HB4 := Lib.hid hB4
                 clear hown5 hgrow5 hat5 hlt5 hsv' z1 z2 z3 z4 hF hFR hB4 hA5 Y0 B0 B1 y0 b0 b1 x0 x1 hlk hup
                 go_wp2
                 go_ret
                 exact ⟨rfl, HB4.out.setCell HE1.out.base _, _, HF.out, HFR.out⟩
               exact AllReadyH.nil
           exact AllReadyH.nil
         exact AllReadyH.nil
       refine AllReadyH.cons (o := ?o12) ?ho12 (fun K hK => ?st12) ?more12
       case ho12 => (simp only [List.getElem?_toArray, List.getElem?_cons_succ, List.getElem?_cons_zero]; rfl)
       case st12 =>
        go_simp
        refine hK.out _ _ ?hS12 (fun hHeld => ?goon12)
        case hS12 =>
         try dsimp only
         first
            | (refine ⟨?_, ?_⟩ <;> assumption)
            | (refine ⟨?_, ?_⟩ <;> (rw [cell_setV (by first | exact fun e => hnb e | exact fun e => hnb e.symm)]; assumption))
            | go_keep
        case goon12 =>
         clear hK K
         try simp only [Act.put, List.setIfInBounds_toArray, List.set_cons_zero, List.set_cons_succ]
         refine wpAnyH_ready (rs := [4]) (by kernel_rfl) (by simp) ?_
         refine AllReadyH.cons (o := ?o13) ?ho13 (fun K hK => ?st13) ?more13
         case ho13 => (simp only [List.getElem?_toArray, List.getElem?_cons_succ, List.getElem?_cons_zero]; rfl)
         case st13 =>
          go_simp
          refine hK.out _ _ ?hS13 (fun hHeld => ?goon13)
          case hS13 =>
           try dsimp only
           first
              | (refine ⟨?_, ?_⟩ <;> assumption)
              | (refine ⟨?_, ?_⟩ <;> (rw [cell_setV (by first | exact fun e => hnb e | exact fun e => hnb e.symm)]; assumption))
              | go_keep
          case goon13 =>
           clear hK K
           try simp only [Act.put, List.setIfInBounds_toArray, List.set_cons_zero, List.set_cons_succ]
           refine wpAnyH_ready (rs := [7]) (by kernel_rfl) (by simp) ?_
           refine AllReadyH.cons (o := ?o14) ?ho14 (fun K hK => ?st14) ?more14
           case ho14 => (simp only [List.getElem?_toArray, List.getElem?_cons_succ, List.getElem?_cons_zero]; rfl)
           case st14 =>
            first
               | (refine step_append_lies _ (by rfl) _ _ _ (by rfl) B 78 i0 _ 2 32 Tryz.underlying82 hi hz0 hz1 hz2 rfl (by omega) (.slice a0 N c0) N _ (by rfl) (R3.out.alloc _) ⟨w2.heap.size, 0, none⟩ 1 1 [.slice ar RL cr, .int .i64 y] (by rfl) (by rfl) (World.news_of_block (cs := #[.slice ar RL cr, .int .i64 y]) (t := 78) (fr := (0, 0)) (heap_alloc_new _ _)) (by simp [Value.oneCell']) (by omega) (by simp [maxLen]; omega) (by omega) (by simp; omega) (w2.heap.size + 1) (by simp) ?_; intro gg cap w5 hown5 hgrow5 hat5 hlt5; have hA5 : Below w2.heap.size w2 (w2.drew.alloc (.cells #[.slice ar RL cr, .int .i64 y] 78)) := HD.out.alloc (Nat.le_refl _) _; have z1 : w5.frozen? ⟨xb, 0, none⟩ = false := (hgrow5.frozen_far ⟨xb, 0, none⟩ (by simp; omega) hne).trans ((hA5.frozen (p := ⟨xb, 0, none⟩) hx2).trans yf); have z2 := (hgrow5.cell_far ⟨xb, 0, none⟩ (by simp; omega) hne).trans (keeps hA5 hx2 y0); have z3 := (hgrow5.cell_far ⟨b, 0, none⟩ (by simp; omega) hnbs).trans (keeps hA5 hb2 b0); have z4 := (hgrow5.cell_far ⟨b, 1, none⟩ (by simp; omega) hnbs).trans (keeps hA5 hb2 b1))
               | fail
            refine hK.out _ _ ?hS14 (fun hHeld => ?goon14)
            case hS14 =>
             try dsimp only
             first
                | (refine ⟨?_, ?_⟩ <;> assumption)
                | (refine ⟨?_, ?_⟩ <;> (rw [cell_setV (by first | exact fun e => hnb e | exact fun e => hnb e.symm)]; assumption))
                | go_keep
            case goon14 =>
             clear hK K
             try simp only [Act.put, List.setIfInBounds_toArray, List.set_cons_zero, List.set_cons_succ]
             refine wpAnyH_take (i := 8) (oi := ?oi15) (v := ?v15) ?ho15 ?ka15 ?kb15 ?kc15 (fun _ _ _ h => h) (Or.inl ⟨?wn15, ?hy15⟩) (by assumption) ?rest15
             case ho15 => (simp only [List.getElem?_toArray, List.getElem?_cons_succ, List.getElem?_cons_zero]; rfl)
             case ka15 => kernel_rfl
             case kb15 => kernel_rfl
             case kc15 => kernel_rfl
             case wn15 => rfl
             case hy15 => (intro w hSw; (try dsimp only at hSw); first | (go_simp; done) | (go_simp; with_reducible rfl))
             case rest15 =>
              try simp only [Act.put, List.setIfInBounds_toArray, List.set_cons_zero, List.set_cons_succ]
              refine wpAnyH_take (i := 9) (oi := ?oi16) (v := ?v16) ?ho16 ?ka16 ?kb16 ?kc16 (fun _ _ _ h => h) (Or.inl ⟨?wn16, ?hy16⟩) (by assumption) ?rest16
              case ho16 => (simp only [List.getElem?_toArray, List.getElem?_cons_succ, List.getElem?_cons_zero]; rfl)
              case ka16 => kernel_rfl
              case kb16 => kernel_rfl
              case kc16 => kernel_rfl
              case wn16 => rfl
              case hy16 => (intro w hSw; (try dsimp only at hSw); first | (go_simp; done) | (go_simp; with_reducible rfl))
              case rest16 =>
               try simp only [Act.put, List.setIfInBounds_toArray, List.set_cons_zero, List.set_cons_succ]
               refine wpAnyH_ready (rs := [10]) (by kernel_rfl) (by simp) ?_
               refine AllReadyH.cons (o := ?o17) ?ho17 (fun K hK => ?st17) ?more17
               case ho17 => (simp only [List.getElem?_toArray, List.getElem?_cons_succ, List.getElem?_cons_zero]; rfl)
               case st17 =>
                go_simp
                refine hK.out _ _ ?hS17 (fun hHeld => ?goon17)
                case hS17 =>
                 try dsimp only
                 first
                    | (refine ⟨?_, ?_⟩ <;> assumption)
                    | (refine ⟨?_, ?_⟩ <;> (rw [cell_setV (by first | exact fun e => hnb e | exact fun e => hnb e.symm)]; assumption))
                    | go_keep
                case goon17 =>
                 clear hK K
                 try simp only [Act.put, List.setIfInBounds_toArray, List.set_cons_zero, List.set_cons_succ]
                 refine wpAnyH_done (by kernel_rfl) ?_ _
                 refine NoPanic.normal ?_
                 obtain ⟨sv', hsv'⟩ : ∃ sv', sv' = Value.slice (some ⟨gg, 0, none⟩) (N + 1) cap := ⟨_, rfl⟩
                 have hF := ExpW.grow (B2 := B2) (r := (r, y)) (sv' := Value.slice (some ⟨gg, 0, none⟩) (N + 1) cap) HE1.out HG2.out HM2.out hA5 hgrow5 (by rw [← HNN.out]; exact hown5) hB2 (by rw [← HRL.out]; exact HV1.out)
                 have hFR : Frm xb mb (.slice a0 N c0) av (.slice (some ⟨gg, 0, none⟩) (N + 1) cap) av w _ := Frm.of_grow (xb := xb) (av := av) (sv' := Value.slice (some ⟨gg, 0, none⟩) (N + 1) cap) HBW1.out HG2.out hA5 hgrow5 (fun b' e => by
                  rcases hat5 with h | h
                  ·exact .inl (h.trans e)
                  ·have e2 : gg = b' := Option.some.inj e
                   have h1 := HBW1.out.size
                   have h2 := HG2.out.size
                   exact .inr (by omega))
                 have hB4 : Below B w w5 := (HB2.out.trans (hA5.mono hs2)).grown hgrow5 (by simp; omega) (fun b e => (R2.out.lt b e).1)
                 rw [← hsv'] at hF hFR ⊢
                 have HF := Lib.hid hF
                 have HFR := Lib.hid hFR
                 have HB4 := Lib.hid hB4
                 clear hown5 hgrow5 hat5 hlt5 hsv' z1 z2 z3 z4 hF hFR hB4 hA5 Y0 B0 B1 y0 b0 b1 x0 x1 hlk hup
                 go_wp2
                 go_ret
                 exact ⟨rfl, HB4.out.setCell HE1.out.base _, _, HF.out, HFR.out⟩
               exact AllReadyH.nil
           exact AllReadyH.nil
         exact AllReadyH.nil
       exact AllReadyH.nil

theorem findW_any (B xb mb pb ib rb : Nat) (on : Bool) (i B2 : Nat) (t : Lts) (st : WNet) (sv av rv : Value) (vs : List Value) (r : List Int) (y : Int) (w : World) (hB : B ≤ w.heap.size) (h : ExpW B xb mb pb ib rb on i t st sv av vs w) (hd : st.rows.Nodup) (hok : ∀ r ∈ st.rows, WRok r) (hr : WRok (r, y))
  (hB2 : B ≤ B2) (hv : w.ownsRow B2 2 1 rv r.length (r.map (Value.int .i64))) (hfew : st.rows.length ≤ 1000) (g : Glob w) :
  Calls Tryz.prog 79 #[.pointer (some ⟨xb, 0, none⟩), .agg #[rv, .int .i64 y]] w fun e w' => e = .returned (.int .i64 (pwplace st.rows (r, y))) ∧ Below B w w' ∧ ∃ sv' vs', ExpW B xb mb pb ib rb on i t ⟨pwadd st.rows (r, y), st.edges⟩ sv' av vs' w' ∧ Frm xb mb sv av sv' av w w' ∧ ∃ tail, vs' = vs ++ tail := by
 by_cases hm : (r, y) ∈ st.rows
 ·refine (findW_old B xb mb pb ib rb on i B2 t st sv av rv vs r y w h hd hok hr hv hm g).mono ?_
  rintro e w' ⟨rfl, hb⟩
  refine ⟨rfl, hb.mono hB, sv, vs, ?_, Frm.of_below hb, [], by simp⟩
  rw [pwadd_old hm]
  exact h.below hb
 ·refine (findW_new B xb mb pb ib rb on i B2 t st sv av rv vs r y w hB h hok hr hB2 hv hm hfew g).mono ?_
  rintro e w' ⟨rfl, hb, sv', hE, hF⟩
  have hn := pwadd_new hm
  refine ⟨by rw [hn.2], hb, sv', vs ++ [rv], ?_, hF, [rv], rfl⟩
  rw [hn.1]
  exact hE

end Go.Proofs.YtmhpfmanagbggaaGreatDoor

namespace Go.Proofs.YtmhpfmanagbggaaGreatDoor
open Go Go.RowKit

theorem info_arc : (Tryz.prog.info? 119).map (fun i => (i.zero, i.size, i.bytes)) = some (some (.agg #[.int .i64 0, .string ⟨#[]⟩, .int .i64 0]), 3, 32) := by kernel_rfl

end Go.Proofs.YtmhpfmanagbggaaGreatDoor
