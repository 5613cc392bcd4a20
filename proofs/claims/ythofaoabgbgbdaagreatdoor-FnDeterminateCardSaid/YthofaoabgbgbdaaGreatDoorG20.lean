/-
  What the explorer's closure computes: one arc more, and its set's row.
  A row of the net stays where it is.
-/
import Derived.Test.YthofaoabgbgbdaaGreatDoorG15
import Derived.Test.YthofaoabgbgbdaaGreatDoorG19
import Derived.Deep.RegionHeld3
import Derived.Test.YthofaoabgbgbdaaGreatDoorG6
namespace Go.Proofs.YthofaoabgbgbdaaGreatDoor
open Go Go.RowKit

theorem findS_any (B xb mb pb ib rb : Nat) (on : Bool) (i B2 : Nat) (t : Lts) (st : DNet) (sv av rv : Value) (vs : List Value) (r : List Int) (w : World) (hB : B ≤ w.heap.size) (h : ExpAt B xb mb pb ib rb on i t st sv av vs w) (hd : st.rows.Nodup) (hok : ∀ r ∈ st.rows, RowOk r) (hr : RowOk r)
  (hlow : ∀ (i : Nat) (h : i < vs.length) b, vs[i].ownBlock = some b → b < B2) (hB2 : B ≤ B2) (hv : w.ownsRow B2 2 1 rv r.length (r.map (Value.int .i64))) (hfew : st.rows.length ≤ 1000) (g : Glob w) :
  Calls Tryz.prog 86 #[.pointer (some ⟨xb, 0, none⟩), rv] w fun e w' => e = .returned (.int .i64 (dplace st.rows r)) ∧ Below B w w' ∧ ∃ sv' vs', ExpAt B xb mb pb ib rb on i t ⟨dadd st.rows r, st.edges⟩ sv' av vs' w' ∧ ∃ tail, vs' = vs ++ tail := by
 by_cases hm : r ∈ st.rows
 ·refine (findS_old B xb mb pb ib rb on i B2 t st sv av rv vs r w h hd hok hr hv hm g).mono ?_
  rintro e w' ⟨rfl, hb⟩
  refine ⟨rfl, hb.mono hB, sv, vs, ?_, [], by simp⟩
  unfold dadd
  rw [if_pos (dplace_lt.2 hm)]
  exact h.below hb
 ·refine (findS_new B xb mb pb ib rb on i B2 t st sv av rv vs r w hB h hd hok hr hlow hB2 hv hm hfew g).mono ?_
  rintro e w' ⟨rfl, hb, sv', hE⟩
  have hn : ¬ dplace st.rows r < st.rows.length := fun h => hm (dplace_lt.1 h)
  have hp : dplace st.rows r = st.rows.length := by have := dplace_le st.rows r; omega
  refine ⟨by rw [hp], hb, sv', vs ++ [rv], ?_, [rv], rfl⟩
  unfold dadd
  rw [if_neg hn]
  exact hE

/-- After the list of arcs has grown. -/
theorem ExpAt.arc {on : Bool} {B xb mb pb ib rb i : Nat} {t : Lts} {st : DNet} {e : Edge} {sv av av' : Value} {vs : List Value} {w1 w2 w3 : World} (h : ExpAt B xb mb pb ib rb on i t st sv av vs w1) (hb : Below w1.heap.size w1 w2) (hg : w2.grownBy w3 av.ownBlock)
  (ho : w3.ownsRow B 125 3 av' (st.edges.length + 1) (st.edges.flatMap (encA t) ++ encA t e)) : ExpAt B xb mb pb ib rb on i t ⟨st.rows, st.edges ++ [e]⟩ sv av' vs (w3.setCell ⟨xb, 2, none⟩ av') := by
 have H2 := h.below hb
 have X3 : Blk w3 xb _ _ := (hg.block xb H2.box.lt (blk_own_ne' H2.box H2.arcs (by decide))).trans H2.box
 have P3 : Blk w3 pb _ _ := (hg.block pb H2.ptr.lt (blk_own_ne' H2.ptr H2.arcs (by decide))).trans H2.ptr
 have I3 := fun (ho : on = true) => (show Blk w3 ib [.int .i64 i] 3 from (hg.block ib (H2.idx ho).lt (blk_own_ne' (H2.idx ho) H2.arcs (by decide))).trans (H2.idx ho))
 have S3 : Blk w3 rb _ _ := (hg.block rb H2.res.lt (blk_own_ne' H2.res H2.arcs (by decide))).trans H2.res
 have M3 := H2.map.kept hg (fun e => by
  rcases own_map_ne H2.arcs H2.map with h | h
  ·rw [h] at e; cases e
  ·exact h e.symm)
 have R3 := H2.rows.kept hg (own_types H2.rows.2.1 H2.arcs (by decide)) (fun j hj => own_types (H2.rows.2.2.1 j hj (by rw [← H2.rows.1]; exact hj)) H2.arcs (by decide))
 have hs := grown_setCell w3 ⟨xb, 2, none⟩ av'
 refine ⟨h.base, h.mbase, h.pbase, h.ibase, h.rbase, X3.set 2 av', P3.setOther _ _ (blk_blk_ne P3 X3 (by decide)), (fun ho => (I3 ho).setOther _ _ (blk_blk_ne (I3 ho) X3 (by decide))), S3.setOther _ _ (blk_blk_ne S3 X3 (by decide)), ?_, ?_, ?_⟩
 ·exact R3.kept hs (own_type_ne R3.2.1 X3 (by decide)) (fun j hj => own_type_ne (R3.2.2.1 j hj (by rw [← R3.1]; exact hj)) X3 (by decide))
 ·exact M3.kept hs (fun e => blk_map_ne' X3 M3 (Option.some.inj e).symm)
 ·have := ho.kept hs (own_type_ne ho X3 (by decide))
  simpa using this

set_option maxRecDepth 100000 in
set_option maxHeartbeats 4000000 in
theorem to_any (B xb mb pb ib rb i k B2 : Nat) (t : Lts) (st : DNet) (sv av rv : Value) (vs : List Value) (r : List Int) (w : World) (hB : B ≤ w.heap.size) (h : ExpAt B xb mb pb ib rb true i t st sv av vs w) (hd : st.rows.Nodup) (hok : ∀ r ∈ st.rows, RowOk r) (hr : RowOk r)
  (hlow : ∀ (i : Nat) (h : i < vs.length) b, vs[i].ownBlock = some b → b < B2) (hB2 : B ≤ B2) (hv : w.ownsRow B2 2 1 rv r.length (r.map (Value.int .i64))) (hfew : st.rows.length ≤ 1000) (hfe : st.edges.length ≤ 1000) (g : Glob w) (l : ByteArray) (hl : t.labels.getD k ByteArray.empty = l) :
  Calls Tryz.prog 87 #[.string l, rv, .pointer (some ⟨pb, 0, none⟩), .pointer (some ⟨ib, 0, none⟩)] w fun e w' => e = .returned (.tuple #[]) ∧ Below B w w'
   ∧ ∃ sv' av' vs', ExpAt B xb mb pb ib rb true i t ⟨dadd st.rows r, st.edges ++ [⟨(i : Int), (k : Int), (dplace st.rows r : Int)⟩]⟩ sv' av' vs' w' ∧ ∃ tail, vs' = vs ++ tail := by
 have hD : Below w.heap.size w w.drew := (Below.refl _ _).drew
 have HF := Lib.hid (findS_any B xb mb pb ib rb true i B2 t st sv av rv vs r w.drew hB (h.below hD) hd hok hr hlow hB2 (owns_below hv hD) hfew (g.below hD))
 have HE := Lib.hid h
 have p0 := h.ptr.cell 0 rfl
 have q0 := (h.idx rfl).cell 0 rfl
 have x2 := h.box.cell 2 rfl
 have hpl := h.ptr.lt
 have hil := (h.idx rfl).lt
 have hxl := h.box.lt
 have hbx := h.base
 have P0 := keeps hD hpl p0
 have Q0 := keeps hD hil q0
 have X2 := keeps hD hxl x2
 have HBD := Lib.hid (Below.mono hD hB)
 have nepx : xb ≠ pb := blk_blk_ne h.box h.ptr (by decide)
 have neix : xb ≠ ib := blk_blk_ne h.box (h.idx rfl) (by decide)
 obtain ⟨aa, ca, rfl, -, -⟩ := owns_slice h.arcs
 have hle : st.edges.length = st.edges.length := rfl
 obtain ⟨E, hE⟩ : ∃ E, E = st.edges.length := ⟨_, rfl⟩
 rw [← hE] at HE hfe x2 X2
 have HEE := Lib.hid hE
 have HBB := Lib.hid hB
 have HL := Lib.hid hl
 obtain ⟨d, hd2⟩ : ∃ d, d = dplace st.rows r := ⟨_, rfl⟩
 rw [← hd2] at HF ⊢
 rw [← hE] at HF
 obtain ⟨i0, hi, hz0, hz1, hz2⟩ := info_parts info_arc
 clear h hd hok hr hlow hv g hl hD hle hE hd2 hB
 go_enter Tryz.func87, Tryz.ntmps87
 refine wp_region_noPanic ?_
 refine wp_region_held_drew (S := fun w' => w'.cell? ⟨pb, 0, none⟩ = some (.pointer (some ⟨xb, 0, none⟩)) ∧ w'.cell? ⟨ib, 0, none⟩ = some (.int .i64 i)) (by kernel_rfl) ?hS (fun hHeld => ?goon)
 case hS =>
  try dsimp only
  first
     | (refine ⟨?_, ?_⟩ <;> assumption)
     | (refine ⟨?_, ?_⟩ <;> (rw [cell_set_other (by first | exact fun e => nepx e.symm | exact fun e => neix e.symm)]; assumption))
     | go_keep
 case goon =>
  refine wpAnyH_take (i := 0) (oi := ?oi1) (v := ?v1) ?ho1 ?ka1 ?kb1 ?kc1 (fun _ _ _ h => h) (Or.inl ⟨?wn1, ?hy1⟩) (by assumption) ?rest1
  case ho1 => (simp only [List.getElem?_toArray, List.getElem?_cons_zero]; rfl)
  case ka1 => kernel_rfl
  case kb1 => kernel_rfl
  case kc1 => kernel_rfl
  case wn1 => rfl
  case hy1 => (intro w hSw; (try dsimp only at hSw); first | (go_simp; done) | (go_simp; with_reducible rfl))
  case rest1 =>
   try simp only [Act.put, List.setIfInBounds_toArray, List.set_cons_zero, List.set_cons_succ]
   refine wpAnyH_take (i := 1) (oi := ?oi2) (v := ?v2) ?ho2 ?ka2 ?kb2 ?kc2 (fun _ _ _ h => h) (Or.inl ⟨?wn2, ?hy2⟩) (by assumption) ?rest2
   case ho2 => (simp only [List.getElem?_toArray, List.getElem?_cons_succ, List.getElem?_cons_zero]; rfl)
   case ka2 => kernel_rfl
   case kb2 => kernel_rfl
   case kc2 => kernel_rfl
   case wn2 => rfl
   case hy2 => (intro w hSw; (try dsimp only at hSw); first | (go_simp; done) | (go_simp; with_reducible rfl))
   case rest2 =>
    try simp only [Act.put, List.setIfInBounds_toArray, List.set_cons_zero, List.set_cons_succ]
    refine wpAnyH_take (i := 2) (oi := ?oi3) (v := ?v3) ?ho3 ?ka3 ?kb3 ?kc3 (fun _ _ _ h => h) (Or.inl ⟨?wn3, ?hy3⟩) (by assumption) ?rest3
    case ho3 => (simp only [List.getElem?_toArray, List.getElem?_cons_succ, List.getElem?_cons_zero]; rfl)
    case ka3 => kernel_rfl
    case kb3 => kernel_rfl
    case kc3 => kernel_rfl
    case wn3 => rfl
    case hy3 => (intro w hSw; (try dsimp only at hSw); first | (go_simp; done) | (go_simp; with_reducible rfl))
    case rest3 =>
     try simp only [Act.put, List.setIfInBounds_toArray, List.set_cons_zero, List.set_cons_succ]
     refine wpAnyH_take (i := 3) (oi := ?oi4) (v := ?v4) ?ho4 ?ka4 ?kb4 ?kc4 (fun _ _ _ h => h) (Or.inl ⟨?wn4, ?hy4⟩) (by assumption) ?rest4
     case ho4 => (simp only [List.getElem?_toArray, List.getElem?_cons_succ, List.getElem?_cons_zero]; rfl)
     case ka4 => kernel_rfl
     case kb4 => kernel_rfl
     case kc4 => kernel_rfl
     case wn4 => rfl
     case hy4 => (intro w hSw; (try dsimp only at hSw); first | (go_simp; done) | (go_simp; with_reducible rfl))
     case rest4 =>
      try simp only [Act.put, List.setIfInBounds_toArray, List.set_cons_zero, List.set_cons_succ]
      refine wpAnyH_take (i := 5) (oi := ?oi5) (v := ?v5) ?ho5 ?ka5 ?kb5 ?kc5 (fun _ _ _ h => h) (Or.inl ⟨?wn5, ?hy5⟩) (by assumption) ?rest5
      case ho5 => (simp only [List.getElem?_toArray, List.getElem?_cons_succ, List.getElem?_cons_zero]; rfl)
      case ka5 => kernel_rfl
      case kb5 => kernel_rfl
      case kc5 => kernel_rfl
      case wn5 => rfl
      case hy5 => (intro w hSw; (try dsimp only at hSw); first | (go_simp; done) | (go_simp; with_reducible rfl))
      case rest5 =>
       try simp only [Act.put, List.setIfInBounds_toArray, List.set_cons_zero, List.set_cons_succ]
       refine wpAnyH_take (i := 6) (oi := ?oi6) (v := ?v6) ?ho6 ?ka6 ?kb6 ?kc6 (fun _ _ _ h => h) (Or.inl ⟨?wn6, ?hy6⟩) (by assumption) ?rest6
       case ho6 => (simp only [List.getElem?_toArray, List.getElem?_cons_succ, List.getElem?_cons_zero]; rfl)
       case ka6 => kernel_rfl
       case kb6 => kernel_rfl
       case kc6 => kernel_rfl
       case wn6 => rfl
       case hy6 => (intro w hSw; (try dsimp only at hSw); first | (go_simp; done) | (go_simp; with_reducible rfl))
       case rest6 =>
        try simp only [Act.put, List.setIfInBounds_toArray, List.set_cons_zero, List.set_cons_succ]
        refine wpAnyH_take (i := 7) (oi := ?oi7) (v := ?v7) ?ho7 ?ka7 ?kb7 ?kc7 (fun _ _ _ h => h) (Or.inl ⟨?wn7, ?hy7⟩) (by assumption) ?rest7
        case ho7 => (simp only [List.getElem?_toArray, List.getElem?_cons_succ, List.getElem?_cons_zero]; rfl)
        case ka7 => kernel_rfl
        case kb7 => kernel_rfl
        case kc7 => kernel_rfl
        case wn7 => rfl
        case hy7 => (intro w hSw; (try dsimp only at hSw); first | (go_simp; done) | (go_simp; with_reducible rfl))
        case rest7 =>
         try simp only [Act.put, List.setIfInBounds_toArray, List.set_cons_zero, List.set_cons_succ]
         refine wpAnyH_take (i := 8) (oi := ?oi8) (v := ?v8) ?ho8 ?ka8 ?kb8 ?kc8 (fun _ _ _ h => h) (Or.inl ⟨?wn8, ?hy8⟩) (by assumption) ?rest8
         case ho8 => (simp only [List.getElem?_toArray, List.getElem?_cons_succ, List.getElem?_cons_zero]; rfl)
         case ka8 => kernel_rfl
         case kb8 => kernel_rfl
         case kc8 => kernel_rfl
         case wn8 => rfl
         case hy8 => (intro w hSw; (try dsimp only at hSw); first | (go_simp; done) | (go_simp; with_reducible rfl))
         case rest8 =>
          try simp only [Act.put, List.setIfInBounds_toArray, List.set_cons_zero, List.set_cons_succ]
          refine wpAnyH_ready (rs := [4, 9]) (by kernel_rfl) (by simp) ?_
          refine AllReadyH.cons (o := ?o9) ?ho9 (fun K hK => ?st9) ?more9
          case ho9 => (simp only [List.getElem?_toArray, List.getElem?_cons_succ, List.getElem?_cons_zero]; rfl)
          case st9 =>
           go_simp
           refine hK.out _ _ ?hS9 (fun hHeld => ?goon9)
           case hS9 =>
            try dsimp only
            first
               | (refine ⟨?_, ?_⟩ <;> assumption)
               | (refine ⟨?_, ?_⟩ <;> (rw [cell_set_other (by first | exact fun e => nepx e.symm | exact fun e => neix e.symm)]; assumption))
               | go_keep
           case goon9 =>
            clear hK K
            try simp only [Act.put, List.setIfInBounds_toArray, List.set_cons_zero, List.set_cons_succ]
            refine wpAnyH_ready (rs := [9]) (by kernel_rfl) (by simp) ?_
            refine AllReadyH.cons (o := ?o10) ?ho10 (fun K hK => ?st10) ?more10
            case ho10 => (simp only [List.getElem?_toArray, List.getElem?_cons_succ, List.getElem?_cons_zero]; rfl)
            case st10 =>
             go_simp
             first
                | (go_at_call 86; refine Calls.mono HF.out ?_; rintro e w9 ⟨rfl, hb9, sv9, vs9, he9, tail9, ht9⟩; have k0 := he9.ptr.cell 0 rfl; have k1 := (he9.idx rfl).cell 0 rfl; have k2 := he9.box.cell 2 rfl; have hx9 := he9.box.lt; have hp9 := he9.ptr.lt; have hi9 := (he9.idx rfl).lt; have HE9 := Lib.hid he9; have HA9 : Hid (w9.ownsRow B 125 3 (.slice aa E ca) E (st.edges.flatMap (encA t))) := (by have hx := he9.arcs; simp only at hx; rw [← HEE.out] at hx; exact hx); have nx9 : some xb ≠ (Value.slice aa E ca).ownBlock := blk_own_ne' he9.box HA9.out (by decide); have np9 : some pb ≠ (Value.slice aa E ca).ownBlock := blk_own_ne' he9.ptr HA9.out (by decide); have ni9 : some ib ≠ (Value.slice aa E ca).ownBlock := blk_own_ne' (he9.idx rfl) HA9.out (by decide); have hB9 : B ≤ w9.heap.size := Nat.le_trans hbx (Nat.le_of_lt hx9); clear he9)
                | (refine step_append_lies _ (by rfl) _ _ _ (by rfl) B 125 i0 _ 3 32 Tryz.underlying85 hi hz0 hz1 hz2 rfl (by omega) (.slice aa E ca) E _ (by rfl) (HA9.out.alloc _) ⟨w9.heap.size, 0, none⟩ 1 1 [.int .i64 i, .string l, .int .i64 d] (by rfl) (by rfl) (World.news_of_block (cs := #[.int .i64 i, .string l, .int .i64 d]) (t := 125) (fr := (0, 0)) (heap_alloc_new _ _)) (by simp [Value.oneCell']) (by omega) (by simp [maxLen]; omega) (by omega) (by simp; omega) (w9.heap.size + 1) (by simp) ?_; intro gg cap w5 hown5 hgrow5 hat5 hlt5; have hA5 : Below w9.heap.size w9 (w9.alloc (.cells #[.int .i64 i, .string l, .int .i64 d] 125)) := (Below.refl _ _).alloc (Nat.le_refl _) _; have z1 : w5.frozen? ⟨xb, 2, none⟩ = false := (hgrow5.frozen_far ⟨xb, 2, none⟩ (by simp; omega) nx9).trans ((hA5.frozen (p := ⟨xb, 2, none⟩) hx9).trans (HE9.out.box.frozen 2)); have z2 := (hgrow5.cell_far ⟨xb, 2, none⟩ (by simp; omega) nx9).trans (keeps hA5 hx9 k2); have z3 := (hgrow5.cell_far ⟨pb, 0, none⟩ (by simp; omega) np9).trans (keeps hA5 hp9 k0); have z4 := (hgrow5.cell_far ⟨ib, 0, none⟩ (by simp; omega) ni9).trans (keeps hA5 hi9 k1))
             try go_wp2_with fail
             refine hK.out _ _ ?hS10 (fun hHeld => ?goon10)
             case hS10 =>
              try dsimp only
              first
                 | (refine ⟨?_, ?_⟩ <;> assumption)
                 | (refine ⟨?_, ?_⟩ <;> (rw [cell_set_other (by first | exact fun e => nepx e.symm | exact fun e => neix e.symm)]; assumption))
                 | go_keep
             case goon10 =>
              clear hK K
              try simp only [Act.put, List.setIfInBounds_toArray, List.set_cons_zero, List.set_cons_succ]
              refine wpAnyH_take (i := 10) (oi := ?oi11) (v := ?v11) ?ho11 ?ka11 ?kb11 ?kc11 (fun _ _ _ h => h) (Or.inl ⟨?wn11, ?hy11⟩) (by assumption) ?rest11
              case ho11 => (simp only [List.getElem?_toArray, List.getElem?_cons_succ, List.getElem?_cons_zero]; rfl)
              case ka11 => kernel_rfl
              case kb11 => kernel_rfl
              case kc11 => kernel_rfl
              case wn11 => rfl
              case hy11 => (intro w hSw; (try dsimp only at hSw); first | (go_simp; done) | (go_simp; with_reducible rfl))
              case rest11 =>
               try simp only [Act.put, List.setIfInBounds_toArray, List.set_cons_zero, List.set_cons_succ]
               refine wpAnyH_ready (rs := [11]) (by kernel_rfl) (by simp) ?_
               refine AllReadyH.cons (o := ?o12) ?ho12 (fun K hK => ?st12) ?more12
               case ho12 => (simp only [List.getElem?_toArray, List.getElem?_cons_succ, List.getElem?_cons_zero]; rfl)
               case st12 =>
                go_simp
                refine hK.out _ _ ?hS12 (fun hHeld => ?goon12)
                case hS12 =>
                 try dsimp only
                 first
                    | (refine ⟨?_, ?_⟩ <;> assumption)
                    | (refine ⟨?_, ?_⟩ <;> (rw [cell_set_other (by first | exact fun e => nepx e.symm | exact fun e => neix e.symm)]; assumption))
                    | go_keep
                case goon12 =>
                 clear hK K
                 try simp only [Act.put, List.setIfInBounds_toArray, List.set_cons_zero, List.set_cons_succ]
                 refine wpAnyH_ready (rs := [12]) (by kernel_rfl) (by simp) ?_
                 refine AllReadyH.cons (o := ?o13) ?ho13 (fun K hK => ?st13) ?more13
                 case ho13 => (simp only [List.getElem?_toArray, List.getElem?_cons_succ, List.getElem?_cons_zero]; rfl)
                 case st13 =>
                  first
                     | (go_at_call 86; refine Calls.mono HF.out ?_; rintro e w9 ⟨rfl, hb9, sv9, vs9, he9, tail9, ht9⟩; have k0 := he9.ptr.cell 0 rfl; have k1 := (he9.idx rfl).cell 0 rfl; have k2 := he9.box.cell 2 rfl; have hx9 := he9.box.lt; have hp9 := he9.ptr.lt; have hi9 := (he9.idx rfl).lt; have HE9 := Lib.hid he9; have HA9 : Hid (w9.ownsRow B 125 3 (.slice aa E ca) E (st.edges.flatMap (encA t))) := (by have hx := he9.arcs; simp only at hx; rw [← HEE.out] at hx; exact hx); have nx9 : some xb ≠ (Value.slice aa E ca).ownBlock := blk_own_ne' he9.box HA9.out (by decide); have np9 : some pb ≠ (Value.slice aa E ca).ownBlock := blk_own_ne' he9.ptr HA9.out (by decide); have ni9 : some ib ≠ (Value.slice aa E ca).ownBlock := blk_own_ne' (he9.idx rfl) HA9.out (by decide); have hB9 : B ≤ w9.heap.size := Nat.le_trans hbx (Nat.le_of_lt hx9); clear he9)
                     | (refine step_append_lies _ (by rfl) _ _ _ (by rfl) B 125 i0 _ 3 32 Tryz.underlying85 hi hz0 hz1 hz2 rfl (by omega) (.slice aa E ca) E _ (by rfl) (HA9.out.alloc _) ⟨w9.heap.size, 0, none⟩ 1 1 [.int .i64 i, .string l, .int .i64 d] (by rfl) (by rfl) (World.news_of_block (cs := #[.int .i64 i, .string l, .int .i64 d]) (t := 125) (fr := (0, 0)) (heap_alloc_new _ _)) (by simp [Value.oneCell']) (by omega) (by simp [maxLen]; omega) (by omega) (by simp; omega) (w9.heap.size + 1) (by simp) ?_; intro gg cap w5 hown5 hgrow5 hat5 hlt5; have hA5 : Below w9.heap.size w9 (w9.alloc (.cells #[.int .i64 i, .string l, .int .i64 d] 125)) := (Below.refl _ _).alloc (Nat.le_refl _) _; have z1 : w5.frozen? ⟨xb, 2, none⟩ = false := (hgrow5.frozen_far ⟨xb, 2, none⟩ (by simp; omega) nx9).trans ((hA5.frozen (p := ⟨xb, 2, none⟩) hx9).trans (HE9.out.box.frozen 2)); have z2 := (hgrow5.cell_far ⟨xb, 2, none⟩ (by simp; omega) nx9).trans (keeps hA5 hx9 k2); have z3 := (hgrow5.cell_far ⟨pb, 0, none⟩ (by simp; omega) np9).trans (keeps hA5 hp9 k0); have z4 := (hgrow5.cell_far ⟨ib, 0, none⟩ (by simp; omega) ni9).trans (keeps hA5 hi9 k1))
                  refine hK.out _ _ ?hS13 (fun hHeld => ?goon13)
                  case hS13 =>
                   try dsimp only
                   first
                      | (refine ⟨?_, ?_⟩ <;> assumption)
                      | (refine ⟨?_, ?_⟩ <;> (rw [cell_set_other (by first | exact fun e => nepx e.symm | exact fun e => neix e.symm)]; assumption))
                      | go_keep
                  case goon13 =>
                   clear hK K
                   try simp only [Act.put, List.setIfInBounds_toArray, List.set_cons_zero, List.set_cons_succ]
                   refine wpAnyH_take (i := 13) (oi := ?oi14) (v := ?v14) ?ho14 ?ka14 ?kb14 ?kc14 (fun _ _ _ h => h) (Or.inl ⟨?wn14, ?hy14⟩) (by assumption) ?rest14
                   case ho14 => (simp only [List.getElem?_toArray, List.getElem?_cons_succ, List.getElem?_cons_zero]; rfl)
                   case ka14 => kernel_rfl
                   case kb14 => kernel_rfl
                   case kc14 => kernel_rfl
                   case wn14 => rfl
                   case hy14 => (intro w hSw; (try dsimp only at hSw); first | (go_simp; done) | (go_simp; with_reducible rfl))
                   case rest14 =>
                    try simp only [Act.put, List.setIfInBounds_toArray, List.set_cons_zero, List.set_cons_succ]
                    refine wpAnyH_take (i := 14) (oi := ?oi15) (v := ?v15) ?ho15 ?ka15 ?kb15 ?kc15 (fun _ _ _ h => h) (Or.inl ⟨?wn15, ?hy15⟩) (by assumption) ?rest15
                    case ho15 => (simp only [List.getElem?_toArray, List.getElem?_cons_succ, List.getElem?_cons_zero]; rfl)
                    case ka15 => kernel_rfl
                    case kb15 => kernel_rfl
                    case kc15 => kernel_rfl
                    case wn15 => rfl
                    case hy15 => (intro w hSw; (try dsimp only at hSw); first | (go_simp; done) | (go_simp; with_reducible rfl))
                    case rest15 =>
                     try simp only [Act.put, List.setIfInBounds_toArray, List.set_cons_zero, List.set_cons_succ]
                     refine wpAnyH_ready (rs := [15]) (by kernel_rfl) (by simp) ?_
                     refine AllReadyH.cons (o := ?o16) ?ho16 (fun K hK => ?st16) ?more16
                     case ho16 => (simp only [List.getElem?_toArray, List.getElem?_cons_succ, List.getElem?_cons_zero]; rfl)
                     case st16 =>
                      go_simp
                      refine hK.out _ _ ?hS16 (fun hHeld => ?goon16)
                      case hS16 =>
                       try dsimp only
                       first
                          | (refine ⟨?_, ?_⟩ <;> assumption)
                          | (refine ⟨?_, ?_⟩ <;> (rw [cell_set_other (by first | exact fun e => nepx e.symm | exact fun e => neix e.symm)]; assumption))
                          | go_keep
                      case goon16 =>
                       clear hK K
                       try simp only [Act.put, List.setIfInBounds_toArray, List.set_cons_zero, List.set_cons_succ]
                       refine wpAnyH_done (by kernel_rfl) ?_ _
                       refine NoPanic.normal ?_
                       obtain ⟨av', hav'⟩ : ∃ av', av' = Value.slice (some ⟨gg, 0, none⟩) (E + 1) cap := ⟨_, rfl⟩
                       rw [← hav'] at hown5 ⊢
                       have hlab : encA t ⟨(i : Int), (k : Int), (d : Int)⟩ = [.int .i64 i, .string l, .int .i64 d] := by
                        unfold encA labAt
                        rw [← HL.out]
                        rfl
                       have HF5 := Lib.hid (ExpAt.arc (e := ⟨(i : Int), (k : Int), (d : Int)⟩) HE9.out hA5 hgrow5 (by rw [hlab]; have hx := hown5; rw [HEE.out] at hx; exact hx))
                       have HB5 : Hid (Below B w w5) := ((HBD.out.trans (hb9.trans (hA5.mono hB9))).grown hgrow5 (by simp; omega) (fun b e => (HA9.out.lt b e).1))
                       have HT := Lib.hid ht9
                       clear hown5 hgrow5 hat5 hlt5 hav' z1 z2 z3 z4 k0 k1 k2 P0 Q0 X2 p0 q0 x2 hb9 ht9
                       go_wp2
                       go_end0
                       exact ⟨rfl, HB5.out.setCell hbx _, sv9, av', vs9, HF5.out, tail9, HT.out⟩
                     exact AllReadyH.nil
                 exact AllReadyH.nil
               exact AllReadyH.nil
            exact AllReadyH.nil
          refine AllReadyH.cons (o := ?o17) ?ho17 (fun K hK => ?st17) ?more17
          case ho17 => (simp only [List.getElem?_toArray, List.getElem?_cons_succ, List.getElem?_cons_zero]; rfl)
          case st17 =>
           go_simp
           first
              | (go_at_call 86; refine Calls.mono HF.out ?_; rintro e w9 ⟨rfl, hb9, sv9, vs9, he9, tail9, ht9⟩; have k0 := he9.ptr.cell 0 rfl; have k1 := (he9.idx rfl).cell 0 rfl; have k2 := he9.box.cell 2 rfl; have hx9 := he9.box.lt; have hp9 := he9.ptr.lt; have hi9 := (he9.idx rfl).lt; have HE9 := Lib.hid he9; have HA9 : Hid (w9.ownsRow B 125 3 (.slice aa E ca) E (st.edges.flatMap (encA t))) := (by have hx := he9.arcs; simp only at hx; rw [← HEE.out] at hx; exact hx); have nx9 : some xb ≠ (Value.slice aa E ca).ownBlock := blk_own_ne' he9.box HA9.out (by decide); have np9 : some pb ≠ (Value.slice aa E ca).ownBlock := blk_own_ne' he9.ptr HA9.out (by decide); have ni9 : some ib ≠ (Value.slice aa E ca).ownBlock := blk_own_ne' (he9.idx rfl) HA9.out (by decide); have hB9 : B ≤ w9.heap.size := Nat.le_trans hbx (Nat.le_of_lt hx9); clear he9)
              | (refine step_append_lies _ (by rfl) _ _ _ (by rfl) B 125 i0 _ 3 32 Tryz.underlying85 hi hz0 hz1 hz2 rfl (by omega) (.slice aa E ca) E _ (by rfl) (HA9.out.alloc _) ⟨w9.heap.size, 0, none⟩ 1 1 [.int .i64 i, .string l, .int .i64 d] (by rfl) (by rfl) (World.news_of_block (cs := #[.int .i64 i, .string l, .int .i64 d]) (t := 125) (fr := (0, 0)) (heap_alloc_new _ _)) (by simp [Value.oneCell']) (by omega) (by simp [maxLen]; omega) (by omega) (by simp; omega) (w9.heap.size + 1) (by simp) ?_; intro gg cap w5 hown5 hgrow5 hat5 hlt5; have hA5 : Below w9.heap.size w9 (w9.alloc (.cells #[.int .i64 i, .string l, .int .i64 d] 125)) := (Below.refl _ _).alloc (Nat.le_refl _) _; have z1 : w5.frozen? ⟨xb, 2, none⟩ = false := (hgrow5.frozen_far ⟨xb, 2, none⟩ (by simp; omega) nx9).trans ((hA5.frozen (p := ⟨xb, 2, none⟩) hx9).trans (HE9.out.box.frozen 2)); have z2 := (hgrow5.cell_far ⟨xb, 2, none⟩ (by simp; omega) nx9).trans (keeps hA5 hx9 k2); have z3 := (hgrow5.cell_far ⟨pb, 0, none⟩ (by simp; omega) np9).trans (keeps hA5 hp9 k0); have z4 := (hgrow5.cell_far ⟨ib, 0, none⟩ (by simp; omega) ni9).trans (keeps hA5 hi9 k1))
           try go_wp2_with fail
           refine hK.out _ _ ?hS17 (fun hHeld => ?goon17)
           case hS17 =>
            try dsimp only
            first
               | (refine ⟨?_, ?_⟩ <;> assumption)
               | (refine ⟨?_, ?_⟩ <;> (rw [cell_set_other (by first | exact fun e => nepx e.symm | exact fun e => neix e.symm)]; assumption))
               | go_keep
           case goon17 =>
            clear hK K
            try simp only [Act.put, List.setIfInBounds_toArray, List.set_cons_zero, List.set_cons_succ]
            refine wpAnyH_take (i := 10) (oi := ?oi18) (v := ?v18) ?ho18 ?ka18 ?kb18 ?kc18 (fun _ _ _ h => h) (Or.inl ⟨?wn18, ?hy18⟩) (by assumption) ?rest18
            case ho18 => (simp only [List.getElem?_toArray, List.getElem?_cons_succ, List.getElem?_cons_zero]; rfl)
            case ka18 => kernel_rfl
            case kb18 => kernel_rfl
            case kc18 => kernel_rfl
            case wn18 => rfl
            case hy18 => (intro w hSw; (try dsimp only at hSw); first | (go_simp; done) | (go_simp; with_reducible rfl))
            case rest18 =>
             try simp only [Act.put, List.setIfInBounds_toArray, List.set_cons_zero, List.set_cons_succ]
             refine wpAnyH_ready (rs := [4, 11]) (by kernel_rfl) (by simp) ?_
             refine AllReadyH.cons (o := ?o19) ?ho19 (fun K hK => ?st19) ?more19
             case ho19 => (simp only [List.getElem?_toArray, List.getElem?_cons_succ, List.getElem?_cons_zero]; rfl)
             case st19 =>
              go_simp
              refine hK.out _ _ ?hS19 (fun hHeld => ?goon19)
              case hS19 =>
               try dsimp only
               first
                  | (refine ⟨?_, ?_⟩ <;> assumption)
                  | (refine ⟨?_, ?_⟩ <;> (rw [cell_set_other (by first | exact fun e => nepx e.symm | exact fun e => neix e.symm)]; assumption))
                  | go_keep
              case goon19 =>
               clear hK K
               try simp only [Act.put, List.setIfInBounds_toArray, List.set_cons_zero, List.set_cons_succ]
               refine wpAnyH_ready (rs := [11]) (by kernel_rfl) (by simp) ?_
               refine AllReadyH.cons (o := ?o20) ?ho20 (fun K hK => ?st20) ?more20
               case ho20 => (simp only [List.getElem?_toArray, List.getElem?_cons_succ, List.getElem?_cons_zero]; rfl)
               case st20 =>
                go_simp
                refine hK.out _ _ ?hS20 (fun hHeld => ?goon20)
                case hS20 =>
                 try dsimp only
                 first
                    | (refine ⟨?_, ?_⟩ <;> assumption)
                    | (refine ⟨?_, ?_⟩ <;> (rw [cell_set_other (by first | exact fun e => nepx e.symm | exact fun e => neix e.symm)]; assumption))
                    | go_keep
                case goon20 =>
                 clear hK K
                 try simp only [Act.put, List.setIfInBounds_toArray, List.set_cons_zero, List.set_cons_succ]
                 refine wpAnyH_ready (rs := [12]) (by kernel_rfl) (by simp) ?_
                 refine AllReadyH.cons (o := ?o21) ?ho21 (fun K hK => ?st21) ?more21
                 case ho21 => (simp only [List.getElem?_toArray, List.getElem?_cons_succ, List.getElem?_cons_zero]; rfl)
                 case st21 =>
                  first
                     | (go_at_call 86; refine Calls.mono HF.out ?_; rintro e w9 ⟨rfl, hb9, sv9, vs9, he9, tail9, ht9⟩; have k0 := he9.ptr.cell 0 rfl; have k1 := (he9.idx rfl).cell 0 rfl; have k2 := he9.box.cell 2 rfl; have hx9 := he9.box.lt; have hp9 := he9.ptr.lt; have hi9 := (he9.idx rfl).lt; have HE9 := Lib.hid he9; have HA9 : Hid (w9.ownsRow B 125 3 (.slice aa E ca) E (st.edges.flatMap (encA t))) := (by have hx := he9.arcs; simp only at hx; rw [← HEE.out] at hx; exact hx); have nx9 : some xb ≠ (Value.slice aa E ca).ownBlock := blk_own_ne' he9.box HA9.out (by decide); have np9 : some pb ≠ (Value.slice aa E ca).ownBlock := blk_own_ne' he9.ptr HA9.out (by decide); have ni9 : some ib ≠ (Value.slice aa E ca).ownBlock := blk_own_ne' (he9.idx rfl) HA9.out (by decide); have hB9 : B ≤ w9.heap.size := Nat.le_trans hbx (Nat.le_of_lt hx9); clear he9)
                     | (refine step_append_lies _ (by rfl) _ _ _ (by rfl) B 125 i0 _ 3 32 Tryz.underlying85 hi hz0 hz1 hz2 rfl (by omega) (.slice aa E ca) E _ (by rfl) (HA9.out.alloc _) ⟨w9.heap.size, 0, none⟩ 1 1 [.int .i64 i, .string l, .int .i64 d] (by rfl) (by rfl) (World.news_of_block (cs := #[.int .i64 i, .string l, .int .i64 d]) (t := 125) (fr := (0, 0)) (heap_alloc_new _ _)) (by simp [Value.oneCell']) (by omega) (by simp [maxLen]; omega) (by omega) (by simp; omega) (w9.heap.size + 1) (by simp) ?_; intro gg cap w5 hown5 hgrow5 hat5 hlt5; have hA5 : Below w9.heap.size w9 (w9.alloc (.cells #[.int .i64 i, .string l, .int .i64 d] 125)) := (Below.refl _ _).alloc (Nat.le_refl _) _; have z1 : w5.frozen? ⟨xb, 2, none⟩ = false := (hgrow5.frozen_far ⟨xb, 2, none⟩ (by simp; omega) nx9).trans ((hA5.frozen (p := ⟨xb, 2, none⟩) hx9).trans (HE9.out.box.frozen 2)); have z2 := (hgrow5.cell_far ⟨xb, 2, none⟩ (by simp; omega) nx9).trans (keeps hA5 hx9 k2); have z3 := (hgrow5.cell_far ⟨pb, 0, none⟩ (by simp; omega) np9).trans (keeps hA5 hp9 k0); have z4 := (hgrow5.cell_far ⟨ib, 0, none⟩ (by simp; omega) ni9).trans (keeps hA5 hi9 k1))
                  refine hK.out _ _ ?hS21 (fun hHeld => ?goon21)
                  case hS21 =>
                   try dsimp only
                   first
                      | (refine ⟨?_, ?_⟩ <;> assumption)
                      | (refine ⟨?_, ?_⟩ <;> (rw [cell_set_other (by first | exact fun e => nepx e.symm | exact fun e => neix e.symm)]; assumption))
                      | go_keep
                  case goon21 =>
                   clear hK K
                   try simp only [Act.put, List.setIfInBounds_toArray, List.set_cons_zero, List.set_cons_succ]
                   refine wpAnyH_take (i := 13) (oi := ?oi22) (v := ?v22) ?ho22 ?ka22 ?kb22 ?kc22 (fun _ _ _ h => h) (Or.inl ⟨?wn22, ?hy22⟩) (by assumption) ?rest22
                   case ho22 => (simp only [List.getElem?_toArray, List.getElem?_cons_succ, List.getElem?_cons_zero]; rfl)
                   case ka22 => kernel_rfl
                   case kb22 => kernel_rfl
                   case kc22 => kernel_rfl
                   case wn22 => rfl
                   case hy22 => (intro w hSw; (try dsimp only at hSw); first | (go_simp; done) | (go_simp; with_reducible rfl))
                   case rest22 =>
                    try simp only [Act.put, List.setIfInBounds_toArray, List.set_cons_zero, List.set_cons_succ]
                    refine wpAnyH_take (i := 14) (oi := ?oi23) (v := ?v23) ?ho23 ?ka23 ?kb23 ?kc23 (fun _ _ _ h => h) (Or.inl ⟨?wn23, ?hy23⟩) (by assumption) ?rest23
                    case ho23 => (simp only [List.getElem?_toArray, List.getElem?_cons_succ, List.getElem?_cons_zero]; rfl)
                    case ka23 => kernel_rfl
                    case kb23 => kernel_rfl
                    case kc23 => kernel_rfl
                    case wn23 => rfl
                    case hy23 => (intro w hSw; (try dsimp only at hSw); first | (go_simp; done) | (go_simp; with_reducible rfl))
                    case rest23 =>
                     try simp only [Act.put, List.setIfInBounds_toArray, List.set_cons_zero, List.set_cons_succ]
                     refine wpAnyH_ready (rs := [15]) (by kernel_rfl) (by simp) ?_
                     refine AllReadyH.cons (o := ?o24) ?ho24 (fun K hK => ?st24) ?more24
                     case ho24 => (simp only [List.getElem?_toArray, List.getElem?_cons_succ, List.getElem?_cons_zero]; rfl)
                     case st24 =>
                      go_simp
                      refine hK.out _ _ ?hS24 (fun hHeld => ?goon24)
                      case hS24 =>
                       try dsimp only
                       first
                          | (refine ⟨?_, ?_⟩ <;> assumption)
                          | (refine ⟨?_, ?_⟩ <;> (rw [cell_set_other (by first | exact fun e => nepx e.symm | exact fun e => neix e.symm)]; assumption))
                          | go_keep
                      case goon24 =>
                       clear hK K
                       try simp only [Act.put, List.setIfInBounds_toArray, List.set_cons_zero, List.set_cons_succ]
                       refine wpAnyH_done (by kernel_rfl) ?_ _
                       refine NoPanic.normal ?_
                       obtain ⟨av', hav'⟩ : ∃ av', av' = Value.slice (some ⟨gg, 0, none⟩) (E + 1) cap := ⟨_, rfl⟩
                       rw [← hav'] at hown5 ⊢
                       have hlab : encA t ⟨(i : Int), (k : Int), (d : Int)⟩ = [.int .i64 i, .string l, .int .i64 d] := by
                        unfold encA labAt
                        rw [← HL.out]
                        rfl
                       have HF5 := Lib.hid (ExpAt.arc (e := ⟨(i : Int), (k : Int), (d : Int)⟩) HE9.out hA5 hgrow5 (by rw [hlab]; have hx := hown5; rw [HEE.out] at hx; exact hx))
                       have HB5 : Hid (Below B w w5) := ((HBD.out.trans (hb9.trans (hA5.mono hB9))).grown hgrow5 (by simp; omega) (fun b e => (HA9.out.lt b e).1))
                       have HT := Lib.hid ht9
                       clear hown5 hgrow5 hat5 hlt5 hav' z1 z2 z3 z4 k0 k1 k2 P0 Q0 X2 p0 q0 x2 hb9 ht9
                       go_wp2
                       go_end0
                       exact ⟨rfl, HB5.out.setCell hbx _, sv9, av', vs9, HF5.out, tail9, HT.out⟩
                     exact AllReadyH.nil
                 exact AllReadyH.nil
               exact AllReadyH.nil
             refine AllReadyH.cons (o := ?o25) ?ho25 (fun K hK => ?st25) ?more25
             case ho25 => (simp only [List.getElem?_toArray, List.getElem?_cons_succ, List.getElem?_cons_zero]; rfl)
             case st25 =>
              go_simp
              refine hK.out _ _ ?hS25 (fun hHeld => ?goon25)
              case hS25 =>
               try dsimp only
               first
                  | (refine ⟨?_, ?_⟩ <;> assumption)
                  | (refine ⟨?_, ?_⟩ <;> (rw [cell_set_other (by first | exact fun e => nepx e.symm | exact fun e => neix e.symm)]; assumption))
                  | go_keep
              case goon25 =>
               clear hK K
               try simp only [Act.put, List.setIfInBounds_toArray, List.set_cons_zero, List.set_cons_succ]
               refine wpAnyH_ready (rs := [4]) (by kernel_rfl) (by simp) ?_
               refine AllReadyH.cons (o := ?o26) ?ho26 (fun K hK => ?st26) ?more26
               case ho26 => (simp only [List.getElem?_toArray, List.getElem?_cons_succ, List.getElem?_cons_zero]; rfl)
               case st26 =>
                go_simp
                refine hK.out _ _ ?hS26 (fun hHeld => ?goon26)
                case hS26 =>
                 try dsimp only
                 first
                    | (refine ⟨?_, ?_⟩ <;> assumption)
                    | (refine ⟨?_, ?_⟩ <;> (rw [cell_set_other (by first | exact fun e => nepx e.symm | exact fun e => neix e.symm)]; assumption))
                    | go_keep
                case goon26 =>
                 clear hK K
                 try simp only [Act.put, List.setIfInBounds_toArray, List.set_cons_zero, List.set_cons_succ]
                 refine wpAnyH_ready (rs := [12]) (by kernel_rfl) (by simp) ?_
                 refine AllReadyH.cons (o := ?o27) ?ho27 (fun K hK => ?st27) ?more27
                 case ho27 => (simp only [List.getElem?_toArray, List.getElem?_cons_succ, List.getElem?_cons_zero]; rfl)
                 case st27 =>
                  first
                     | (go_at_call 86; refine Calls.mono HF.out ?_; rintro e w9 ⟨rfl, hb9, sv9, vs9, he9, tail9, ht9⟩; have k0 := he9.ptr.cell 0 rfl; have k1 := (he9.idx rfl).cell 0 rfl; have k2 := he9.box.cell 2 rfl; have hx9 := he9.box.lt; have hp9 := he9.ptr.lt; have hi9 := (he9.idx rfl).lt; have HE9 := Lib.hid he9; have HA9 : Hid (w9.ownsRow B 125 3 (.slice aa E ca) E (st.edges.flatMap (encA t))) := (by have hx := he9.arcs; simp only at hx; rw [← HEE.out] at hx; exact hx); have nx9 : some xb ≠ (Value.slice aa E ca).ownBlock := blk_own_ne' he9.box HA9.out (by decide); have np9 : some pb ≠ (Value.slice aa E ca).ownBlock := blk_own_ne' he9.ptr HA9.out (by decide); have ni9 : some ib ≠ (Value.slice aa E ca).ownBlock := blk_own_ne' (he9.idx rfl) HA9.out (by decide); have hB9 : B ≤ w9.heap.size := Nat.le_trans hbx (Nat.le_of_lt hx9); clear he9)
                     | (refine step_append_lies _ (by rfl) _ _ _ (by rfl) B 125 i0 _ 3 32 Tryz.underlying85 hi hz0 hz1 hz2 rfl (by omega) (.slice aa E ca) E _ (by rfl) (HA9.out.alloc _) ⟨w9.heap.size, 0, none⟩ 1 1 [.int .i64 i, .string l, .int .i64 d] (by rfl) (by rfl) (World.news_of_block (cs := #[.int .i64 i, .string l, .int .i64 d]) (t := 125) (fr := (0, 0)) (heap_alloc_new _ _)) (by simp [Value.oneCell']) (by omega) (by simp [maxLen]; omega) (by omega) (by simp; omega) (w9.heap.size + 1) (by simp) ?_; intro gg cap w5 hown5 hgrow5 hat5 hlt5; have hA5 : Below w9.heap.size w9 (w9.alloc (.cells #[.int .i64 i, .string l, .int .i64 d] 125)) := (Below.refl _ _).alloc (Nat.le_refl _) _; have z1 : w5.frozen? ⟨xb, 2, none⟩ = false := (hgrow5.frozen_far ⟨xb, 2, none⟩ (by simp; omega) nx9).trans ((hA5.frozen (p := ⟨xb, 2, none⟩) hx9).trans (HE9.out.box.frozen 2)); have z2 := (hgrow5.cell_far ⟨xb, 2, none⟩ (by simp; omega) nx9).trans (keeps hA5 hx9 k2); have z3 := (hgrow5.cell_far ⟨pb, 0, none⟩ (by simp; omega) np9).trans (keeps hA5 hp9 k0); have z4 := (hgrow5.cell_far ⟨ib, 0, none⟩ (by simp; omega) ni9).trans (keeps hA5 hi9 k1))
                  refine hK.out _ _ ?hS27 (fun hHeld => ?goon27)
                  case hS27 =>
                   try dsimp only
                   first
                      | (refine ⟨?_, ?_⟩ <;> assumption)
                      | (refine ⟨?_, ?_⟩ <;> (rw [cell_set_other (by first | exact fun e => nepx e.symm | exact fun e => neix e.symm)]; assumption))
                      | go_keep
                  case goon27 =>
                   clear hK K
                   try simp only [Act.put, List.setIfInBounds_toArray, List.set_cons_zero, List.set_cons_succ]
                   refine wpAnyH_take (i := 13) (oi := ?oi28) (v := ?v28) ?ho28 ?ka28 ?kb28 ?kc28 (fun _ _ _ h => h) (Or.inl ⟨?wn28, ?hy28⟩) (by assumption) ?rest28
                   case ho28 => (simp only [List.getElem?_toArray, List.getElem?_cons_succ, List.getElem?_cons_zero]; rfl)
                   case ka28 => kernel_rfl
                   case kb28 => kernel_rfl
                   case kc28 => kernel_rfl
                   case wn28 => rfl
                   case hy28 => (intro w hSw; (try dsimp only at hSw); first | (go_simp; done) | (go_simp; with_reducible rfl))
                   case rest28 =>
                    try simp only [Act.put, List.setIfInBounds_toArray, List.set_cons_zero, List.set_cons_succ]
                    refine wpAnyH_take (i := 14) (oi := ?oi29) (v := ?v29) ?ho29 ?ka29 ?kb29 ?kc29 (fun _ _ _ h => h) (Or.inl ⟨?wn29, ?hy29⟩) (by assumption) ?rest29
                    case ho29 => (simp only [List.getElem?_toArray, List.getElem?_cons_succ, List.getElem?_cons_zero]; rfl)
                    case ka29 => kernel_rfl
                    case kb29 => kernel_rfl
                    case kc29 => kernel_rfl
                    case wn29 => rfl
                    case hy29 => (intro w hSw; (try dsimp only at hSw); first | (go_simp; done) | (go_simp; with_reducible rfl))
                    case rest29 =>
                     try simp only [Act.put, List.setIfInBounds_toArray, List.set_cons_zero, List.set_cons_succ]
                     refine wpAnyH_ready (rs := [15]) (by kernel_rfl) (by simp) ?_
                     refine AllReadyH.cons (o := ?o30) ?ho30 (fun K hK => ?st30) ?more30
                     case ho30 => (simp only [List.getElem?_toArray, List.getElem?_cons_succ, List.getElem?_cons_zero]; rfl)
                     case st30 =>
                      go_simp
                      refine hK.out _ _ ?hS30 (fun hHeld => ?goon30)
                      case hS30 =>
                       try dsimp only
                       first
                          | (refine ⟨?_, ?_⟩ <;> assumption)
                          | (refine ⟨?_, ?_⟩ <;> (rw [cell_set_other (by first | exact fun e => nepx e.symm | exact fun e => neix e.symm)]; assumption))
                          | go_keep
                      case goon30 =>
                       clear hK K
                       try simp only [Act.put, List.setIfInBounds_toArray, List.set_cons_zero, List.set_cons_succ]
                       refine wpAnyH_done (by kernel_rfl) ?_ _
                       refine NoPanic.normal ?_
                       obtain ⟨av', hav'⟩ : ∃ av', av' = Value.slice (some ⟨gg, 0, none⟩) (E + 1) cap := ⟨_, rfl⟩
                       rw [← hav'] at hown5 ⊢
                       have hlab : encA t ⟨(i : Int), (k : Int), (d : Int)⟩ = [.int .i64 i, .string l, .int .i64 d] := by
                        unfold encA labAt
                        rw [← HL.out]
                        rfl
                       have HF5 := Lib.hid (ExpAt.arc (e := ⟨(i : Int), (k : Int), (d : Int)⟩) HE9.out hA5 hgrow5 (by rw [hlab]; have hx := hown5; rw [HEE.out] at hx; exact hx))
                       have HB5 : Hid (Below B w w5) := ((HBD.out.trans (hb9.trans (hA5.mono hB9))).grown hgrow5 (by simp; omega) (fun b e => (HA9.out.lt b e).1))
                       have HT := Lib.hid ht9
                       clear hown5 hgrow5 hat5 hlt5 hav' z1 z2 z3 z4 k0 k1 k2 P0 Q0 X2 p0 q0 x2 hb9 ht9
                       go_wp2
                       go_end0
                       exact ⟨rfl, HB5.out.setCell hbx _, sv9, av', vs9, HF5.out, tail9, HT.out⟩
                     exact AllReadyH.nil
                 exact AllReadyH.nil
               exact AllReadyH.nil
             exact AllReadyH.nil
          exact AllReadyH.nil

end Go.Proofs.YthofaoabgbgbdaaGreatDoor

namespace Go.Proofs.YthofaoabgbgbdaaGreatDoor
open Go Go.RowKit

theorem dmid_rowAt {t : Lts} {n : Nat} {cur : List Int} {st : DNet} (h : st.rows[n]? = some cur) (j : Nat) : (dmid t n cur st j).rows[n]? = some cur := by
 obtain ⟨⟨r, hr⟩, -⟩ := dmid_le t n cur st 0 j
 rw [Nat.zero_add, dmid_zero] at hr
 rw [hr, List.getElem?_append_left (List.getElem?_eq_some_iff.1 h).1]
 exact h

end Go.Proofs.YthofaoabgbgbdaaGreatDoor
