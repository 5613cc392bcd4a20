/-
  The implementation's TracesOf.
  The implementation's TestsOf.
  What a size that fits says of a system's parts.
  What a size that fits says of texts; a call that turns one block.
  The functions of the laws that mark texts, edges, a system: what they turn.
  A list of texts of the call's own: marked, held.
-/
import Derived.Test.YtkbgncenjfebdaaGreatDoorT23
import Derived.Test.YtkbgncenjfebdaaGreatDoorT11
import Derived.Test.YtkbgncenjfebdaaGreatDoorT21
import Derived.Deep.RegionHeld3
import Derived.Deep.AppendLies
import Derived.Maps.AppendAt
import Derived.Test.YtkbgncenjfebdaaGreatDoorT20
import Derived.Test.YtkbgncenjfebdaaGreatDoorT18
namespace Go.Proofs.YtkbgncenjfebdaaGreatDoor
open Go Go.RowKit

theorem info_pairT : (Tryz.prog.info? 120).map (fun i => (i.zero, i.size, i.bytes)) = some (some (.agg #[.int .i64 0, .int .i64 0, .slice none 0 0]), 3, 40) := by kernel_rfl
theorem info_strT : (Tryz.prog.info? 9).map (fun i => (i.zero, i.size, i.bytes)) = some (some (.string ⟨#[]⟩), 1, 16) := by kernel_rfl
theorem info_strsT : (Tryz.prog.info? 22).map (fun i => (i.zero, i.size, i.bytes)) = some (some (.slice none 0 0), 1, 24) := by kernel_rfl
theorem map_snd_take {ns : List (TNode × Value)} {k : Nat} (h : k < ns.length) : (ns.take (k + 1)).map Prod.snd = (ns.take k).map Prod.snd ++ [ns[k].2] := by
 rw [List.take_succ_eq_append_getElem h, List.map_append]; rfl

set_option maxRecDepth 100000 in
set_option maxHeartbeats 8000000 in
theorem implTracesOf_any (lo : Nat) (t : Lts) (lv ev : Value) (q : Int) (w : World) (hsh : Short20 t.labels) (hl : SliceK 1 encS lo w lv t.labels) (he : SliceK 3 encE lo w ev t.edges) (g : Glob w) :
  Calls Tryz.prog 61 #[.agg #[.int .i64 t.states, .int .i64 t.initial, lv, ev], .int .i64 q] w (RetTrc t q w) := by
 obtain ⟨W, hW⟩ : ∃ W, W = w.alloc (.cells #[.int .i64 t.states, .int .i64 t.initial, lv, ev] 30) := ⟨_, rfl⟩
 have hB0 : Below w.heap.size w W := by rw [hW]; exact (Below.refl _ _).alloc (Nat.le_refl _) _
 have HTC := Lib.hid (traceCode_any lo t lv ev q W hsh (hl.below hB0) (he.below hB0) (g.below hB0))
 have HB0 := Lib.hid hB0
 have HW := Lib.hid hW
 clear hsh hl he g hB0 hW
 go_enter Tryz.func61, Tryz.ntmps61
 go_wp2_with fail
 rw [← HW.out]
 refine Calls.mono HTC.out ?_
 rintro e w1 ⟨hb1, ⟨hv, rfl⟩ | ⟨hv, hq, rfl⟩ | ⟨hv, hq, hf, rfl⟩ | ⟨hv, hq, st, lv2, ve, hok, rfl, hed, hown⟩⟩
 ·have HB1 := Lib.hid (HB0.out.trans (hb1.mono HB0.out.size))
  have HV := Lib.hid hv
  clear hb1 hv HTC
  go_wp2
  go_ret2
  exact trc_none (HB1.out.alloc HB1.out.size _) (.inl ⟨HV.out, rfl, rfl⟩)
 ·have HB1 := Lib.hid (HB0.out.trans (hb1.mono HB0.out.size))
  have HV := Lib.hid hv
  have HQ := Lib.hid hq
  clear hb1 hv HTC hq
  go_wp2
  go_ret2
  exact trc_none (HB1.out.alloc HB1.out.size _) (.inr (.inl ⟨HV.out, HQ.out, rfl, rfl⟩))
 ·have HB1 := Lib.hid (HB0.out.trans (hb1.mono HB0.out.size))
  have HV := Lib.hid hv
  have HQ := Lib.hid hq
  have HF := Lib.hid hf
  clear hb1 hv HTC hq hf
  go_wp2
  go_ret2
  exact trc_none (HB1.out.alloc HB1.out.size _) (.inr (.inr (.inl ⟨HV.out, HQ.out, HF.out, rfl, rfl⟩)))
 ·have HB3 := Lib.hid hb1
  have HV := Lib.hid hv
  have HR0 := Lib.hid hq
  have hq12 := hq.2
  have HOK := Lib.hid hok
  have HG := Lib.hid (dok_good hv hok)
  have hr0 := HG.out.some
  have hr40 := hok.2.1
  have he300 := hok.2.2
  have hlab := hv.labels.most
  obtain ⟨al2, cl2, rfl, -, -⟩ := owns_slice hown
  obtain ⟨ae2, ce2, rfl, -, -⟩ := owns_slice hed
  obtain ⟨d, hd⟩ : ∃ d, d = dSys t st := ⟨_, rfl⟩
  have HDE : Hid (∀ e ∈ d.edges, (1 ≤ e.lab ∧ e.lab < d.labels.length) ∧ 0 ≤ e.dst ∧ e.dst < d.states) := by
   intro e he
   rw [hd] at he ⊢
   have := HG.out.edges e he
   exact ⟨this.2.1, this.2.2⟩
  have hds : d.states = (st.rows.length : Int) := by rw [hd]; rfl
  have hdi : d.initial = 0 := by rw [hd]; rfl
  have hdl : d.labels = t.labels := by rw [hd]; rfl
  have hde : d.edges = st.edges := by rw [hd]; rfl
  rw [← hdl] at hown hlab
  rw [← hde] at hed he300
  rw [← hds, ← hdl, ← hde]
  obtain ⟨LL, hLL⟩ : ∃ LL, LL = d.labels.length := ⟨_, rfl⟩
  obtain ⟨E, hE⟩ : ∃ E, E = d.edges.length := ⟨_, rfl⟩
  rw [← hLL] at hown hlab
  rw [← hE] at hed he300
  rw [← hLL, ← hE]
  obtain ⟨W4, hW4⟩ : ∃ W4, W4 = w1.alloc (.cells #[.int .i64 d.states, .int .i64 0, .slice al2 LL cl2, .slice ae2 E ce2] 30) := ⟨_, rfl⟩
  have hb4 : Below w1.heap.size w1 W4 := by rw [hW4]; exact (Below.refl _ _).alloc (Nat.le_refl _) _
  obtain ⟨xb, hxb⟩ : ∃ xb, xb = w1.heap.size := ⟨_, rfl⟩
  have e4 : Blk W4 xb [.int .i64 d.states, .int .i64 0, .slice al2 LL cl2, .slice ae2 E ce2] 30 := by rw [hW4, hxb]; exact Blk.new w1 _ _
  have HX4 := Lib.hid e4
  have HED := Lib.hid (owns_below hed hb4)
  have HLB := Lib.hid (owns_below hown hb4)
  have HBW := Lib.hid (HB0.out.trans ((HB3.out.trans (hb4.mono HB3.out.size)).mono HB0.out.size))
  have HW4 := Lib.hid hW4
  have HXB := Lib.hid hxb
  obtain ⟨B, hB⟩ : ∃ B, B = W4.heap.size := ⟨_, rfl⟩
  have hxbB : xb < B := by rw [hB]; exact HX4.out.lt
  have HBB := Lib.hid hB
  have HDI := Lib.hid hdi
  have HD := Lib.hid hd
  have HLL := Lib.hid hLL
  have HEE := Lib.hid hE
  have hd1 : 1 ≤ d.states := by rw [hds]; omega
  obtain ⟨bl, hal, hblB⟩ : ∃ bl, al2 = some ⟨bl, 0, none⟩ ∧ bl < B := by
   have hp : 0 < LL := by rw [hLL, hdl]; exact hv.labels.pos
   rcases HLB.out.2 with ⟨h, h0⟩ | ⟨g, cap, cur, h, -, hg, -⟩
   ·omega
   ·simp only [Value.slice.injEq, true_and] at h
    exact ⟨g, h.1, by rw [hB]; exact (Array.getElem?_eq_some_iff.1 hg).1⟩
  subst hal
  -- the first pair, laid
  obtain ⟨W5, hW5⟩ : ∃ W5, W5 = W4.alloc (.cells #[.int .i64 0, .int .i64 0, .slice none 0 0] 120) := ⟨_, rfl⟩
  have hb5 : Below W4.heap.size W4 W5 := by rw [hW5]; exact (Below.refl _ _).alloc (Nat.le_refl _) _
  have hA5 : OwnAll B W5 (.slice (some ⟨B, 0, none⟩) 1 1) [(⟨0, []⟩, .slice none 0 0)] := by
   refine ⟨?_, ?_⟩
   ·have := World.ownsRow_lit (base := B) (e := 120) (size := 3) W4 #[.int .i64 0, .int .i64 0, .slice none 0 0] 1 (by rw [hB]; exact Nat.le_refl _) (by decide) (by simp)
    rw [← hB] at this
    rw [hW5]
    simpa [encN] using this
   ·exact Pile.one (B := B) (World.ownsRow_nil _ _ _ _) (Nat.le_refl _)
  have HA5 := Lib.hid hA5
  have HB5 : Hid (Below B W4 W5) := by unfold Hid; rw [hB]; exact hb5
  have HW5 := Lib.hid hW5
  have HBS : Hid (w1.heap.size + 1 = B) := by unfold Hid; rw [hB, hW4]; simp
  clear hb1 hok hed hown hE hW4 hb4 e4 hxb hB hLL hv hq HTC hd hdi hdl hde hds hW5 hb5 hA5 hr0
  go_wp2
  rw [← HW4.out, ← HW5.out, ← HXB.out]
  have hxs : xb + 1 = B := by have h1 := HXB.out; have h2 := HBS.out; omega
  try rw [hxs]
  clear hxs
  go_loopw [8, 9] (fun v8 v9 wr => ∃ (i : Nat) (ns : List (TNode × Value)), v9 = .int .i64 i ∧ TCome d q i ∧ ns.map Prod.fst = trAt d q i ∧ ns.length ≤ 600 ∧ i ≤ ns.length ∧ Below B W4 wr ∧ OwnAll B wr v8 ns) (fun _ v9 _ => 1000 - (intOf v9).toNat)
  case atStart => exact ⟨0, [(⟨0, []⟩, .slice none 0 0)], rfl, TCome.zero d q, rfl, by simp, by simp, HB5.out, HA5.out⟩
  case round =>
   clear HA5 HB5
   obtain ⟨i, ns, rfl, hcome, hfst, hn600, hin, hbl, ha⟩ := hrel
   obtain ⟨wC, rfl⟩ : ∃ wC : World, wC = wr := ⟨_, rfl⟩
   have HCO := Lib.hid hcome
   have HFS := Lib.hid hfst
   have HBL := Lib.hid hbl
   have HA := Lib.hid ha
   have hnl : ns.length = (trAt d q i).length := by rw [← hfst, List.length_map]
   have hszB : B ≤ wC.heap.size := by have := hbl.size; rw [← HBB.out] at this; exact this
   obtain ⟨va, vc, rfl, -, -⟩ := owns_slice ha.all
   obtain ⟨N, hN⟩ : ∃ N, N = ns.length := ⟨_, rfl⟩
   rw [← hN] at hn600 hin hnl
   have HN := Lib.hid hN
   have HNL := Lib.hid hnl
   have HXC := Lib.hid (HX4.out.belowB hbl hxbB)
   clear hcome hfst hbl hN hnl
   by_cases hlt : i < N
   ·by_cases h200 : N ≤ 200
    ·have hilt : i < ns.length := by rw [← HN.out]; exact hlt
     obtain ⟨b, c, hvv, hbB, hbw, c0, c1, c2⟩ := ha.cells hilt
     rw [← HN.out] at ha hvv HA ⊢
     simp only [Value.slice.injEq, true_and] at hvv
     obtain ⟨rfl, rfl⟩ := hvv
     have hrowi := ha.row hilt
     obtain ⟨pt, hpt⟩ : ∃ pt, pt = ns[i] := ⟨_, rfl⟩
     rw [← hpt] at c0 c2 hrowi
     obtain ⟨p, tv⟩ := pt
     simp only at c0 c1 c2 hrowi
     have hpi : (trAt d q i)[i]? = some p := by
      rw [← HFS.out, List.getElem?_map, List.getElem?_eq_getElem hilt, ← hpt]
      rfl
     have HPI := Lib.hid hpi
     have hpg := TGood.at (d := d) HR0.out.1 hd1 (fun e he => (HDE.out e he).2) i p (List.mem_of_getElem? hpi)
     have hpa0 := hpg.at0
     have hpa1 := hpg.at1
     have hplen := hpg.len
     obtain ⟨ta, tc, rfl, -, -⟩ := owns_slice hrowi
     obtain ⟨TL, hTL⟩ : ∃ TL, TL = p.tr.length := ⟨_, rfl⟩
     rw [← hTL] at c2 hrowi hplen
     have HTL := Lib.hid hTL
     -- the box of p
     obtain ⟨wP, hwP⟩ : ∃ wP, wP = wC.alloc (.cells #[.int .i64 p.at_, .int .i64 0, .slice ta TL tc] 120) := ⟨_, rfl⟩
     have hbP : Below wC.heap.size wC wP := by rw [hwP]; exact (Below.refl _ _).alloc (Nat.le_refl _) _
     obtain ⟨pb, hpb⟩ : ∃ pb, pb = wC.heap.size := ⟨_, rfl⟩
     have hXP : Blk wP pb [.int .i64 p.at_, .int .i64 0, .slice ta TL tc] 120 := by rw [hwP, hpb]; exact Blk.new wC _ _
     have HXP := Lib.hid hXP
     have HAP := Lib.hid (ha.below hbP)
     have HBP := Lib.hid (HBL.out.trans (hbP.mono hszB))
     have HWP := Lib.hid hwP
     have HPB := Lib.hid hpb
     have hpbB : B ≤ pb := by rw [hpb]; exact hszB
     have hpbl := hXP.lt
     have HXCP := Lib.hid (HXC.out.below hbP)
     have hrow2 := Lib.hid (owns_below hrowi hbP)
     by_cases hen : (TL : Int) = q
     ·have HNX : Hid (trAt d q (i + 1) = trAt d q i) := by
       unfold Hid
       rw [trAt_succ HPI.out]
       unfold trow
       rw [← HTL.out, if_pos hen]
       simp
      have hpos : ((TL : Int) == q) = true := by rw [beq_iff_eq]; exact hen
      have HSL := Lib.hid hilt
      clear hpi hpg hTL hbP hXP hwP hpb hrowi hen
      go_wp2
      rw [← HWP.out]
      go_roundw
      case rel => exact ⟨i + 1, ns, by go_num, HCO.out.succ (by rw [← HFS.out, List.length_map]; exact HSL.out), by rw [HNX.out]; exact HFS.out, by rw [← HN.out]; exact hn600, by rw [← HN.out]; omega, HBP.out, HAP.out⟩
      case measure => simp [intOf]; omega
     ·have hneg : ((TL : Int) == q) = false := by rw [beq_eq_false_iff_ne]; exact hen
      have HROW : Hid (trow d q p = (outOf d p.at_).map (tnew d p)) := by unfold Hid trow; rw [← HTL.out, if_neg hen]
      have HHI : Hid (ns[i]? = some (p, .slice ta TL tc)) := by unfold Hid; rw [List.getElem?_eq_getElem hilt, ← hpt, HTL.out]
      have hedP := owns_below HED.out (HBP.out |> fun h => by rw [HBB.out] at h; exact h)
      have HLBP := Lib.hid (owns_below HLB.out (HBP.out |> fun h => by rw [HBB.out] at h; exact h))
      have HSE : Hid (SliceK 3 encE W.heap.size wP (.slice ae2 E ce2) d.edges) := SliceK.of_owns (e := 93) encE_len HEE.out hedP
      have HOUT := Lib.hid (out_any W.heap.size d (.slice (some ⟨bl, 0, none⟩) LL cl2) (.slice ae2 E ce2) p.at_ wP (by have := HEE.out; omega) HSE.out)
      rw [HDI.out] at HOUT
      have q0 := HXCP.out.cell 0 rfl
      have q1 := HXCP.out.cell 1 rfl
      have q2 := HXCP.out.cell 2 rfl
      have q3 := HXCP.out.cell 3 rfl
      have hxbP := HXCP.out.lt
      rw [HWP.out] at q0 q1 q2 q3
      clear hpi hpg hTL hbP hXP hwP hpb hrowi hen hedP hpt hilt
      go_wp2_with fail
      rw [← HWP.out]
      refine Calls.mono HOUT.out ?_
      rintro e9 wO ⟨ov, rfl, hbO, hoO⟩
      obtain ⟨outs, houts⟩ : ∃ outs, outs = outOf d p.at_ := ⟨_, rfl⟩
      rw [← houts] at hoO HROW
      have HOUTS := Lib.hid houts
      obtain ⟨oa, oc, rfl, -, -⟩ := owns_slice hoO
      obtain ⟨O, hO⟩ : ∃ O, O = outs.length := ⟨_, rfl⟩
      have hO300 : O ≤ 300 := by
       rw [hO, houts]
       unfold outOf
       have h1 := List.length_filter_le (fun e : Edge => e.src == p.at_) d.edges
       have := HEE.out
       omega
      rw [← hO] at hoO ⊢
      have HO := Lib.hid hO
      have HBO := Lib.hid (HBP.out.trans (hbO.mono (by omega)))
      have HAO := Lib.hid (HAP.out.below hbO)
      have HOO := Lib.hid hoO
      have HXPO := Lib.hid (HXP.out.below hbO)
      have HXCO := Lib.hid (HXCP.out.below hbO)
      have HLBO := Lib.hid (owns_below HLBP.out hbO)
      have HTRO := Lib.hid (owns_below hrow2.out hbO)
      have hszP : pb < wP.heap.size := hpbl
      have hnep : some pb ≠ (Value.slice (some ⟨b, 0, none⟩) N vc).ownBlock := by
       intro e
       simp only [Value.ownBlock, Option.some.injEq] at e
       have := HPB.out
       omega
      have HBLO : Hid (wP.heap.size ≤ wO.heap.size) := hbO.size
      clear hbO hoO houts hO q0 q1 q2 q3 HOUT HSE HLBP hbw
      rw [← HPB.out]
      go_wp2
      go_loopw [8, 52] (fun v8 v52 wr => ∃ (j : Nat) (ms : List (TNode × Value)), v52 = .int .i64 j ∧ j ≤ O ∧ ms.map Prod.fst = trAt d q i ++ (outs.take j).map (tnew d p) ∧ ms.length = N + j ∧ ms[i]? = some (p, .slice ta TL tc) ∧ Below B W4 wr ∧ OwnAll B wr v8 ms ∧ some pb ≠ v8.ownBlock ∧ Blk wr pb [.int .i64 p.at_, .int .i64 0, .slice ta TL tc] 120 ∧ wr.ownsRow wP.heap.size 93 3 (.slice oa O oc) O (outs.flatMap encE)) (fun _ v52 _ => O - (intOf v52).toNat)
      case atStart => exact ⟨0, ns, rfl, Nat.zero_le _, by rw [List.take_zero, List.map_nil, List.append_nil]; exact HFS.out, by rw [← HN.out]; rfl, HHI.out, HBO.out, HAO.out, hnep, HXPO.out, HOO.out⟩
      case round =>
       clear HBO HAO HXPO HOO
       obtain ⟨j, ms, rfl, hj, hms, hml, hmi, hbl, ha, hne, hxp, hoo⟩ := hrel
       have HMI := Lib.hid hmi
       obtain ⟨wC, rfl⟩ : ∃ wC : World, wC = wr := ⟨_, rfl⟩
       have HMS := Lib.hid hms
       have HML := Lib.hid hml
       have HBL2 := Lib.hid hbl
       have HA2 := Lib.hid ha
       have HXP2 := Lib.hid hxp
       have HOO2 := Lib.hid hoo
       have hszC : B ≤ wC.heap.size := by have := hbl.size; rw [← HBB.out] at this; exact this
       obtain ⟨ma, mc, rfl, -, -⟩ := owns_slice ha.all
       obtain ⟨M, hM⟩ : ∃ M, M = ms.length := ⟨_, rfl⟩
       rw [← hM] at HA2 ha hne hml ⊢
       have HM := Lib.hid hM
       by_cases hltj : j < O
       ·have hjo : j < outs.length := by rw [← HO.out]; exact hltj
        obtain ⟨be, hoa, hbe, e1, e2, e3⟩ := own_edge20 hoo HO.out hjo
        subst hoa
        have htk : (outs.take (j + 1)).map (tnew d p) = (outs.take j).map (tnew d p) ++ [tnew d p outs[j]] := by rw [List.take_succ_eq_append_getElem hjo, List.map_append]; rfl
        have hmem : outs[j] ∈ d.edges := by have h := List.getElem_mem hjo; generalize outs[j] = z at h ⊢; rw [HOUTS.out] at h; exact (List.mem_filter.1 h).1
        have hde := HDE.out _ hmem
        obtain ⟨x, hx⟩ : ∃ x, x = outs[j] := ⟨_, rfl⟩
        rw [← hx] at e1 e2 e3 hde htk
        have HTK := Lib.hid htk
        obtain ⟨lb, hlb⟩ : ∃ lb : Nat, (lb : Int) = x.lab := ⟨x.lab.toNat, by omega⟩
        rw [← hlb] at e2
        have hlbL : lb < LL := by have := HLL.out; omega
        have hlbI : (lb : Int) < (LL : Int) := by omega
        have hls : lb < d.labels.length := by rw [← HLL.out]; exact hlbL
        have HLBC := Lib.hid (owns_below HLB.out (by have h := hbl; rw [HBB.out] at h; exact h))
        have cl := HLBC.out.cellAt lb (by omega)
        rw [List.getElem?_map, List.getElem?_eq_getElem hls, Option.map_some] at cl
        obtain ⟨l, hl⟩ : ∃ l, l = d.labels[lb] := ⟨_, rfl⟩
        rw [← hl] at cl
        have HLA : Hid (labAt d x = l) := by
         unfold Hid labAt
         rw [List.getD_eq_getElem?_getD, show x.lab.toNat = lb from by omega, List.getElem?_eq_getElem hls, hl]
         rfl
        -- the box of e
        obtain ⟨WE, hWE⟩ : ∃ WE, WE = wC.alloc (.cells #[.int .i64 x.src, .int .i64 lb, .int .i64 x.dst] 93) := ⟨_, rfl⟩
        have hbE : Below wC.heap.size wC WE := by rw [hWE]; exact (Below.refl _ _).alloc (Nat.le_refl _) _
        obtain ⟨eb, heb⟩ : ∃ eb, eb = wC.heap.size := ⟨_, rfl⟩
        have hXE : Blk WE eb [.int .i64 x.src, .int .i64 lb, .int .i64 x.dst] 93 := by rw [hWE, heb]; exact Blk.new wC _ _
        have hXCE := (HX4.out.belowB HBL2.out hxbB).below hbE
        have hXPE := hxp.below hbE
        have hAE := ha.below hbE
        have hTRE : WE.ownsRow B 9 1 (.slice ta TL tc) TL (txts p.tr) := by
         obtain ⟨hil, hie⟩ := List.getElem?_eq_some_iff.1 hmi
         have h := ha.row hil
         rw [hie] at h
         simp only at h
         rw [← HTL.out] at h
         exact owns_below h hbE
        have hszE : wC.heap.size + 1 = WE.heap.size := by rw [hWE]; simp
        have hB0E : B ≤ WE.heap.size := by omega
        obtain ⟨GE, hGE⟩ : ∃ GE, GE = WE.heap.size := ⟨_, rfl⟩
        have hxbE := hXCE.lt
        have hpbE := hXPE.lt
        have hebE := hXE.lt
        have hblE : bl < WE.heap.size := by omega
        have clE := keeps hbE (show bl < wC.heap.size by omega) cl
        have HSW : Hid (∀ w', Below WE.heap.size WE w' → w'.cell? ⟨eb, 1, none⟩ = some (.int .i64 lb) ∧ w'.cell? ⟨eb, 2, none⟩ = some (.int .i64 x.dst) ∧ w'.cell? ⟨pb, 2, none⟩ = some (.slice ta TL tc) ∧ w'.cell? ⟨xb, 2, none⟩ = some (.slice (some ⟨bl, 0, none⟩) LL cl2) ∧ w'.cell? ⟨bl, lb, none⟩ = some (.string l)) := fun w' hb =>
         ⟨keeps hb hebE (hXE.cell 1 rfl), keeps hb hebE (hXE.cell 2 rfl), keeps hb hpbE (hXPE.cell 2 rfl), keeps hb hxbE (hXCE.cell 2 rfl), keeps hb hblE clE⟩
        have hD : Below WE.heap.size WE WE.drew := (Below.refl _ _).drew
        have hDA : ∀ o, Below WE.heap.size WE (WE.drew.alloc o) := fun o => hD.alloc (by simp) _
        have HD := Lib.hid hD
        have HDA := Lib.hid hDA
        have HCL : Hid (∀ w', Below WE.heap.size WE w' → Calls Tryz.prog 71 #[.slice ta TL tc] w' fun e w'' => ∃ v', e = .returned v' ∧ w''.ownsRow GE 9 1 v' TL (txts p.tr) ∧ Below w'.heap.size w' w'') := fun w' hb => by
         have h1 : SliceK 1 encS B w' (.slice ta TL tc) p.tr := SliceK.of_owns (e := 9) encS_len HTL.out (by rw [flat_encS]; exact owns_below hTRE hb)
         refine (CloneS_own B _ p.tr w' h1 (by have := HTL.out; omega)).mono ?_
         rintro e w'' ⟨v', rfl, ho, hb2⟩
         refine ⟨v', rfl, ?_, hb2⟩
         rw [HTL.out, hGE]
         exact own_lower ho hb.size
        have HAE := Lib.hid hAE
        have HXE2 := Lib.hid hXE
        have HXPE := Lib.hid hXPE
        have HXCE := Lib.hid hXCE
        have HLBE : Hid (WE.ownsRow W.heap.size 9 1 (.slice (some ⟨bl, 0, none⟩) LL cl2) LL (d.labels.map .string)) := owns_below HLBC.out hbE
        have HBE := Lib.hid (HBL2.out.trans (hbE.mono hszC))
        have HbE := Lib.hid hbE
        have HWE := Lib.hid hWE
        have HEB := Lib.hid heb
        have HGE := Lib.hid hGE
        have HEC : Hid (WE.heap.size = wC.heap.size + 1) := hszE.symm
        have HNE : Hid (some pb ≠ (Value.slice ma M mc).ownBlock) := hne
        have hM900 : M ≤ 900 := by omega
        obtain ⟨i1, hi1, hz10, hz11, hz12⟩ := info_parts info_strT
        obtain ⟨i2, hi2, hz20, hz21, hz22⟩ := info_parts info_pairT
        have hTL12 : TL ≤ 12 := by have := HR0.out.2; omega
        have HSZ : Hid (GE ≤ WE.heap.size ∧ wC.heap.size < WE.heap.size ∧ B ≤ WE.heap.size ∧ eb < WE.heap.size ∧ pb < WE.heap.size ∧ xb < WE.heap.size ∧ bl < WE.heap.size) := by unfold Hid; omega
        clear hms hml hmi hbl ha hne hxp hoo hM htk hmem hde hx hlb hls hl cl hWE hbE heb hXE hXCE hXPE hAE hTRE clE hDA hD hGE hszE
        go_wp2
        rw [← HWE.out, ← HEB.out]
        go_region_held3 (fun w' => w'.cell? ⟨eb, 1, none⟩ = some (.int .i64 lb) ∧ w'.cell? ⟨eb, 2, none⟩ = some (.int .i64 x.dst) ∧ w'.cell? ⟨pb, 2, none⟩ = some (.slice ta TL tc) ∧ w'.cell? ⟨xb, 2, none⟩ = some (.slice (some ⟨bl, 0, none⟩) LL cl2) ∧ w'.cell? ⟨bl, lb, none⟩ = some (.string l))
         (first
          | exact HSW.out _ HD.out
          | exact HSW.out _ (HDA.out _)
          | exact HSW.out _ hq9
          | exact HSW.out _ (hq9.alloc hs9 _)
          | exact HSW.out _ hq5
          | exact HSW.out _ (hq5.alloc hs5 _)
          | exact hS6
          | go_keep)
         (first
          | (go_at_call 71; refine Calls.mono (HCL.out _ (by first | exact HD.out | exact HDA.out _)) ?_; rintro e w9 ⟨cv, rfl, hoC, hbC⟩; have hq9 : Below WE.heap.size WE w9 := (by first | exact HD.out.trans (hbC.mono (by simp)) | exact (HDA.out _).trans (hbC.mono (by simp))); have hs9 := hq9.size; have HOC := Lib.hid hoC)
          | (refine step_append_lies _ (by rfl) _ _ 22 (by rfl) GE 9 i1 _ 1 16 Tryz.underlying22 hi1 hz10 hz11 hz12 rfl (by omega) cv TL (txts p.tr) (by rfl) (HOC.out.alloc _) ⟨w9.heap.size, 0, none⟩ 1 1 [.string l] (by rfl) (by rfl) (World.news_of_block (cs := #[.string l]) (t := 9) (fr := (0, 0)) (heap_alloc_new _ _)) (by simp [Value.oneCell']) (by omega) (by simp [maxLen]; omega) (by omega) (by have := HSZ.out; simp; omega) (w9.heap.size + 1) (by simp) ?_; intro gg1 cap1 w5 hown5 hgrow5 hat5 hlt5; have hq5 : Below WE.heap.size WE w5 := ((hq9.alloc hs9 _).grown hgrow5 (by simp; omega) (fun b e => by have := (HOC.out.lt b e).1; have := HSZ.out; have := HGE.out; omega)); have hs5 := hq5.size; have HO5 := Lib.hid hown5)
          | (refine step_append_lies _ (by rfl) _ _ 22 (by rfl) GE 9 i1 _ 1 16 Tryz.underlying22 hi1 hz10 hz11 hz12 rfl (by omega) cv TL (txts p.tr) (by rfl) HOC.out ⟨WE.heap.size, 0, none⟩ 1 1 [.string l] (by rfl) (by rfl) (World.news_of_block (cs := #[.string l]) (t := 9) (fr := (0, 0)) ((hbC.block WE.heap.size (by simp)).trans (heap_alloc_new WE.drew _))) (by simp [Value.oneCell']) (by omega) (by simp [maxLen]; omega) (by omega) (by have := HSZ.out; omega) w9.heap.size (by rfl) ?_; intro gg1 cap1 w5 hown5 hgrow5 hat5 hlt5; have hq5 : Below WE.heap.size WE w5 := (hq9.grown hgrow5 hs9 (fun b e => by have := (HOC.out.lt b e).1; have := HSZ.out; have := HGE.out; omega)); have hs5 := hq5.size; have HO5 := Lib.hid hown5)
          | (refine step_append_lies _ (by rfl) _ _ 121 (by rfl) B 120 i2 _ 3 40 Tryz.underlying121 hi2 hz20 hz21 hz22 rfl (by omega) (.slice ma M mc) M (ms.flatMap encN) (by rfl) (by have h := (HAE.out.below (hq5.alloc hs5 (.cells #[.int .i64 x.dst, .int .i64 0, .slice (some ⟨gg1, 0, none⟩) (TL + 1) cap1] 120))).all; rw [← HM.out] at h; exact h) ⟨w5.heap.size, 0, none⟩ 1 1 [.int .i64 x.dst, .int .i64 0, .slice (some ⟨gg1, 0, none⟩) (TL + 1) cap1] (by rfl) (by rfl) (World.news_of_block (cs := #[.int .i64 x.dst, .int .i64 0, .slice (some ⟨gg1, 0, none⟩) (TL + 1) cap1]) (t := 120) (fr := (0, 0)) (heap_alloc_new _ _)) (by simp [Value.oneCell']) (by omega) (by simp [maxLen]; omega) (by omega) (by have := HSZ.out; simp; omega) (w5.heap.size + 1) (by simp) ?_; intro gg2 cap2 w6 hown6 hgrow6 hat6 hlt6; have hqA : Below WE.heap.size WE (w5.alloc (.cells #[.int .i64 x.dst, .int .i64 0, .slice (some ⟨gg1, 0, none⟩) (TL + 1) cap1] 120)) := hq5.alloc hs5 _; have HQA := Lib.hid hqA; have hAl := (HAE.out.below hqA).all; have hz : w5.heap.size + 1 = (w5.alloc (.cells #[.int .i64 x.dst, .int .i64 0, .slice (some ⟨gg1, 0, none⟩) (TL + 1) cap1] 120)).heap.size := (by simp); rw [← HM.out] at hAl; have ne1 := blk_own_ne' (HXE2.out.below hqA) hAl (by decide); have ne3 := blk_own_ne' (HXCE.out.below hqA) hAl (by decide); have ne4 : some bl ≠ (Value.slice ma M mc).ownBlock := (own_types (owns_below HLBE.out hqA) hAl (by decide)).elim (fun h => by simp [Value.ownBlock] at h) (fun h => h); have hsA := HSW.out _ hqA; have hS6 : w6.cell? ⟨eb, 1, none⟩ = some (.int .i64 lb) ∧ w6.cell? ⟨eb, 2, none⟩ = some (.int .i64 x.dst) ∧ w6.cell? ⟨pb, 2, none⟩ = some (.slice ta TL tc) ∧ w6.cell? ⟨xb, 2, none⟩ = some (.slice (some ⟨bl, 0, none⟩) LL cl2) ∧ w6.cell? ⟨bl, lb, none⟩ = some (.string l) := ⟨(hgrow6.cell_far ⟨eb, 1, none⟩ (by have := HSZ.out; simp; omega) ne1).trans hsA.1, (hgrow6.cell_far ⟨eb, 2, none⟩ (by have := HSZ.out; simp; omega) ne1).trans hsA.2.1, (hgrow6.cell_far ⟨pb, 2, none⟩ (by have := HSZ.out; simp; omega) HNE.out).trans hsA.2.2.1, (hgrow6.cell_far ⟨xb, 2, none⟩ (by have := HSZ.out; simp; omega) ne3).trans hsA.2.2.2.1, (hgrow6.cell_far ⟨bl, lb, none⟩ (by have := HSZ.out; simp; omega) ne4).trans hsA.2.2.2.2⟩))
        all_goals (
         have hw9s := hs5
         have HPU : Hid (OwnAll B w6 (.slice (some ⟨gg2, 0, none⟩) (M + 1) cap2) (ms ++ [(tnew d p x, .slice (some ⟨gg1, 0, none⟩) (TL + 1) cap1)])) := by
          refine OwnAll.push (GE := GE) HA2.out (by have := HGE.out; have := HEC.out; omega) (by have := HSZ.out; have := HGE.out; omega) (HbE.out.trans (HQA.out.mono (by have := HEC.out; omega))) ?_ hgrow6 ?_
          ·have h := HO5.out.alloc (.cells #[.int .i64 x.dst, .int .i64 0, .slice (some ⟨gg1, 0, none⟩) (TL + 1) cap1] 120)
           show World.ownsRow _ GE _ 1 _ (p.tr ++ [labAt d x]).length (txts (p.tr ++ [labAt d x]))
           rw [HLA.out, List.length_append, ← HTL.out]
           simpa [txts] using h
          ·rw [← HM.out]; exact hown6
         have hqS := HQA.out.size
         have HBF : Hid (Below B W4 w6) := (HBE.out.trans (HQA.out.mono (by have := HSZ.out; omega))).grown hgrow6 (by have := HSZ.out; omega) (fun b e => (hAl.lt b e).1)
         have HXF : Hid (Blk w6 pb [.int .i64 p.at_, .int .i64 0, .slice ta TL tc] 120) := (hgrow6.block pb (by have := HSZ.out; omega) HNE.out).trans (HXPE.out.below HQA.out)
         have HOF : Hid (w6.ownsRow wP.heap.size 93 3 (.slice (some ⟨be, 0, none⟩) O oc) O (outs.flatMap encE)) := (owns_below (owns_below HOO2.out HbE.out) HQA.out).kept hgrow6 (own_types (owns_below (owns_below HOO2.out HbE.out) HQA.out) hAl (by decide))
         have HNF : Hid (some pb ≠ (Value.slice (some ⟨gg2, 0, none⟩) (M + 1) cap2).ownBlock) := by
          intro e
          simp only [Value.ownBlock, Option.some.injEq] at e
          rcases hat6 with h | h
          ·exact HNE.out (by rw [h, e])
          ·have := HSZ.out; omega
         obtain ⟨vN, hvN⟩ : ∃ vN, vN = Value.slice (some ⟨gg2, 0, none⟩) (M + 1) cap2 := ⟨_, rfl⟩
         rw [← hvN] at HPU HNF ⊢
         clear hown6 hgrow6 hat6 hlt6 hAl ne1 ne3 ne4 hsA hS6 hown5 hgrow5 hat5 hlt5 hoC hbC hq9 hs9 hq5 hs5 hqA hz hvN hqS hw9s
         go_wp2
         go_roundw
         case rel =>
          refine ⟨j + 1, _, by go_num, by omega, ?_, ?_, ?_, HBF.out, HPU.out, HNF.out, HXF.out, HOF.out⟩
          ·rw [List.map_append, HMS.out, HTK.out, List.append_assoc]; rfl
          ·rw [List.length_append, HML.out]; simp; omega
          ·rw [List.getElem?_append_left (List.getElem?_eq_some_iff.1 HMI.out).1]; exact HMI.out
         case measure => simp [intOf]; omega)
       ·have hjO : j = O := by omega
        have HNX : Hid (trAt d q (i + 1) = ms.map Prod.fst) := by
         unfold Hid
         rw [trAt_succ HPI.out, HROW.out, HMS.out, hjO, HO.out, List.take_length]
        have HSU : Hid (TCome d q (i + 1)) := HCO.out.succ (by have := HNL.out; omega)
        have HLN : Hid (ms.length ≤ 600 ∧ i + 1 ≤ ms.length) := by unfold Hid; rw [HML.out]; omega
        clear hms hml hmi hbl ha hne hxp hoo hM
        go_wp2
        go_roundw
        case rel => exact ⟨i + 1, ms, by go_num, HSU.out, HNX.out.symm, HLN.out.1, HLN.out.2, HBL2.out, by have h := HA2.out; exact h⟩
        case measure => simp [intOf]; omega
    ·have HFU : Hid (TFull d q) := ⟨i, HCO.out, by have := HNL.out; omega⟩
     have HBF := Lib.hid (HBW.out.trans (HBL.out.mono (by rw [HBB.out]; exact HBW.out.size)))
     rw [← HN.out]
     clear ha
     go_wp2
     go_ret2
     exact trc_none HBF.out (.inr (.inr (.inr ⟨HV.out, HR0.out, st, HOK.out, .inl ⟨by rw [← HD.out]; exact HFU.out, rfl, rfl⟩⟩)))
   ·by_cases h200 : N ≤ 200
    ·have HFO : Hid (TFound d q (trAt d q i)) := TFound.of HCO.out (by have := HNL.out; omega) (by have := HNL.out; omega)
     have HBF := Lib.hid (HBW.out.trans (HBL.out.mono (by rw [HBB.out]; exact HBW.out.size)))
     rw [← HN.out] at ha HA ⊢
     obtain ⟨i3, hi3, hz30, hz31, hz32⟩ := info_parts info_strsT
     clear ha
     go_wp2
     go_loopw [13, 79] (fun v13 v79 wr => ∃ k : Nat, v79 = .int .i64 k ∧ k ≤ N ∧ Below wC.heap.size wC wr ∧ wr.ownsRow wC.heap.size 22 1 v13 k ((ns.take k).map Prod.snd)) (fun _ v79 _ => N - (intOf v79).toNat)
     case atStart => exact ⟨0, rfl, Nat.zero_le _, Below.refl _ _, World.ownsRow_nil _ _ _ _⟩
     case round =>
      obtain ⟨k, rfl, hk, hb3, ho3⟩ := hrel
      have HB6 := Lib.hid hb3
      have HO3 := Lib.hid ho3
      by_cases hkN : k < N
      ·have hkn : k < ns.length := by rw [← HN.out]; exact hkN
       obtain ⟨b, c, hvv, hbB, hbw, c0, c1, c2⟩ := (HA.out.below hb3).cells hkn
       rw [← HN.out] at hvv
       simp only [Value.slice.injEq, true_and] at hvv
       obtain ⟨rfl, rfl⟩ := hvv
       have hms := map_snd_take hkn
       obtain ⟨pt, hpt⟩ : ∃ pt, pt = ns[k] := ⟨_, rfl⟩
       rw [← hpt] at c0 c2 hms
       obtain ⟨p, tv⟩ := pt
       simp only at c0 c2 hms
       have hrowk := (HA.out.below hb3).row hkn
       rw [← hpt] at hrowk
       simp only at hrowk
       obtain ⟨ta, tc, rfl, -, -⟩ := owns_slice hrowk
       obtain ⟨TL, hTL⟩ : ∃ TL, TL = p.tr.length := ⟨_, rfl⟩
       rw [← hTL] at c2 hms
       have HMS := Lib.hid hms
       obtain ⟨wP, hwP⟩ : ∃ wP, wP = wr.alloc (.cells #[.int .i64 p.at_, .int .i64 0, .slice ta TL tc] 120) := ⟨_, rfl⟩
       have hbP : Below wr.heap.size wr wP := by rw [hwP]; exact (Below.refl _ _).alloc (Nat.le_refl _) _
       have HOP := Lib.hid (owns_below ho3 hbP)
       have HBP := Lib.hid (HB6.out.trans (hbP.mono HB6.out.size))
       have HWP := Lib.hid hwP
       have hsP : wC.heap.size ≤ wP.heap.size := HBP.out.size
       have hzP : wP.heap.size = wr.heap.size + 1 := by rw [hwP]; simp
       have HZP := Lib.hid hzP
       clear hms hpt hrowk hTL hwP hbP hb3 ho3 hzP
       go_wp2_with (at_builtin; refine wpList_append_own _ rfl _ _ 42 rfl wC.heap.size 22 i3 (.slice none 0 0) 1 24 Tryz.underlying42 hi3 hz30 hz31 hz32 rfl (by decide) _ k _ rfl (by rw [← HWP.out]; exact HOP.out.alloc _) ⟨wr.heap.size + 1, 0, none⟩ 1 1 [.slice ta TL tc] rfl rfl ?c1 ?c2 ?c3 ?c4 ?c5 ?_)
       case c1 => rw [← HWP.out, ← HZP.out]; exact World.news_of_block (cs := #[.slice ta TL tc]) (t := 22) (fr := (0, 0)) (heap_alloc_new _ _)
       case c2 => intro u hu; simp at hu; subst hu; rfl
       case c3 => simp [maxLen]; omega
       case c4 => omega
       case c5 => rw [← HWP.out]; simp; omega
       intro v' w9 ho9 hg9 _
       rw [← HWP.out] at hg9
       have HB9 : Hid (Below wC.heap.size wC w9) := (HBP.out.alloc hsP _).grown hg9 (by simp; omega) (fun b e => (HO3.out.lt b e).1)
       have HO9 : Hid (w9.ownsRow wC.heap.size 22 1 v' (k + 1) ((ns.take (k + 1)).map Prod.snd)) := by unfold Hid; rw [HMS.out]; simpa only [List.map_take] using ho9
       clear ho9 hg9
       go_wp2
       go_roundw
       case rel => exact ⟨k + 1, by go_num, by omega, HB9.out, HO9.out⟩
       case measure => simp [intOf]; omega
      ·have hkN2 : k = N := by omega
       have HAF := Lib.hid (HA.out.below hb3)
       have HXS : Hid ((ns.map fun p => txts p.1.tr) = ((trAt d q i).map TNode.tr).map txts) := by
        unfold Hid
        rw [← HFS.out, List.map_map, List.map_map]
        rfl
       clear hb3 ho3
       go_wp2
       go_ret2
       have hsz0 : w.heap.size ≤ B := by rw [HBB.out]; exact HBW.out.size
       refine ⟨HBF.out.trans (HB6.out.mono HBF.out.size), (trAt d q i).map TNode.tr, 0, _, ns.map Prod.snd, rfl, .inr (.inr (.inr ⟨HV.out, HR0.out, st, HOK.out, .inr ⟨trAt d q i, by rw [← HD.out]; exact HFO.out, rfl, rfl⟩⟩)), ⟨?_, ?_⟩⟩
       ·have h := own_lower HO3.out HBF.out.size
        rw [hkN2, HN.out, List.take_length] at h
        rw [List.length_map]
        exact h
       ·rw [← HXS.out]
        exact HAF.out.rows.lower hsz0
    ·have HFU : Hid (TFull d q) := ⟨i, HCO.out, by have := HNL.out; omega⟩
     have HBF := Lib.hid (HBW.out.trans (HBL.out.mono (by rw [HBB.out]; exact HBW.out.size)))
     rw [← HN.out]
     clear ha
     go_wp2
     go_ret2
     exact trc_none HBF.out (.inr (.inr (.inr ⟨HV.out, HR0.out, st, HOK.out, .inl ⟨by rw [← HD.out]; exact HFU.out, rfl, rfl⟩⟩)))

end Go.Proofs.YtkbgncenjfebdaaGreatDoor

namespace Go.Proofs.YtkbgncenjfebdaaGreatDoor
open Go Go.RowKit

theorem sl_cases2 {t : Lts} {ins : List ByteArray} {w w' : World} {e : Ending} (h : RetSl t ins w e w') : Below w.heap.size w w' ∧ ((∃ la lc ea ec code, (code = 1 ∨ code = 5) ∧ e = .returned (.tuple #[.agg #[.int .i64 0, .int .i64 0, .slice la 0 lc, .slice ea 0 ec], .int .i64 code]) ∧ ((¬ IfOk t ins ∧ code = 1) ∨ (IfOk t ins ∧ ¬ Valid (susT t ins) ∧ code = 5)))
  ∨ (IfOk t ins ∧ Valid (susT t ins) ∧ ∃ la lc ea ec, e = .returned (.tuple #[.agg #[.int .i64 (susT t ins).states, .int .i64 (susT t ins).initial, .slice la (susT t ins).labels.length lc, .slice ea (susT t ins).edges.length ec], .int .i64 0]) ∧ OwnLts w.heap.size w' (.slice la (susT t ins).labels.length lc) (.slice ea (susT t ins).edges.length ec) (susT t ins))) := by
 obtain ⟨hb, d, code, lv, ev, rfl, hsl, hol⟩ := h
 refine ⟨hb, ?_⟩
 obtain ⟨la, lc, rfl, -, -⟩ := owns_slice hol.1
 obtain ⟨ea, ec, rfl, -, -⟩ := owns_slice hol.2
 rcases hsl with ⟨h1, rfl, rfl⟩ | ⟨h1, h2, rfl, rfl⟩ | ⟨h1, h2, rfl, rfl⟩
 ·exact .inl ⟨la, lc, ea, ec, 1, .inl rfl, rfl, .inl ⟨h1, rfl⟩⟩
 ·exact .inl ⟨la, lc, ea, ec, 5, .inr rfl, rfl, .inr ⟨h1, h2, rfl⟩⟩
 ·exact .inr ⟨h1, h2, la, lc, ea, ec, rfl, hol⟩

set_option maxRecDepth 100000 in
set_option maxHeartbeats 4000000 in
theorem implTestsOf_any (lo : Nat) (t : Lts) (lv ev v : Value) (ins : List ByteArray) (q : Int) (w : World) (hsh : Short20 t.labels) (hsi : Short20 ins) (hl : SliceK 1 encS lo w lv t.labels) (he : SliceK 3 encE lo w ev t.edges) (hi : SliceK 1 encS lo w v ins) (g : Glob w) :
  Calls Tryz.prog 24 #[.agg #[.int .i64 t.states, .int .i64 t.initial, lv, ev], v, .int .i64 q] w (RetTs t ins q w) := by
 obtain ⟨tb, htb⟩ : ∃ tb, tb = w.heap.size := ⟨_, rfl⟩
 obtain ⟨wA, hwA⟩ : ∃ wA, wA = w.alloc (.cells #[.int .i64 t.states, .int .i64 t.initial, lv, ev] 30) := ⟨_, rfl⟩
 have hbA : Below w.heap.size w wA := by rw [hwA]; exact (Below.refl _ _).alloc (Nat.le_refl _) _
 have hT : Blk wA tb [.int .i64 t.states, .int .i64 t.initial, lv, ev] 30 := by rw [hwA, htb]; exact Blk.new w _ _
 have HVI := ValidInterface_any lo t lv ev v ins wA hsh hsi (hl.below hbA) (he.below hbA) (hi.below hbA) (g.below hbA)
 have HSL := Lib.hid (fun w' (hb : Below wA.heap.size wA w') => SuspensionLts_any lo t lv ev v ins w' hsh hsi ((hl.below hbA).below hb) ((he.below hbA).below hb) ((hi.below hbA).below hb) ((g.below hbA).below hb))
 have HSH := Lib.hid hsh
 have HG := Lib.hid (g.below hbA)
 have HBA := Lib.hid hbA
 have HT := Lib.hid hT
 have HWA := Lib.hid hwA
 have HTB := Lib.hid htb
 have hsW : w.heap.size ≤ wA.heap.size := hbA.size
 clear hsh hsi hl he hi g hbA hT hwA htb
 by_cases hif : IfOk t ins
 ·have HIF := Lib.hid hif
  have HVA := Lib.hid (Decides.yes HVI hif)
  clear hif HVI
  cases hr : inB q 0 8
  ·have HRG : Hid (¬ (0 ≤ q ∧ q ≤ 8)) := by unfold inB at hr; simp only [Bool.and_eq_false_iff, decide_eq_false_iff_not] at hr; unfold Hid; omega
   have HI := Lib.hid (fun w' => within_is hr w')
   clear hr
   go_enter Tryz.func24, Tryz.ntmps24
   go_wp2_with fail
   rw [← HWA.out]
   refine Calls.mono HVA.out ?_
   rintro e w1 ⟨rfl, hb1⟩
   have HB1 := Lib.hid hb1
   clear hb1 HVA
   go_wp2_with fail
   refine Calls.mono (HI.out _) ?_
   rintro e w2 ⟨rfl, rfl⟩
   go_wp2
   go_ret2
   exact ts_none (HBA.out.trans (HB1.out.mono hsW)) (.inr (.inl ⟨HIF.out, HRG.out, rfl, rfl⟩))
  ·have HRG : Hid (0 ≤ q ∧ q ≤ 8) := by unfold inB at hr; simp only [Bool.and_eq_true, decide_eq_true_eq] at hr; unfold Hid; omega
   have HI := Lib.hid (fun w' => within_is hr w')
   clear hr
   go_enter Tryz.func24, Tryz.ntmps24
   go_wp2_with fail
   rw [← HWA.out]
   refine Calls.mono HVA.out ?_
   rintro e w1 ⟨rfl, hb1⟩
   have HB1 := Lib.hid hb1
   have HT1 := Lib.hid (HT.out.below hb1)
   have t0 := HT1.out.cell 0 rfl
   have t1 := HT1.out.cell 1 rfl
   have t2 := HT1.out.cell 2 rfl
   have t3 := HT1.out.cell 3 rfl
   have HSL1 := Lib.hid (HSL.out w1 hb1)
   clear hb1 HVA HSL
   rw [← HTB.out]
   go_wp2_with fail
   refine Calls.mono (HI.out _) ?_
   rintro e w2 ⟨rfl, rfl⟩
   go_wp2_with fail
   refine Calls.mono HSL1.out ?_
   rintro e w2 hret
   obtain ⟨hb2, ⟨la, lc, ea, ec, code, hcode, rfl, hsa⟩ | ⟨hif2, hv, la, lc, ea, ec, rfl, hol⟩⟩ := sl_cases2 hret
   ·have hnv : Hid (¬ Valid (susT t ins)) ∧ code = 5 := by
     rcases hsa with ⟨h, -⟩ | ⟨-, h, h5⟩
     ·exact absurd HIF.out h
     ·exact ⟨h, h5⟩
    obtain ⟨HNV, rfl⟩ := hnv
    have HB4 := Lib.hid (HB1.out.trans ((hb2.trans ((Below.refl w2.heap.size w2).alloc (Nat.le_refl _) (.cells #[.int .i64 0, .int .i64 0, .slice la 0 lc, .slice ea 0 ec] 30) |>.mono hb2.size)).mono HB1.out.size))
    clear hret hsa hb2 t0 t1 t2 t3 HSL1 hcode
    go_wp2
    go_ret2
    exact ts_none (HBA.out.trans (HB4.out.mono hsW)) (.inr (.inr (.inl ⟨HIF.out, HRG.out, HNV.out, rfl, rfl⟩)))
   ·have HV := Lib.hid hv
    clear hret hif2
    obtain ⟨LN, hLN⟩ : ∃ LN, LN = (susT t ins).labels.length := ⟨_, rfl⟩
    obtain ⟨EN, hEN⟩ : ∃ EN, EN = (susT t ins).edges.length := ⟨_, rfl⟩
    have HDL : Hid (∀ w', Below w2.heap.size w2 w' → Calls Tryz.prog 61 #[.agg #[.int .i64 t.states, .int .i64 t.initial, .slice la (susT t ins).labels.length lc, .slice ea (susT t ins).edges.length ec], .int .i64 q] w' (RetTrc (susT t ins) q w')) := fun w' hb =>
     implTracesOf_any w1.heap.size (susT t ins) (.slice la (susT t ins).labels.length lc) (.slice ea (susT t ins).edges.length ec) q w' (susL_short HSH.out) ((SliceK.of_owns (enc := encS) (e := 9) encS_len rfl (by rw [flat_encS]; exact hol.1)).below hb) ((SliceK.of_owns (enc := encE) (e := 93) encE_len rfl hol.2).below hb) (HG.out.below (HB1.out.trans ((hb2.trans (hb.mono hb2.size)).mono HB1.out.size)))
    have hst : (susT t ins).states = t.states := rfl
    have hin : (susT t ins).initial = t.initial := rfl
    rw [← hLN, ← hEN] at HDL
    rw [← hLN, ← hEN, hst, hin]
    obtain ⟨W3, hW3⟩ : ∃ W3, W3 = w2.alloc (.cells #[.int .i64 t.states, .int .i64 t.initial, .slice la LN lc, .slice ea EN ec] 30) := ⟨_, rfl⟩
    have hb4 : Below w2.heap.size w2 W3 := by rw [hW3]; exact (Below.refl _ _).alloc (Nat.le_refl _) _
    have hX : Blk W3 w2.heap.size [.int .i64 t.states, .int .i64 t.initial, .slice la LN lc, .slice ea EN ec] 30 := by rw [hW3]; exact Blk.new _ _ _
    have HD := Lib.hid (HDL.out W3 hb4)
    have HB4 := Lib.hid (HB1.out.trans ((hb2.trans (hb4.mono hb2.size)).mono HB1.out.size))
    have HW3 := Lib.hid hW3
    have x0 := hX.cell 0 rfl
    have x1 := hX.cell 1 rfl
    have x2 := hX.cell 2 rfl
    have x3 := hX.cell 3 rfl
    rw [hW3] at x0 x1 x2 x3
    clear hv hol hst hin hLN hEN hb2 hb4 hX hW3 HDL HSL1 t0 t1 t2 t3
    go_wp2_with fail
    rw [← HW3.out]
    refine Calls.mono HD.out ?_
    rintro e w3 ⟨hb3, xss, code, v3, vs, rfl, hti, hos⟩
    have HTI := Lib.hid hti
    have HB5 := Lib.hid (HBA.out.trans ((HB4.out.trans (hb3.mono HB4.out.size)).mono hsW))
    have HOS := Lib.hid (hos.lower (Nat.le_trans hsW HB4.out.size))
    obtain ⟨sa3, sc3, rfl, -, -⟩ := owns_slice hos.out
    clear hb3 hti hos x0 x1 x2 x3 HD
    go_wp2
    go_ret2
    exact ⟨HB5.out, xss, code, _, vs, rfl, .inr (.inr (.inr ⟨HIF.out, HRG.out, HV.out, HTI.out⟩)), HOS.out⟩
 ·have HIF := Lib.hid hif
  have HVA := Lib.hid (Decides.no HVI hif)
  clear hif HVI
  go_enter Tryz.func24, Tryz.ntmps24
  go_wp2_with fail
  rw [← HWA.out]
  refine Calls.mono HVA.out ?_
  rintro e w1 ⟨rfl, hb1⟩
  have HB1 := Lib.hid hb1
  clear hb1 HVA
  go_wp2
  go_ret2
  exact ts_none (HBA.out.trans (HB1.out.mono hsW)) (.inl ⟨HIF.out, rfl, rfl⟩)

end Go.Proofs.YtkbgncenjfebdaaGreatDoor

namespace Go.Proofs.YtkbgncenjfebdaaGreatDoor
open Go Go.RowKit

theorem szS_fit (ss : List ByteArray) (left : Int) (h0 : 0 ≤ left) (h : 0 ≤ szS ss left) : ∀ s ∈ ss, (s.size : Int) ≤ left := by
 induction ss generalizing left with
 | nil => intro s hs; cases hs
 | cons a r ih =>
  unfold szS at h
  split at h
  ·omega
  ·next hl =>
   intro s hs
   rcases List.mem_cons.1 hs with rfl | hs
   ·omega
   ·have := ih (left - a.size) (by omega) h s hs
    omega
theorem szL_fit {t : Lts} {left : Int} (_h0 : 0 ≤ left) (h : 0 ≤ szL t left) : (t.labels.length : Int) ≤ left ∧ (t.edges.length : Int) ≤ left ∧ (∀ s ∈ t.labels, (s.size : Int) ≤ left) ∧ szL t left ≤ left := by
 unfold szL at h ⊢
 split at h
 ·omega
 ·next h1 =>
  rw [if_neg h1]
  split at h
  ·omega
  ·next h2 =>
   rw [if_neg h2]
   have h3 : ¬ left - t.labels.length < 0 := by
    intro e
    rw [szSS_neg e] at h1
    omega
   rw [szSS_pos h3] at h1 h2 h ⊢
   have h4 := szS_lt t.labels (left - t.labels.length) (by omega)
   have h5 : ¬ szS t.labels (left - t.labels.length) - t.edges.length < 0 := by
    intro e
    rw [szN_neg e] at h2
    omega
   rw [szN_pos h5] at h ⊢
   refine ⟨by omega, by omega, fun s hs => ?_, by omega⟩
   have := szS_fit t.labels (left - t.labels.length) (by omega) (by omega) s hs
   omega

end Go.Proofs.YtkbgncenjfebdaaGreatDoor

namespace Go.Proofs.YtkbgncenjfebdaaGreatDoor
open Go Go.RowKit

theorem szSS_fit {ss : List ByteArray} {left : Int} (h1 : left ≤ 1048576) (h : 0 ≤ szSS ss left) : (ss.length : Int) ≤ 1048576 ∧ ∀ s ∈ ss, (s.size : Int) ≤ 1048576 := by
 have h3 : ¬ left - ss.length < 0 := by
  intro e
  rw [szSS_neg e] at h
  omega
 rw [szSS_pos h3] at h
 refine ⟨by omega, fun s hs => ?_⟩
 have := szS_fit ss (left - ss.length) (by omega) h s hs
 omega
theorem turns_one {w w' : World} {b : Nat} (h : w.grownBy w' (some b)) : Turns b (b + 1) w w' := ⟨h.os, h.tape, h.output, h.size, fun k hk hne => h.block k hk (by intro e; simp at e; omega)⟩

end Go.Proofs.YtkbgncenjfebdaaGreatDoor

namespace Go.Proofs.YtkbgncenjfebdaaGreatDoor
open Go Go.RowKit

set_option maxRecDepth 100000 in
set_option maxHeartbeats 400000 in
theorem markStringS_any (lo hi b n cap : Nat) (cs : List Value) (k : Int) (w : World) (h1 : 0 ≤ k) (h2 : k + n ≤ 1000000000) (hb1 : lo ≤ b) (hb2 : b < hi) (hv : w.ownsRow lo 9 1 (.slice (some ⟨b, 0, none⟩) n cap) n cs) :
  Calls Tryz.prog 19 #[.slice (some ⟨b, 0, none⟩) n cap, .int .i64 k] w (MarkedIn lo hi w (k + n)) := by
 have HV := Lib.hid hv
 clear hv
 go_enter Tryz.func19, Tryz.ntmps19
 go_wp2
 go_loopw [1, 5] (fun q i wr => ∃ (j : Nat) (cs : List Value), j ≤ n ∧ q = .int .i64 (k + j) ∧ i = .int .i64 j ∧ Turns lo hi w wr ∧ wr.ownsRow lo 9 1 (.slice (some ⟨b, 0, none⟩) n cap) n cs) (fun _ i _ => n - (intOf i).toNat)
 case atStart => exact ⟨0, cs, Nat.zero_le _, by simp, rfl, turns_refl _ _ _, HV.out⟩
 case round =>
  obtain ⟨j, cs, hj, rfl, rfl, hg, ho⟩ := hrel
  have HG := Lib.hid hg
  have HO := Lib.hid ho
  clear hg ho HV
  by_cases hlt : j < n
  ·go_wp2_with fail
   refine (markText_any _ _ (by omega) (by omega)).mono ?_
   rintro e w1 ⟨s, rfl, hb⟩
   have ho1 := owns_below HO.out hb
   obtain ⟨xc1, c1⟩ := own_cell ho1 (j) (by omega)
   have f1 := ho1.frozenAt j
   have HO2 := Lib.hid (ho1.stored j (.string s)).1
   have HB := Lib.hid hb
   clear ho1 hb
   go_wp2
   go_roundw
   case rel => exact ⟨j + 1, _, by omega, by go_num, by go_num, turns_trans (turns_trans HG.out (turns_below HB.out)) (turns_set _ _ _ hb1 hb2), HO2.out⟩
   case measure => simp [intOf]; omega
  ·go_wp2
   go_ret
   obtain rfl : j = n := by omega
   exact ⟨rfl, HG.out⟩

set_option maxRecDepth 100000 in
set_option maxHeartbeats 1000000 in
theorem markEdgeS_any (lo hi b n cap : Nat) (cs : List Value) (k : Int) (w : World) (h1 : 0 ≤ k) (h2 : k + 3 * n ≤ 1000000000) (hb1 : lo ≤ b) (hb2 : b < hi) (hv : w.ownsRow lo 93 3 (.slice (some ⟨b, 0, none⟩) n cap) n cs) :
  Calls Tryz.prog 51 #[.slice (some ⟨b, 0, none⟩) n cap, .int .i64 k] w (MarkedIn lo hi w (k + 3 * n)) := by
 have HV := Lib.hid hv
 clear hv
 go_enter Tryz.func51, Tryz.ntmps51
 go_wp2
 go_loopw [1, 5] (fun q i wr => ∃ (j : Nat) (cs : List Value), j ≤ n ∧ q = .int .i64 (k + 3 * j) ∧ i = .int .i64 j ∧ Turns lo hi w wr ∧ wr.ownsRow lo 93 3 (.slice (some ⟨b, 0, none⟩) n cap) n cs) (fun _ i _ => n - (intOf i).toNat)
 case atStart => exact ⟨0, cs, Nat.zero_le _, by simp, rfl, turns_refl _ _ _, HV.out⟩
 case round =>
  obtain ⟨j, cs, hj, rfl, rfl, hg, ho⟩ := hrel
  have HG := Lib.hid hg
  clear hg HV
  by_cases hlt : j < n
  ·obtain ⟨xc0, c0⟩ := own_cell ho (j * 3) (by omega)
   have s0 := (ho.stored (j * 3) (.int .i64 (k + 3 * j))).1
   obtain ⟨xc1, c1⟩ := own_cell s0 (j * 3 + 1) (by omega)
   have s1 := (s0.stored (j * 3 + 1) (.int .i64 (k + 3 * j + 1))).1
   obtain ⟨xc2, c2⟩ := own_cell s1 (j * 3 + 2) (by omega)
   have HO := Lib.hid (s1.stored (j * 3 + 2) (.int .i64 (k + 3 * j + 1 + 1))).1
   obtain ⟨xg1, g1⟩ := own_cell ho (j * 3 + 1) (by omega)
   obtain ⟨xg2, g2⟩ := own_cell ho (j * 3 + 2) (by omega)
   have f0 := ho.frozenAt (j * 3)
   have f1 := ho.frozenAt (j * 3 + 1)
   have f2 := ho.frozenAt (j * 3 + 2)
   clear ho s0 s1
   go_wp2
   go_roundw
   case rel => exact ⟨j + 1, _, by omega, by go_num, by go_num, turns_trans (turns_trans (turns_trans HG.out (turns_set _ _ _ hb1 hb2)) (turns_set _ _ _ hb1 hb2)) (turns_set _ _ _ hb1 hb2), HO.out⟩
   case measure => simp [intOf]; omega
  ·go_wp2
   go_ret
   obtain rfl : j = n := by omega
   exact ⟨rfl, HG.out⟩

set_option maxHeartbeats 1000000 in
theorem markLts_any (lo hi b1 b2 n1 n2 : Nat) (x y : Int) (cs1 cs2 : List Value) (k : Int) (w : World) (h1 : 0 ≤ k) (h2 : k + n1 + 3 * n2 ≤ 1000000000) (hb1 : lo ≤ b1) (hb2 : b1 < hi) (hb3 : lo ≤ b2) (hb4 : b2 < hi) (hhi : hi ≤ w.heap.size) (hne : b1 ≠ b2)
  (hv1 : w.ownsRow lo 9 1 (.slice (some ⟨b1, 0, none⟩) n1 n1) n1 cs1) (hv2 : w.ownsRow lo 93 3 (.slice (some ⟨b2, 0, none⟩) n2 n2) n2 cs2) :
  Calls Tryz.prog 18 #[.agg #[.int .i64 x, .int .i64 y, .slice (some ⟨b1, 0, none⟩) n1 n1, .slice (some ⟨b2, 0, none⟩) n2 n2], .int .i64 k] w (MarkedIn lo hi w (k + n1 + 3 * n2)) := by
 have V1 := Lib.hid hv1
 have V2 := Lib.hid hv2
 have HN := Lib.hid hne
 clear hv1 hv2 hne
 go_enter Tryz.func18, Tryz.ntmps18
 go_wp2_with fail
 refine (markStringS_any b1 (b1 + 1) b1 n1 n1 cs1 _ _ h1 (by omega) (Nat.le_refl _) (Nat.lt_succ_self _) ?_).mono ?_
 ·have := owns_below V1.out ((Below.refl _ w).alloc (Nat.le_refl _) (.cells #[.int .i64 x, .int .i64 y, .slice (some ⟨b1, 0, none⟩) n1 n1, .slice (some ⟨b2, 0, none⟩) n2 n2] 30))
  exact own_base this
 rintro e w1 ⟨rfl, ht1⟩
 have A := Lib.hid ((Blk.new w [.int .i64 x, .int .i64 y, .slice (some ⟨b1, 0, none⟩) n1 n1, .slice (some ⟨b2, 0, none⟩) n2 n2] 30).turns ht1 (by omega))
 have c3 := A.out.cell 3 rfl
 have T1 : Hid (Turns lo hi w w1) := turns_trans (turns_below ((Below.refl _ w).alloc (Nat.le_refl _) _)) (turns_wide ht1 (by omega) (by omega))
 have W2 := Lib.hid (owns_turns (owns_below V2.out ((Below.refl _ w).alloc (Nat.le_refl _) _)) ht1 (fun b e => by simp [Value.ownBlock] at e; have := HN.out; omega))
 clear ht1
 go_wp2_with fail
 refine (markEdgeS_any lo hi b2 n2 n2 cs2 _ _ (by omega) (by omega) hb3 hb4 W2.out).mono ?_
 rintro e w2 ⟨rfl, ht2⟩
 have T2 := Lib.hid ht2
 clear ht2
 go_wp2_with fail
 go_ret
 exact ⟨rfl, turns_trans T1.out T2.out⟩

end Go.Proofs.YtkbgncenjfebdaaGreatDoor

namespace Go.Proofs.YtkbgncenjfebdaaGreatDoor
open Go Go.RowKit

theorem heldStrs_is (lo : Nat) (v : Value) (xs : List ByteArray) (k : Int) (w : World) (h1 : 0 ≤ k) (h2 : k + (xs.length : Int) ≤ 1000000000) (hv : OwnStrs lo w v (mrkS k xs.length)) :
  Calls Tryz.prog 30 #[v, .int .i64 k] w fun e w' => e = .returned (.int .i64 (k + (xs.length : Int))) ∧ Below w.heap.size w w' :=
 heldStringS_is v lo xs.length k w h1 h2 hv.at


end Go.Proofs.YtkbgncenjfebdaaGreatDoor
