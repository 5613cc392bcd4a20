/-
  Regions that draw their order, whose operations are quiet in a class of worlds, but for a tail in one forced order.
  What the implementation's internal and visible compute.
  The net of sets in memory: its rows and its edges, of the call's own.
  What the implementation's functions on lists of values and on labels compute.
  What the implementation's readNumbers computes.
  What the implementation's joined computes.
  What the implementation's labelOf computes.
-/
import Derived.Test.YtmhpfmanagbggaaGreatDoorK1
import Derived.StillTail
import Derived.Test.YtmhpfmanagbggaaGreatDoorK5
import Derived.Maps.AppendAt
import Derived.Deep.RegionHeld3
import Derived.Test.YtmhpfmanagbggaaGreatDoorK3
namespace Go.Proofs.YtmhpfmanagbggaaGreatDoor
open Go Go.RowKit

section
variable {P : Program} {ops : Array Oper} {md : Region.Mode} {C : World → Prop}

/-- Whatever order is picked, of the operations ahead of number n; then L. -/
def headAny (P : Program) (md : Region.Mode) (ops : Array Oper) (C : World → Prop) (n : Nat) (L : Array Bool → Act → Prop) : Nat → Array Bool → Act → Prop
 | 0, listed, a => L listed a
 | f + 1, listed, a => Region.ready md ops listed ≠ [] ∧ ∀ i ∈ Region.ready md ops listed, i < n ∧ qOp P ops C i (headAny P md ops C n L f (listed.setIfInBounds i true)) a

theorem wpAny_of_headAny {n g : Nat} {L : Array Bool → Act → Prop} {Q : Exit → Act → World → Prop} (hL : ∀ listed a w, C w → L listed a → wpAny P md ops Q g listed a w) (f : Nat) :
  ∀ (listed : Array Bool) (a : Act) (w : World), C w → headAny P md ops C n L f listed a → wpAny P md ops Q (f + g) listed a w := by
 induction f with
 | zero => intro listed a w hw h; rw [Nat.zero_add]; exact hL _ _ _ hw h
 | succ f ih =>
  intro listed a w hw h
  rw [show f + 1 + g = (f + g) + 1 from by omega]
  exact ⟨fun h0 => absurd h0 h.1, fun i hi => wpOp_of_qOp hw (fun a' w' hw' h' => ih _ a' w' hw' h') (h.2 i hi).2⟩

theorem headAny_first {n i : Nat} {oi : Oper} {v : Value} {L : Array Bool → Act → Prop} (hi : ops[i]? = some oi) (hsel : ∀ (j : Nat) (o : Oper) cs b, ops[j]? = some o → o.op ≠ .select cs b)
  (hs : Region.sinkB md ops n = true) (hc : Region.chainB md ops n = true) (hn : n < ops.size) (hin : i < n) (hdone : ∀ listed a, L listed a → ∀ j ∈ Region.ready md ops listed, n ≤ j) (f : Nat) :
  ∀ (listed : Array Bool) (a : Act), HeadInv md ops n listed →
   (∀ j oj, ops[j]? = some oj → j ≠ i → listed.getD j true = false → (∀ e ∈ oj.after, Region.binds md e = true → e.on ≠ i) → oi.apart ops oj = true) →
   i ∈ Region.ready md ops listed → YieldsIn P ops C oi v a → headAny P md ops C n L f (listed.setIfInBounds i true) (a.put oi.dst v) → headAny P md ops C n L (f + 1) listed a := by
 have behind : ∀ listed : Array Bool, HeadInv md ops n listed → i ∈ Region.ready md ops listed → ∀ j ∈ Region.ready md ops listed, j < n := by
  intro listed inv hr j hj
  rcases Nat.lt_or_ge j n with h | h
  ·exact h
  ·exact absurd hj (tail_waits hs hc hn inv _ i rfl hin (mem_ready.1 hr).1 j h)
 induction f with
 | zero =>
  intro listed a inv _ hr hy H
  refine ⟨fun h => (by rw [h] at hr; cases hr), fun j hj => ?_⟩
  have hjn := behind listed inv hr j hj
  refine ⟨hjn, ?_⟩
  by_cases hji : j = i
  ·subst hji; exact hy.qOp hi H
  ·have := hdone _ _ H j (ready_mono hj hji)
   omega
 | succ f ih =>
  intro listed a inv hfree hr hy H
  refine ⟨fun h => (by rw [h] at hr; cases hr), fun j hj => ?_⟩
  have hjn := behind listed inv hr j hj
  refine ⟨hjn, ?_⟩
  by_cases hji : j = i
  ·subst hji; exact hy.qOp hi H
  ·obtain ⟨hjun, oj, hoj, hall⟩ := mem_ready.1 hj
   have hnot : ∀ e ∈ oj.after, Region.binds md e = true → e.on ≠ i := fun e he hb heq => by
    have h1 := hall e he hb
    rw [heq, getD_both (mem_ready.1 hr).1] at h1
    cases h1
   have hrest := qOp_put hoj (hfree j oj hoj hji hjun hnot) (fun cs b => hsel i oi cs b hi) (fun cs b => hsel j oj cs b hoj) hy (H.2 j (ready_mono hj hji)).2
   refine qOp_mono (fun a' h3 => ih (listed.setIfInBounds j true) a' (inv.set hj hjn) (fun k ok hk hki hun hno => ?_) (ready_mono hr (Ne.symm hji)) h3.1 ?_) hrest
   ·refine hfree k ok hk hki ?_ hno
    by_cases hjk : j = k
    ·subst hjk; exact hjun
    ·rw [getD_set_ne true hjk] at hun; exact hun
   ·rw [Array.setIfInBounds_comm _ _ hji]
    exact h3.2

theorem headAny_lex {n g : Nat} {L : Act → Prop} (hsel : Region.noSelect ops = true) (hs : Region.sinkB md ops n = true) (hc : Region.chainB md ops n = true) (hn : n < ops.size) (l : List Oper) :
  ∀ (k : Nat) (listed : Array Bool) (a : Act), (∀ j, j < l.length → l[j]? = ops[k + j]?) → k + l.length = n → HeadInv md ops n listed → Region.lexHead md ops g l.length k listed = true → wpQuiet P ops C L l a →
   headAny P md ops C n (fun listed' a' => Region.seqB md ops g n listed' = true ∧ L a') l.length listed a := by
 induction l with
 | nil =>
  intro k listed a _ hk _ hB h
  obtain rfl : k = n := by simpa using hk
  exact ⟨by simpa [Region.lexHead] using hB, h⟩
 | cons o l ih =>
  intro k listed a hl hk inv hB h
  have h0 : ops[k]? = some o := by simpa using (hl 0 (by simp)).symm
  simp only [List.length_cons, Region.lexHead, Bool.and_eq_true] at hB
  have hkn : k < n := by simp only [List.length_cons] at hk; omega
  have hr : k ∈ Region.ready md ops listed := by simpa using hB.1.1
  obtain ⟨v, hy, hK⟩ := yieldsIn_of_qOp h0 (show qOp P ops C k (wpQuiet P ops C L l) a by unfold qOp; simp only [h0]; exact h)
  exact headAny_first h0 (Region.noSelect_spec hsel) hs hc hn hkn (fun _ _ hL => seqB_ready hL.1) l.length listed a inv (Region.free_spec h0 hB.1.2) hr hy
   (ih (k + 1) _ _ (fun j hj => by have := hl (j + 1) (by simp; omega); simpa [Nat.add_assoc, Nat.add_comm 1 j] using this) (by simp only [List.length_cons] at hk; omega) (inv.set hr hkn) hB.2 hK)

/-- The operations ahead of number n are quiet in the class C; the others come in their order, from whatever world of the class. -/
theorem wp_region_quiet_tail {id : Nat} {Q : Exit → Act → World → Prop} {a : Act} {w : World} {l : List Oper} (n : Nat) (hm : P.follows .mixedOrders = true) (hB : Region.lexTailB .any l.toArray n = true) (hC : C { w with drawn := w.drawn + 1 })
  (h : wpQuiet P l.toArray C (fun a' => ∀ w', C w' → wpList P l.toArray Q (l.drop n) a' w') (l.take n) a) : (Code.region id l.toArray true).wp P Q a w := by
 simp only [Region.lexTailB, Bool.and_eq_true, decide_eq_true_eq] at hB
 obtain ⟨⟨⟨⟨hsel, hn⟩, hs⟩, hc⟩, hlex⟩ := hB
 have hn' : n < l.length := by simpa using hn
 have htl : (l.take n).length = n := by simp; omega
 have hdl : (l.drop n).length = l.toArray.size - n := by simp
 have inv0 : HeadInv .any l.toArray n (Array.replicate l.toArray.size false) :=
  ⟨by simp, fun j oj _ hl => (by rw [getD_replicate_false] at hl; cases hl), fun t _ ht => getD_in (by simpa using ht) (getD_replicate_false _ _)⟩
 have H := headAny_lex (C := C) (md := .any) (g := l.toArray.size - n) hsel hs hc hn (l.take n) 0 _ a (fun j hj => by
  have hj' : j < n := by rw [htl] at hj; exact hj
  simp [hj']) (by simpa using htl) inv0 (by rw [htl]; exact hlex) h
 refine wp_region_any hm ?_
 have := wpAny_of_headAny (Q := Q) (g := l.toArray.size - n) (fun listed a' w' hw' hL => by
  have := wpAny_of_seq (md := .any) (Q' := Q) (l.drop n) n listed a' w' (fun j => by simp [List.getElem?_drop]) (by rw [hdl]; exact hL.1) (hL.2 w' hw')
  rwa [hdl] at this) _ _ _ _ hC H
 rw [htl, show n + (l.toArray.size - n) = l.toArray.size from by omega] at this
 exact this
end

/-- At the class of the later worlds. -/
theorem wp_region_later_tail {P : Program} {id : Nat} {Q : Exit → Act → World → Prop} {a : Act} {w : World} {l : List Oper} (n : Nat) (hm : P.follows .mixedOrders = true) (hB : Region.lexTailB .any l.toArray n = true)
  (h : wpQuiet P l.toArray (fun w' => ∃ g : Later w, w' = g.w) (fun a' => ∀ w', (∃ g : Later w, w' = g.w) → wpList P l.toArray Q (l.drop n) a' w') (l.take n) a) : (Code.region id l.toArray true).wp P Q a w :=
 wp_region_quiet_tail (C := fun w' => ∃ g : Later w, w' = g.w) n hm hB ⟨⟨_, (Below.refl _ w).drew⟩, rfl⟩ h

end Go.Proofs.YtmhpfmanagbggaaGreatDoor

namespace Go.Proofs.YtmhpfmanagbggaaGreatDoor
open Go Go.RowKit

def tauT : ByteArray := ⟨#[116, 97, 117]⟩
theorem tau_first {t : Lts} (hv : Valid t) : ∃ h : 0 < t.labels.length, t.labels[0] = tauT :=
 ⟨hv.labels.pos, data_inj (by rw [← Lib.toList_data, hv.labels.first hv.labels.pos]; rfl)⟩
theorem info_int64y : (Tryz.prog.info? 2).map (fun i => (i.zero, i.size, i.bytes)) = some (some (.int .i64 0), 1, 8) := by kernel_rfl

set_option maxRecDepth 100000 in
set_option maxHeartbeats 4000000 in
theorem internal_any (lo lo2 : Nat) (t : Lts) (lv ev sv : Value) (S : List Int) (w : World) (hv : Valid t) (hl : SliceK 1 encS lo w lv t.labels) (he : SliceK 3 encE lo w ev t.edges) (hs : SliceK 1 encI lo2 w sv S) (hin : ∀ x ∈ S, 0 ≤ x ∧ x < t.states) (hnd : S.Nodup) :
  Calls Tryz.prog 42 #[.agg #[.int .i64 t.states, .int .i64 t.initial, lv, ev], sv] w (MadeNums (setL t.states (clos t fun y => y ∈ S)) w) := by
 have HV := Lib.hid hv
 have HIN := Lib.hid hin
 have HND := Lib.hid hnd
 have hS40 := few_states hnd hin hv.st1
 have HL := Lib.hid hl
 have HE := Lib.hid he
 obtain ⟨al, cl, rfl, -, -, -⟩ := hl
 obtain ⟨ae, ce, rfl, -, -, -⟩ := he
 obtain ⟨i0, hi, hz0, hz1, hz2⟩ := info_parts info_int64y
 obtain ⟨wB, hwB⟩ : ∃ wB, wB = w.alloc (.cells #[.int .i64 t.states, .int .i64 t.initial, .slice al t.labels.length cl, .slice ae t.edges.length ce] 29) := ⟨_, rfl⟩
 have hb0 : Below w.heap.size w wB := by rw [hwB]; exact (Below.refl _ _).alloc (Nat.le_refl _) _
 have hx0 : Blk wB w.heap.size [.int .i64 t.states, .int .i64 t.initial, .slice al t.labels.length cl, .slice ae t.edges.length ce] 29 := by rw [hwB]; exact Blk.new w _ _
 have HX0 := Lib.hid hx0
 have HB0 := Lib.hid hb0
 have HWB := Lib.hid hwB
 have HC := Lib.hid (Clone_own lo2 sv S wB (hs.below hb0) (by omega))
 obtain ⟨bx, hbx⟩ : ∃ bx, bx = w.heap.size := ⟨_, rfl⟩
 rw [← hbx] at HX0
 have HBX := Lib.hid hbx
 clear hv hin hnd hs hb0 hx0 hwB hbx
 go_enter Tryz.func42, Tryz.ntmps42
 go_wp2_with fail
 rw [← HWB.out, ← HBX.out]
 refine Calls.mono HC.out ?_
 rintro e1 w1 ⟨v1, rfl, ho1, hb1⟩
 obtain ⟨B, hB⟩ : ∃ B, B = wB.heap.size := ⟨_, rfl⟩
 rw [← hB] at ho1
 have hbxB : bx < B := by rw [hB]; exact HX0.out.lt
 have HBB := Lib.hid hB
 have HB1 : Hid (Below B wB w1) := by unfold Hid; rw [hB]; exact hb1
 have HO1 := Lib.hid ho1
 clear HC hb1 ho1 hB
 go_wp2
 go_loopw [5, 6] (fun v i wr => ∃ (k : Nat) (O : List Int), i = .int .i64 k ∧ IntOk t S O k ∧ Below B wB wr ∧ wr.ownsRow B 2 1 v O.length (O.map (Value.int .i64))) (fun _ i _ => 64 - (intOf i).toNat)
 case atStart => exact ⟨0, S, rfl, IntOk.start HND.out, HB1.out, HO1.out⟩
 case round =>
  clear HO1 HB1
  obtain ⟨k, O, rfl, hok, hbl, ho⟩ := hrel
  obtain ⟨wC, rfl⟩ : ∃ wC : World, wC = wr := ⟨_, rfl⟩
  have HOK := Lib.hid hok
  have HBL := Lib.hid hbl
  have HO := Lib.hid ho
  have hO40 := few_states hok.nodup (hok.range HV.out HIN.out) HV.out.st1
  have hkO := hok.upto
  have hsz : B ≤ wC.heap.size := by have := hbl.size; rw [HBB.out]; exact this
  obtain ⟨av, cv, rfl, -, -⟩ := owns_slice ho
  obtain ⟨NO, hNO⟩ : ∃ NO, NO = O.length := ⟨_, rfl⟩
  rw [← hNO] at hO40 hkO HO ⊢
  have HNO := Lib.hid hNO
  clear hok hbl ho hNO
  by_cases hlt : k < NO
  ·have hlO : k < O.length := by rw [← HNO.out]; exact hlt
   have HX := Lib.hid (HX0.out.belowB HBL.out hbxB)
   have hbxw : bx < wC.heap.size := by omega
   have x0 := HX.out.cell 0 rfl
   have x1 := HX.out.cell 1 rfl
   have x2 := HX.out.cell 2 rfl
   have x3 := HX.out.cell 3 rfl
   obtain ⟨g, c, hg, hgw, hcg⟩ : ∃ g c, Value.slice av NO cv = .slice (some ⟨g, 0, none⟩) NO c ∧ g < wC.heap.size ∧ wC.cell? ⟨g, k, none⟩ = some (.int .i64 O[k]) := by
    rcases HO.out.2 with ⟨h, h0⟩ | ⟨g, c, cur, h, -⟩
    ·omega
    ·refine ⟨g, c, h, (HO.out.lt g (by rw [h]; rfl)).2, ?_⟩
     have h1 := HO.out
     rw [h] at h1
     have := cell_num h1 hlt
     rw [List.getD_eq_getElem?_getD, List.getElem?_eq_getElem hlO] at this
     exact this
   simp only [Value.slice.injEq, true_and] at hg
   obtain ⟨rfl, rfl⟩ := hg
   have HIS := Lib.hid (IntIn.start (F := followL t [O[k]] tauT) HOK.out hlO)
   obtain ⟨q, hq⟩ : ∃ q, q = O[k] := ⟨_, rfl⟩
   rw [← hq] at hcg HIS
   have hW : Below wC.heap.size wC ((wC.alloc (.cells #[.int .i64 q] 2)).drew) := ((Below.refl _ _).alloc (Nat.le_refl _) _).drew
   have hbw : Below w.heap.size w wC := HB0.out.trans (HBL.out.mono (by rw [HBB.out]; exact HB0.out.size))
   have hbw2 := hbw.trans (hW.mono hbw.size)
   have HF : Hid (Calls Tryz.prog 74 #[.agg #[.int .i64 t.states, .int .i64 t.initial, .slice al t.labels.length cl, .slice ae t.edges.length ce], .slice (some ⟨wC.heap.size, 0, none⟩) 1 1, .string ⟨#[116, 97, 117]⟩] ((wC.alloc (.cells #[.int .i64 q] 2)).drew) (MadeNums (followL t [q] tauT) ((wC.alloc (.cells #[.int .i64 q] 2)).drew))) := by
    unfold Hid
    refine follow_any lo wC.heap.size t _ _ _ [q] tauT _ HV.out (HL.out.below hbw2) (HE.out.below hbw2) ?_
    have hlit : (wC.alloc (.cells #[.int .i64 q] 2)).ownsRow wC.heap.size 2 1 (.slice (some ⟨wC.heap.size, 0, none⟩) 1 1) 1 [.int .i64 q] := World.ownsRow_lit (size := 1) wC #[.int .i64 q] 1 (Nat.le_refl _) (by decide) rfl
    exact SliceK.of_owns (enc := encI) (e := 2) encI_len rfl (by rw [flat_encI]; exact hlit.drew)
   have W0 := keeps hW hbxw x0
   have W1 := keeps hW hbxw x1
   have W2 := keeps hW hbxw x2
   have W3 := keeps hW hbxw x3
   have W4 := keeps hW hgw hcg
   have HWW := Lib.hid hW
   have hki : (k : Int) < (NO : Int) := by omega
   clear hlO hq hW hbw hbw2
   go_wp2
   go_region_held3 (fun w' => w'.cell? ⟨bx, 0, none⟩ = some (.int .i64 t.states) ∧ w'.cell? ⟨bx, 1, none⟩ = some (.int .i64 t.initial) ∧ w'.cell? ⟨bx, 2, none⟩ = some (.slice al t.labels.length cl) ∧ w'.cell? ⟨bx, 3, none⟩ = some (.slice ae t.edges.length ce) ∧ w'.cell? ⟨g, k, none⟩ = some (.int .i64 q))
    (first
     | (refine ⟨?_, ?_, ?_, ?_, ?_⟩ <;> assumption)
     | go_keep)
    (first
     | (go_at_call 74; refine Calls.mono HF.out ?_; rintro e w9 ⟨v9, rfl, hb9, ho9⟩; have k0 := keeps hb9 (by simp; omega) W0; have k1 := keeps hb9 (by simp; omega) W1; have k2 := keeps hb9 (by simp; omega) W2; have k3 := keeps hb9 (by simp; omega) W3; have k4 := keeps hb9 (by simp; omega) W4; obtain ⟨a9, c9, rfl, -, -⟩ := owns_slice ho9))
   clear W0 W1 W2 W3 W4 x0 x1 x2 x3 k0 k1 k2 k3 k4 hcg
   obtain ⟨BF, hBF⟩ : ∃ BF, BF = wC.heap.size + 1 := ⟨_, rfl⟩
   have hFs : ((wC.alloc (.cells #[.int .i64 q] 2)).drew).heap.size = BF := by rw [hBF]; simp
   rw [hFs] at ho9
   have hb9' : Below wC.heap.size wC w9 := HWW.out.trans (hb9.mono HWW.out.size)
   have HB9 := Lib.hid (HBL.out.trans (hb9'.mono hsz))
   have HO9 := Lib.hid (owns_below HO.out hb9')
   have hFL := followL_len HV.out.most [q] tauT
   have hFm : ∀ x, behindP t [q] 0 x ↔ x ∈ followL t [q] tauT := fun x => by
    obtain ⟨h0, h1⟩ := tau_first HV.out
    have := (followL_is HV.out [q] h0).mem x
    rw [h1] at this
    exact this.symm
   obtain ⟨F, hF⟩ : ∃ F, F = followL t [q] tauT := ⟨_, rfl⟩
   rw [← hF] at ho9 hFL hFm HIS ⊢
   have HFM := Lib.hid hFm
   obtain ⟨NF, hNF⟩ : ∃ NF, NF = F.length := ⟨_, rfl⟩
   rw [← hNF] at ho9 hFL ⊢
   have HNF := Lib.hid hNF
   have HOF := Lib.hid ho9
   have HAP : Hid ((Value.slice a9 NF c9).ownBlock = none ∨ (Value.slice a9 NF c9).ownBlock ≠ (Value.slice (some ⟨g, 0, none⟩) NO cv).ownBlock) := by
    cases hb : (Value.slice a9 NF c9).ownBlock with
    | none => exact .inl rfl
    | some b =>
     refine .inr fun e => ?_
     have h1 := (ho9.lt b hb).1
     have h2 := Option.some.inj e
     simp [Value.ownBlock] at e
     omega
   have HBF := Lib.hid hBF
   clear hb9 hb9' ho9 hF hFs hFm hNF hBF HF HWW HO HBL
   go_wp2
   go_loopw [5, 25] (fun v v25 wr => ∃ (m : Nat) (O' : List Int), v25 = .int .i64 m ∧ m ≤ NF ∧ IntIn t S O' F q k m ∧ Below B wB wr ∧ wr.ownsRow B 2 1 v O'.length (O'.map (Value.int .i64)) ∧ wr.ownsRow BF 2 1 (.slice a9 NF c9) NF (F.map (Value.int .i64))
    ∧ ((Value.slice a9 NF c9).ownBlock = none ∨ (Value.slice a9 NF c9).ownBlock ≠ v.ownBlock)) (fun _ v25 _ => NF - (intOf v25).toNat)
   case atStart => exact ⟨0, O, rfl, Nat.zero_le _, HIS.out, HB9.out, by rw [← HNO.out]; exact HO9.out, HOF.out, HAP.out⟩
   case round =>
    clear HB9 HO9 HIS HOF HAP
    obtain ⟨m, O2, rfl, hm, hin, hbl, ho, hof, hap⟩ := hrel
    have HIN2 := Lib.hid hin
    have HBL := Lib.hid hbl
    have HO := Lib.hid ho
    have HOF := Lib.hid hof
    have HAP := Lib.hid hap
    have hO2 := few_states hin.ok.nodup (hin.ok.range HV.out HIN.out) HV.out.st1
    have hsz2 : B ≤ wr.heap.size := by have := hbl.size; rw [HBB.out]; exact this
    clear hin hbl hap
    by_cases hmF : m < NF
    ·have hmf : m < F.length := by rw [← HNF.out]; exact hmF
     obtain ⟨g9, e9, hg9, hc9⟩ : ∃ g9, a9 = some ⟨g9, 0, none⟩ ∧ g9 < wr.heap.size ∧ wr.cell? ⟨g9, m, none⟩ = some (.int .i64 F[m]) := by
      rcases hof.2 with ⟨h, h0⟩ | ⟨g9, c, cur, h, -⟩
      ·omega
      ·simp only [Value.slice.injEq, true_and] at h
       obtain ⟨rfl, rfl⟩ := h
       refine ⟨g9, rfl, (hof.lt g9 rfl).2, ?_⟩
       have := cell_num hof hmF
       rw [List.getD_eq_getElem?_getD, List.getElem?_eq_getElem hmf] at this
       exact this
     subst e9
     obtain ⟨x, hx⟩ : ∃ x, x = F[m] := ⟨_, rfl⟩
     rw [← hx] at hc9
     have HS2 := Lib.hid (SliceK.of_owns (enc := encI) (xs := O2) encI_len rfl (by rw [flat_encI]; exact ho))
     have HCT := Lib.hid (Contains_ints B u5 x O2 wr HS2.out)
     have HX := Lib.hid hx
     clear ho hof hx
     cases hc : (O2.any fun y => y == x)
     ·rw [hc] at HCT
      have HNX : Hid (F[m] ∉ O2) := by
       unfold Hid
       rw [← HX.out]
       intro h
       rw [List.any_eq_false] at hc
       exact hc x h (by simp)
      clear hc
      go_wp2_with fail
      refine Calls.mono HCT.out ?_
      rintro e2 w2 ⟨rfl, rfl⟩
      obtain ⟨NO2, hNO2⟩ : ∃ NO2, NO2 = O2.length := ⟨_, rfl⟩
      rw [← hNO2] at HO hO2
      have HNO2 := Lib.hid hNO2
      clear hNO2 HS2
      go_wp2_with (at_builtin; refine wpList_append_own_at _ rfl _ _ 30 rfl B 2 i0 (.int .i64 0) 1 8 Tryz.underlying30 hi hz0 hz1 hz2 rfl (by decide) _ _ _ rfl (HO.out.alloc _) ⟨wr.heap.size, 0, none⟩ 1 1 [.int .i64 x] rfl rfl ?c1 ?c2 ?c3 ?c4 ?c5 ?_)
      case c1 => exact cell_one_new _ _ _
      case c2 => intro u hu; simp at hu; subst hu; rfl
      case c3 => first | omega | (simp [maxLen]; omega)
      case c4 => first | omega | (simp; omega)
      case c5 => first | omega | (simp; omega)
      intro v5 w5 ho5 hg5 _ hob5
      have hal : Below wr.heap.size wr (wr.alloc (.cells #[.int .i64 x] 2)) := (Below.refl _ _).alloc (Nat.le_refl _) _
      have HO5 : Hid (w5.ownsRow B 2 1 v5 (O2 ++ [F[m]]).length ((O2 ++ [F[m]]).map (Value.int .i64))) := by
       unfold Hid
       rw [List.length_append, List.map_append, ← HNO2.out, ← HX.out]
       exact ho5
      have HOF5 := Lib.hid ((owns_below HOF.out hal).kept hg5 HAP.out)
      have HAP5 : Hid ((Value.slice (some ⟨g9, 0, none⟩) NF c9).ownBlock = none ∨ (Value.slice (some ⟨g9, 0, none⟩) NF c9).ownBlock ≠ v5.ownBlock) := by
       rcases hob5 with h | h
       ·rw [h]; exact HAP.out
       ·refine .inr ?_
        rw [h]
        intro e
        have h9 : g9 = wr.heap.size + 1 := Option.some.inj e
        omega
      have HB5 : Hid (Below B wB w5) := (HBL.out.alloc hsz2 _).grown hg5 (by simp; omega) (fun b e => (HO.out.lt b e).1)
      clear ho5 hg5 hob5 hal
      go_wp2
      go_roundw
      case rel => exact ⟨m + 1, O2 ++ [F[m]], by go_num, by omega, HIN2.out.new (fun y hy => (HFM.out y).2 hy) hmf HNX.out, HB5.out, HO5.out, HOF5.out, HAP5.out⟩
      case measure => simp [intOf]; omega
     ·rw [hc] at HCT
      have HIX : Hid (F[m] ∈ O2) := by
       unfold Hid
       rw [← HX.out]
       rw [List.any_eq_true] at hc
       obtain ⟨y, hy, h⟩ := hc
       rw [beq_iff_eq] at h
       rw [← h]; exact hy
      clear hc
      go_wp2_with fail
      refine Calls.mono HCT.out ?_
      rintro e2 w2 ⟨rfl, rfl⟩
      clear HS2
      go_wp2
      go_roundw
      case rel => exact ⟨m + 1, O2, by go_num, by omega, HIN2.out.old hmf HIX.out, HBL.out, HO.out, HOF.out, HAP.out⟩
      case measure => simp [intOf]; omega
    ·have hmF2 : NF = m := by omega
     subst hmF2
     have HK := Lib.hid (show IntOk t S O2 (k + 1) from IntIn.done (F := F) (q := q) (by rw [← HNF.out]; exact HIN2.out) (fun x hx => (HFM.out x).1 hx))
     clear ho hof
     go_wp2
     go_roundw
     case rel => exact ⟨k + 1, O2, by go_num, HK.out, HBL.out, HO.out⟩
     case measure => simp [intOf]; omega
  ·have hk2 : NO = k := by omega
   subst hk2
   have hset : (O.mergeSort fun x y => decide (x ≤ y)) = setL t.states (clos t fun y => y ∈ S) := by
    refine ((sort_nodup_is O HOK.out.nodup).congr fun x => ?_).unique (closL_is HV.out HIN.out)
    exact HOK.out.done HNO.out x
   have hls : (setL t.states (clos t fun y => y ∈ S)).length = NO := by rw [← hset, List.length_mergeSort, HNO.out]
   have HS := Lib.hid (Sort_own B (.slice av NO cv) O wC (by rw [← HNO.out]; exact HO.out) (by rw [← HNO.out]; omega))
   rw [hset] at HS
   have HLS := Lib.hid hls
   clear hset hls
   go_wp2_with fail
   refine Calls.mono HS.out ?_
   rintro e2 w2 ⟨rfl, ho2, hg2⟩
   have HB2 := Lib.hid (HBL.out.grown hg2 hsz (fun b e => (HO.out.lt b e).1))
   have HO2 : Hid (w2.ownsRow B 2 1 (.slice av NO cv) (setL t.states (clos t fun y => y ∈ S)).length ((setL t.states (clos t fun y => y ∈ S)).map (Value.int .i64))) := by
    unfold Hid
    rw [HLS.out]
    rw [← HNO.out] at ho2
    exact ho2
   clear ho2 hg2
   go_wp2
   go_ret
   exact ⟨_, rfl, HB0.out.trans (HB2.out.mono (by rw [HBB.out]; exact HB0.out.size)), own_lower HO2.out (by rw [HBB.out]; exact HB0.out.size)⟩

set_option maxRecDepth 100000 in
set_option maxHeartbeats 2000000 in
theorem visible_any (lo lo2 : Nat) (t : Lts) (lv ev sv : Value) (cur : List Int) (l : ByteArray) (w : World) (hv : Valid t) (hl : SliceK 1 encS lo w lv t.labels) (he : SliceK 3 encE lo w ev t.edges) (hs : SliceK 1 encI lo2 w sv cur) {k : Nat} (hk : k < t.labels.length) (hkl : t.labels[k] = l) :
  Calls Tryz.prog 49 #[.agg #[.int .i64 t.states, .int .i64 t.initial, lv, ev], sv, .string l] w (MadeNums (nextS t cur k) w) := by
 subst hkl
 have HV := Lib.hid hv
 have HL := Lib.hid hl
 have HE := Lib.hid he
 have HS := Lib.hid hs
 have hfi := followL_is hv cur hk
 have HIN : Hid (∀ x ∈ followL t cur t.labels[k], 0 ≤ x ∧ x < t.states) := fun x hx => behindP_in hv ((hfi.mem x).1 hx)
 have HND : Hid (followL t cur t.labels[k]).Nodup := by
  unfold Hid
  rw [List.nodup_iff_pairwise_ne]
  exact hfi.asc.imp fun h => by omega
 have HN := Lib.hid (nextS_eq hv cur hk)
 obtain ⟨wB, hwB⟩ : ∃ wB, wB = w.alloc (.cells #[.int .i64 t.states, .int .i64 t.initial, lv, ev] 29) := ⟨_, rfl⟩
 have hb0 : Below w.heap.size w wB := by rw [hwB]; exact (Below.refl _ _).alloc (Nat.le_refl _) _
 have hx0 : Blk wB w.heap.size [.int .i64 t.states, .int .i64 t.initial, lv, ev] 29 := by rw [hwB]; exact Blk.new w _ _
 have HB0 := Lib.hid hb0
 have HWB := Lib.hid hwB
 obtain ⟨bx, hbx⟩ : ∃ bx, bx = w.heap.size := ⟨_, rfl⟩
 rw [← hbx] at hx0
 have HBX := Lib.hid hbx
 have hbw := hx0.lt
 have hD : Below wB.heap.size wB wB.drew := (Below.refl _ _).drew
 have HD := Lib.hid hD
 have W0 := keeps hD hbw (hx0.cell 0 rfl)
 have W1 := keeps hD hbw (hx0.cell 1 rfl)
 have W2 := keeps hD hbw (hx0.cell 2 rfl)
 have W3 := keeps hD hbw (hx0.cell 3 rfl)
 have V0 := hx0.cell 0 rfl
 have V1 := hx0.cell 1 rfl
 have V2 := hx0.cell 2 rfl
 have V3 := hx0.cell 3 rfl
 have hb1 : Below w.heap.size w wB.drew := hb0.trans (hD.mono hb0.size)
 have HF := Lib.hid (follow_any lo lo2 t lv ev sv cur t.labels[k] wB.drew hv (hl.below hb1) (he.below hb1) (hs.below hb1))
 have HB1 := Lib.hid hb1
 obtain ⟨l, hl2⟩ : ∃ l, l = t.labels[k] := ⟨_, rfl⟩
 rw [← hl2] at HF HIN HND HN ⊢
 clear hv hl he hs hfi hb0 hx0 hwB hbx hD hl2 hb1
 go_enter Tryz.func49, Tryz.ntmps49
 go_wp2
 rw [← HWB.out, ← HBX.out]
 go_region_held3 (fun w' => w'.cell? ⟨bx, 0, none⟩ = some (.int .i64 t.states) ∧ w'.cell? ⟨bx, 1, none⟩ = some (.int .i64 t.initial) ∧ w'.cell? ⟨bx, 2, none⟩ = some lv ∧ w'.cell? ⟨bx, 3, none⟩ = some ev)
  (first
   | (refine ⟨?_, ?_, ?_, ?_⟩ <;> assumption)
   | go_keep)
  (first
   | (go_at_call 74; refine Calls.mono HF.out ?_; rintro e w9 ⟨v9, rfl, hb9, ho9⟩; have k0 := keeps hb9 (by simp; omega) W0; have k1 := keeps hb9 (by simp; omega) W1; have k2 := keeps hb9 (by simp; omega) W2; have k3 := keeps hb9 (by simp; omega) W3)
   | (go_at_call 42; refine Calls.mono (internal_any lo wB.drew.heap.size t lv ev v9 (followL t cur l) w9 HV.out (HL.out.below (HB1.out.trans (hb9.mono HB1.out.size))) (HE.out.below (HB1.out.trans (hb9.mono HB1.out.size))) (SliceK.of_owns (enc := encI) encI_len rfl (by rw [flat_encI]; exact ho9)) HIN.out HND.out) ?_; rintro e w8 ⟨v8, rfl, hb8, ho8⟩; have k4 := keeps hb8 (by have := hb9.size; simp at this; omega) k0; have k5 := keeps hb8 (by have := hb9.size; simp at this; omega) k1; have k6 := keeps hb8 (by have := hb9.size; simp at this; omega) k2; have k7 := keeps hb8 (by have := hb9.size; simp at this; omega) k3))
 rw [HN.out] at ho8
 have hz := hb9.size
 have hz2 := HB1.out.size
 have HBF := Lib.hid (HB1.out.trans ((hb9.trans (hb8.mono hz)).mono hz2))
 have HOF := Lib.hid (own_lower ho8 (Nat.le_trans hz2 hz))
 clear hb8 hb9 ho8 ho9 k0 k1 k2 k3 k4 k5 k6 k7 W0 W1 W2 W3 V0 V1 V2 V3
 go_wp2
 go_ret
 exact ⟨_, rfl, HBF.out, HOF.out⟩

end Go.Proofs.YtmhpfmanagbggaaGreatDoor

namespace Go.Proofs.YtmhpfmanagbggaaGreatDoor
open Go Go.RowKit

/-- One row as a slice. -/
theorem OwnIntss.rowAt {eo ei lo : Nat} {w : World} {v : Value} {vs : List Value} {rows : List (List Int)} (h : OwnIntss eo ei lo w v vs rows) {n : Nat} (hn : n < rows.length) :
  ∃ b c u, v = .slice (some ⟨b, 0, none⟩) rows.length c ∧ b < w.heap.size ∧ w.cell? ⟨b, n, none⟩ = some u ∧ w.ownsRow lo ei 1 u rows[n].length (rows[n].map (Value.int .i64)) ∧ SliceK 1 encI lo w u rows[n] := by
 obtain ⟨h1, h2, h3, -, -⟩ := h
 have hnv : n < vs.length := by omega
 have h4 := h3 n hnv hn
 rcases h2.2 with ⟨-, h⟩ | ⟨b, c, cur, rfl, -, hg, -⟩
 ·omega
 ·have hl := (Array.getElem?_eq_some_iff.1 hg).1
  have c1 := h2.cellAt n (by omega)
  rw [List.getElem?_eq_getElem hnv] at c1
  exact ⟨b, c, vs[n], by rw [h1], hl, c1, h4, SliceK.of_owns (enc := encI) encI_len rfl (by rw [flat_encI]; exact h4)⟩

end Go.Proofs.YtmhpfmanagbggaaGreatDoor

namespace Go.Proofs.YtmhpfmanagbggaaGreatDoor
open Go Go.RowKit

def isVal (n : Int) : Bool := decide (0 ≤ n) && decide (n ≤ 63)

theorem areValues1_any (n : Int) (w : World) : Calls Tryz.prog 198 #[.int .i64 n] w fun e w' => e = .returned (.bool (!isVal n)) ∧ w = w' := by
 go_enter Tryz.func198, Tryz.ntmps198
 go_wp2_with fail
 refine (isValue_any _ _).mono ?_
 rintro e w' ⟨rfl, rfl⟩
 have HF : Hid ((!decide (0 ≤ n) || !decide (n ≤ 63)) = !isVal n) := by unfold Hid isVal; rw [Bool.not_and]
 go_wp2_with fail
 go_ret
 exact ⟨ret_bool HF.out, rfl⟩

set_option maxHeartbeats 1000000 in
theorem IndexFunc_vals (lo : Nat) (v : Value) (xs : List Int) (w : World) (hv : SliceK 1 encI lo w v xs) :
  Calls Tryz.prog 109 #[v, .func (.func 198) #[] #[]] w fun e w' => ∃ r : Int, e = .returned (.int .i64 r) ∧ decide (0 ≤ r) = !xs.all isVal ∧ w = w' := by
 obtain ⟨a, c, rfl, hcn, hcc, hrow⟩ := hv
 go_enter Tryz.func109, Tryz.ntmps109
 go_wp2_with fail
 go_loop [8] (fun i => ∃ k : Nat, k ≤ xs.length ∧ i = .int .i64 k ∧ ∀ j (h : j < xs.length), j < k → isVal xs[j] = true) (fun i => xs.length - (intOf i).toNat)
 case atStart => exact ⟨0, Nat.zero_le _, rfl, fun _ _ h => by omega⟩
 case round =>
  obtain ⟨k, hk, rfl, ha⟩ := hrel
  have HA := Lib.hid ha
  clear ha
  by_cases hlt : k < xs.length
  ·obtain ⟨b1, o1, rfl, -, hbs, c1⟩ := hrow.one hlt
   simp only [encI, List.getElem?_cons_zero] at c1
   clear hrow
   obtain ⟨b, hb⟩ : ∃ b, isVal xs[k] = b := ⟨_, rfl⟩
   have HB := Lib.hid hb
   clear hb
   go_wp2_with fail
   refine (areValues1_any _ _).mono ?_
   rintro e w' ⟨rfl, rfl⟩
   rw [HB.out]
   cases b
   ·go_wp2_with fail
    go_ret
    refine ⟨_, rfl, ?_, rfl⟩
    have h1 : xs.all isVal = false := by
     rw [List.all_eq_false]
     exact ⟨xs[k], List.getElem_mem _, by rw [HB.out]; simp⟩
    rw [h1]; simp
   ·go_wp2_with fail
    go_round
    case rel => exact ⟨k + 1, by omega, by go_num, fun j h hj => by
     by_cases e : j = k
     ·subst e; exact HB.out
     ·exact HA.out j h (by omega)⟩
    case measure => simp [intOf]; omega
  ·clear hrow
   go_wp2_with fail
   go_ret
   refine ⟨_, rfl, ?_, rfl⟩
   have h1 : xs.all isVal = true := by
    rw [List.all_eq_true]
    intro x hxm
    obtain ⟨j, hj, rfl⟩ := List.mem_iff_getElem.1 hxm
    exact HA.out j hj (by omega)
   rw [h1]; simp

theorem ContainsFunc_vals (lo : Nat) (v : Value) (xs : List Int) (w : World) (hv : SliceK 1 encI lo w v xs) :
  Calls Tryz.prog 82 #[v, .func (.func 198) #[] #[]] w fun e w' => e = .returned (.bool (!xs.all isVal)) ∧ w = w' := by
 have HV := Lib.hid hv
 clear hv
 go_enter Tryz.func82, Tryz.ntmps82
 go_wp2_with fail
 refine (IndexFunc_vals lo v xs _ HV.out).mono ?_
 rintro e w' ⟨r, rfl, hr, rfl⟩
 have HR := Lib.hid hr
 clear hr
 go_wp2_with fail
 go_ret
 exact ⟨ret_bool HR.out, rfl⟩

theorem areValues_any (lo : Nat) (v : Value) (xs : List Int) (w : World) (hv : SliceK 1 encI lo w v xs) :
  Calls Tryz.prog 168 #[v] w fun e w' => e = .returned (.bool (xs.all isVal)) ∧ w = w' := by
 have HV := Lib.hid hv
 clear hv
 go_enter Tryz.func168, Tryz.ntmps168
 go_wp2_with fail
 refine (ContainsFunc_vals lo v xs _ HV.out).mono ?_
 rintro e w' ⟨rfl, rfl⟩
 go_wp2_with fail
 go_ret
 exact ⟨ret_bool (by simp), rfl⟩

end Go.Proofs.YtmhpfmanagbggaaGreatDoor

namespace Go.Proofs.YtmhpfmanagbggaaGreatDoor
open Go Go.RowKit

/-- Words read as numbers. -/
def decs (ss : List ByteArray) : List Int := ss.map fun s => (readDec s.data.toList).getD 0
def decsOk (ss : List ByteArray) : Bool := ss.all fun s => (readDec s.data.toList).isSome
def RetNums (ss : List ByteArray) (w : World) (e : Ending) (w' : World) : Prop :=
 ∃ v, e = .returned (.tuple #[v, .bool (decsOk ss)]) ∧ Below w.heap.size w w' ∧ (decsOk ss = true → w'.ownsRow w.heap.size 2 1 v (decs ss).length ((decs ss).map (Value.int .i64)))

theorem decsOk_none {ss : List ByteArray} {j : Nat} (h : j < ss.length) (hn : readDec ss[j].data.toList = none) : decsOk ss = false := by
 unfold decsOk
 rw [List.all_eq_false]
 exact ⟨ss[j], List.getElem_mem _, by rw [hn]; simp⟩

set_option maxRecDepth 100000 in
set_option maxHeartbeats 2000000 in
theorem readNumbers_any (lo : Nat) (v : Value) (ss : List ByteArray) (w : World) (hs : ∀ i (h : i < ss.length), ss[i].size ≤ 1073741824) (hl : ss.length ≤ 1073741824) (hv : SliceK 1 encS lo w v ss) (g : Glob w) :
  Calls Tryz.prog 115 #[v] w (RetNums ss w) := by
 obtain ⟨a, c, rfl, hcn, hcc, hrow⟩ := hv
 obtain ⟨i0, hi, hz0, hz1, hz2⟩ := info_parts info_int64
 have G := Lib.hid g
 have HSZ := Lib.hid hs
 clear g hs
 go_enter Tryz.func115, Tryz.ntmps115
 go_wp2_with fail
 go_loopw [4, 11] (fun v i wr => ∃ k : Nat, k ≤ ss.length ∧ i = .int .i64 k ∧ Below w.heap.size w wr ∧ wr.ownsRow w.heap.size 2 1 v k ((decs (ss.take k)).map (Value.int .i64)) ∧ ∀ q (h : q < ss.length), q < k → (readDec ss[q].data.toList).isSome = true) (fun _ i _ => ss.length - (intOf i).toNat)
 case atStart => exact ⟨0, Nat.zero_le _, rfl, Below.refl _ _, World.ownsRow_nil _ _ _ _, fun _ _ h => by omega⟩
 case round =>
  obtain ⟨k, hk, rfl, hb, ho, ha⟩ := hrel
  have HA := Lib.hid ha
  have HB := Lib.hid hb
  have HO := Lib.hid ho
  have hsz := hb.size
  clear ha hb ho
  by_cases hlt : k < ss.length
  ·obtain ⟨b1, o1, rfl, -, hbs, c1⟩ := (hrow.below HB.out).one hlt
   simp only [encS, List.getElem?_cons_zero] at c1
   clear hrow
   obtain ⟨p, hp⟩ : ∃ p, p = ss[k] := ⟨_, rfl⟩
   rw [← hp] at c1
   have HP := Lib.hid hp
   have hpz : p.size ≤ 1073741824 := by rw [hp]; exact HSZ.out k hlt
   clear hp
   obtain ⟨o, hd⟩ : ∃ o, readDec p.data.toList = o := ⟨_, rfl⟩
   have HD := Lib.hid hd
   clear hd
   go_wp2_with fail
   refine (ReadDecimal_any _ _ hpz (G.out.below HB.out)).mono ?_
   rintro e w1 ⟨rfl, hb1⟩
   have HB1 := Lib.hid hb1
   have hs1 := hb1.size
   clear hb1
   rw [HD.out]
   cases o with
   | none =>
    simp only [Option.isSome_none, Option.getD_none]
    go_wp2_with fail
    go_ret2
    have hf : decsOk ss = false := decsOk_none hlt (by rw [← HP.out]; exact HD.out)
    exact ⟨.slice none 0 0, by rw [hf]; rfl, HB.out.trans (HB1.out.mono hsz), fun h => by rw [hf] at h; cases h⟩
   | some n =>
    simp only [Option.isSome_some, Option.getD_some]
    have HO1 := Lib.hid (owns_below HO.out HB1.out)
    have HBB := Lib.hid (HB.out.trans (HB1.out.mono hsz))
    clear c1
    go_wp2_with (at_builtin; refine wpList_append_own _ rfl _ _ 30 rfl w.heap.size 2 i0 (.int .i64 0) 1 8 Tryz.underlying30 hi hz0 hz1 hz2 rfl (by decide) _ _ _ rfl (HO1.out.alloc _) ⟨w1.heap.size, 0, none⟩ 1 1 [.int .i64 n] rfl rfl ?c1 ?c2 ?c3 ?c4 ?c5 ?_)
    case c1 => exact (cell_one_new _ _ _)
    case c2 => intro u hu; simp at hu; subst hu; rfl
    case c3 => simp [maxLen]; omega
    case c4 => omega
    case c5 => simp; omega
    intro v' w3 ho1 hg1 _
    have HO2 : Hid (w3.ownsRow w.heap.size 2 1 v' (k + 1) ((decs (ss.take (k + 1))).map (Value.int .i64))) := by
     have e : (decs (ss.take (k + 1))).map (Value.int .i64) = (decs (ss.take k)).map (Value.int .i64) ++ [.int .i64 n] := by
      unfold decs
      rw [List.take_succ_eq_append_getElem hlt, List.map_append, List.map_append, ← HP.out]
      simp [HD.out]
     unfold Hid
     rw [e]
     exact ho1
    have HBX : Hid (Below w.heap.size w w3) := (HBB.out.alloc (by omega) _).grown hg1 (by simp; omega) (fun b e => (HO1.out.lt b e).1)
    clear ho1 hg1
    go_wp2
    go_roundw
    case rel => exact ⟨k + 1, by omega, by go_num, HBX.out, HO2.out, fun q h h' => by
     by_cases e : q = k
     ·subst e; rw [← HP.out, HD.out]; rfl
     ·exact HA.out q h (by omega)⟩
    case measure => simp [intOf]; omega
  ·obtain rfl : k = ss.length := by omega
   have HF : Hid (decsOk ss = true) := by
    unfold Hid decsOk
    rw [List.all_eq_true]
    intro x hx
    obtain ⟨q, hq, rfl⟩ := List.mem_iff_getElem.1 hx
    exact HA.out q hq hq
   have HO2 : Hid (wr.ownsRow w.heap.size 2 1 u4 (decs ss).length ((decs ss).map (Value.int .i64))) := by
    have := HO.out
    rw [List.take_length] at this
    unfold Hid
    rw [show (decs ss).length = ss.length from by simp [decs]]
    exact this
   clear hrow HO
   go_wp2_with fail
   go_ret2
   exact ⟨_, by rw [HF.out]; rfl, HB.out, fun _ => HO2.out⟩

end Go.Proofs.YtmhpfmanagbggaaGreatDoor

namespace Go.Proofs.YtmhpfmanagbggaaGreatDoor
open Go Go.RowKit

def wordsOf (xs : List Int) : List ByteArray := xs.map fun n => ⟨(Lib.itoa n).toArray⟩

set_option maxHeartbeats 1000000 in
theorem joined_any (v : Value) (sep : ByteArray) (lo : Nat) (xs : List Int) (w : World) (hn : xs.length ≤ 1048576) (hb : ∀ i (h : i < xs.length), -9223372036854775808 ≤ xs[i] ∧ xs[i] ≤ 9223372036854775807) (hv : SliceK 1 encI lo w v xs) (g : Glob w)
  (hlen : (Lib.join ((wordsOf xs).map (·.data.toList)) sep.data.toList).length ≤ 1073741824) :
  Calls Tryz.prog 44 #[v, .string sep] w fun e w' => e = .returned (.string ⟨(Lib.join ((wordsOf xs).map (·.data.toList)) sep.data.toList).toArray⟩) ∧ Below w.heap.size w w' := by
 obtain ⟨a, ca, rfl, hna, hca, ha⟩ := hv
 obtain ⟨i0, hi, hz0, hz1, hz2⟩ := info_parts info_str
 have HBD := Lib.hid hb
 have G := Lib.hid g
 have HLEN := Lib.hid hlen
 clear hb g hlen
 go_enter Tryz.func44, Tryz.ntmps44
 go_wp2_with (at_make; refine wpList_make_full _ rfl _ _ 22 rfl w.heap.size 9 i0 _ 1 Tryz.underlying22 hi hz0 hz1 .i64 .i64 _ _ xs.length rfl rfl rfl rfl ?_ ?_ ?_ ?_)
 ·rw [hz2]; omega
 ·simp [maxLen]; omega
 ·exact Nat.le_refl _
 ·intro w1 ho hg
  rw [toList_madeCells_one] at ho
  have hb1 : Below w.heap.size w w1 := (Below.refl _ w).grown hg (Nat.le_refl _) (fun _ h => by cases h)
  clear hi hz0 hz1 hz2 i0
  have HO := Lib.hid ho
  clear ho hg
  go_wp2_with fail
  have hwl : (wordsOf xs).length = xs.length := by simp [wordsOf]
  go_loopw [13] (fun i wr => ∃ k : Nat, k ≤ xs.length ∧ i = .int .i64 k ∧ Below w.heap.size w wr ∧ w.heap.size < wr.heap.size ∧ wr.ownsRow w.heap.size 9 1 (.slice (some ⟨w.heap.size, 0, none⟩) xs.length xs.length) xs.length (((wordsOf xs).take k).map .string ++ List.replicate ((wordsOf xs).length - k) (.string ⟨#[]⟩))) (fun i _ => xs.length - (intOf i).toNat)
  case atStart => exact ⟨0, Nat.zero_le _, rfl, hb1, (HO.out.lt _ rfl).2, by simpa [hwl] using HO.out⟩
  case round =>
   obtain ⟨k, hk, rfl, hbl, hsl, ho⟩ := hrel
   clear HO hb1
   have HBL := Lib.hid hbl
   have HO1 := Lib.hid ho
   have hsz := hbl.size
   clear ho hbl
   by_cases hlt : k < xs.length
   ·obtain ⟨b1, o1, rfl, -, h1, c1⟩ := (ha.below HBL.out).one hlt
    simp only [encI, List.getElem?_cons_zero] at c1
    clear ha
    go_wp2_with fail
    refine (Decimal_any _ _ (HBD.out k hlt).1 (HBD.out k hlt).2 (G.out.below HBL.out)).mono ?_
    rintro e w2 ⟨rfl, hb2⟩
    have hlt' : k < (wordsOf xs).length := by omega
    have ho3 := owns_below HO1.out hb2
    have c2 := ho3.cellAt k (by omega)
    rw [filled_get _ _ _ _ hlt'] at c2
    have c3 := ho3.frozenAt k
    have ho2 := ho3.stored k (.string (wordsOf xs)[k])
    rw [filled_set _ _ _ _ hlt'] at ho2
    have hwk : (wordsOf xs)[k] = ⟨(Lib.itoa xs[k]).toArray⟩ := by simp [wordsOf]
    rw [hwk] at ho2
    have HO := Lib.hid ho2
    have HB2 := Lib.hid (HBL.out.trans (hb2.mono hsz))
    have hs2 := hb2.size
    clear ho2 ho3 hb2 HO1 HBL c1
    go_wp2
    go_roundw
    case rel => exact ⟨k + 1, by omega, by go_num, HB2.out.setCell (by exact Nat.le_refl _) _, by simp; omega, HO.out.1⟩
    case measure => simp [intOf]; omega
   ·clear ha
    obtain rfl : k = xs.length := by omega
    have ho4 : wr.ownsRow w.heap.size 9 1 (.slice (some ⟨w.heap.size, 0, none⟩) (wordsOf xs).length (wordsOf xs).length) (wordsOf xs).length ((wordsOf xs).flatMap encS) := by
     have := HO1.out
     rw [flat_encS, hwl]
     rw [hwl, ← hwl, List.take_length, Nat.sub_self, List.replicate_zero, List.append_nil, hwl] at this
     exact this
    have HC : Hid (∀ (j : Nat) x, (wordsOf xs)[j]? = some x → wr.cell? ⟨w.heap.size, 0 + j, none⟩ = some (.string x)) := by
     intro j x hx
     obtain ⟨hj, rfl⟩ := List.getElem?_eq_some_iff.1 hx
     have := ho4.cellAt j (by omega)
     rw [Nat.zero_add, this, flat_encS]
     simp [hj]
    clear ho4
    have HJ := Tryz.strings_Join w.heap.size 0 xs.length (wordsOf xs) sep wr HC.out hsl (by omega) (by omega) (Nat.le_trans HLEN.out (by decide))
    rw [hwl] at HJ
    have HJJ := Lib.hid HJ
    clear HJ
    go_wp2_with fail
    refine Calls.mono HJJ.out ?_
    rintro e w2 ⟨rfl, hb2⟩
    have HB2 := Lib.hid (HBL.out.trans (hb2.mono hsz))
    clear hb2
    go_wp2_with fail
    go_ret
    exact ⟨rfl, HB2.out⟩

end Go.Proofs.YtmhpfmanagbggaaGreatDoor

namespace Go.Proofs.YtmhpfmanagbggaaGreatDoor
open Go Go.RowKit

def labB (name : List UInt8) (xs : List Int) : Bool := if name = tauL then xs.isEmpty else isAction name && decide (xs.length ≤ 2) && xs.all isVal
def labTxt (name : List UInt8) (xs : List Int) : List UInt8 := if xs.isEmpty then name else name ++ 40 :: (Lib.join ((wordsOf xs).map (·.data.toList)) [44] ++ [41])
def RetLab (name : List UInt8) (xs : List Int) (w : World) (e : Ending) (w' : World) : Prop :=
 ∃ t : ByteArray, e = .returned (.tuple #[.string t, .bool (labB name xs)]) ∧ Below w.heap.size w w' ∧ (labB name xs = true → t.data.toList = labTxt name xs)

theorem two_digits : ∀ n : Nat, n < 64 → (Lib.decDigits n).length ≤ 2 := by
 intro n hn
 rw [Lib.decDigits_length]
 by_cases h : n < 10
 ·rw [Lib.nDigits_small h]; decide
 ·rw [Lib.nDigits_big h, Lib.nDigits_small (by omega)]; decide
theorem itoa_short {n : Int} (h : isVal n = true) : (Lib.itoa n).length ≤ 2 := by
 unfold isVal at h
 simp at h
 unfold Lib.itoa
 rw [if_neg (by omega)]
 exact two_digits _ (by omega)
theorem join_short {xs : List Int} (h2 : xs.length ≤ 2) (h : xs.all isVal = true) : (Lib.join ((wordsOf xs).map (·.data.toList)) [44]).length ≤ 5 := by
 match xs, h2, h with
 | [], _, _ => simp [wordsOf, Lib.join]
 | [x], _, h =>
  have hx := itoa_short (List.all_eq_true.1 h x (by simp))
  simp [wordsOf, Lib.join_length, Lib.lens]; omega
 | [x, y], _, h =>
  have hx := itoa_short (List.all_eq_true.1 h x (by simp))
  have hy := itoa_short (List.all_eq_true.1 h y (by simp))
  simp [wordsOf, Lib.join_length, Lib.lens]; omega

set_option maxRecDepth 100000 in
set_option maxHeartbeats 1000000 in
theorem labelOf_any (v : Value) (s : ByteArray) (lo : Nat) (xs : List Int) (w : World) (hs : s.size ≤ 1073741824) (hn : xs.length ≤ 1073741824) (hv : SliceK 1 encI lo w v xs) (g : Glob w) :
  Calls Tryz.prog 118 #[.string s, v] w (RetLab s.data.toList xs w) := by
 have HV := Lib.hid hv
 obtain ⟨a, ca, rfl, -, -, -⟩ := hv
 by_cases ht : s.toList = tauL
 ·have hb : Hid (labB s.data.toList xs = ((xs.length : Int) == 0)) := by
   unfold Hid labB
   rw [if_pos (by rw [← Lib.toList_data]; exact ht)]
   cases xs with
   | nil => rfl
   | cons x r =>
    have : (((x :: r).length : Int) == 0) = false := by rw [beq_eq_false_iff_ne]; simp; omega
    rw [this]; rfl
  have ht' : (s.toList == tauL) = true := by simpa using ht
  unfold tauL at ht ht'
  go_enter Tryz.func118, Tryz.ntmps118
  go_wp2_with fail
  go_ret2
  refine ⟨⟨#[116, 97, 117]⟩, by rw [hb.out]; rfl, Below.refl _ _, fun h => ?_⟩
  rw [hb.out] at h
  have h0 : xs = [] := List.eq_nil_of_length_eq_zero (by simpa using h)
  subst h0
  unfold labTxt
  have e : s.data.toList = [116, 97, 117] := by rw [← Lib.toList_data]; exact ht
  rw [e]
  rfl
 ·have hnt : ¬ s.data.toList = tauL := by rw [← Lib.toList_data]; exact ht
  have ht' : (s.toList == tauL) = false := by simpa using ht
  have HL : Hid (labB s.data.toList xs = (isAction s.data.toList && decide (xs.length ≤ 2) && xs.all isVal)) := by unfold Hid labB; rw [if_neg hnt]
  unfold tauL at ht ht' hnt
  obtain ⟨b, hb⟩ : ∃ b, isAction s.data.toList = b := ⟨_, rfl⟩
  have HB := Lib.hid hb
  clear hb
  cases b
  ·have HF : Hid (labB s.data.toList xs = false) := by unfold Hid; rw [HL.out, HB.out]; rfl
   go_enter Tryz.func118, Tryz.ntmps118
   go_wp2_with fail
   refine (IsAction_any _ _ hs).mono ?_
   rintro e w' ⟨rfl, rfl⟩
   rw [HB.out]
   go_wp2_with fail
   go_ret2
   exact ⟨⟨#[]⟩, by rw [HF.out]; rfl, Below.refl _ _, fun h => by rw [HF.out] at h; cases h⟩
  ·by_cases h2 : 2 < (xs.length : Int)
   ·have HF : Hid (labB s.data.toList xs = false) := by unfold Hid; rw [HL.out, decide_eq_false (by omega)]; simp
    go_enter Tryz.func118, Tryz.ntmps118
    go_wp2_with fail
    refine (IsAction_any _ _ hs).mono ?_
    rintro e w' ⟨rfl, rfl⟩
    rw [HB.out]
    go_wp2_with fail
    go_ret2
    exact ⟨⟨#[]⟩, by rw [HF.out]; rfl, Below.refl _ _, fun h => by rw [HF.out] at h; cases h⟩
   ·cases hall : xs.all isVal
    ·have HF : Hid (labB s.data.toList xs = false) := by unfold Hid; rw [HL.out, hall]; simp
     have HALL := Lib.hid hall
     clear hall
     go_enter Tryz.func118, Tryz.ntmps118
     go_wp2_with fail
     refine (IsAction_any _ _ hs).mono ?_
     rintro e w' ⟨rfl, rfl⟩
     rw [HB.out]
     go_wp2_with fail
     refine (areValues_any lo _ xs _ HV.out).mono ?_
     rintro e w' ⟨rfl, rfl⟩
     rw [HALL.out]
     go_wp2_with fail
     go_ret2
     exact ⟨⟨#[]⟩, by rw [HF.out]; rfl, Below.refl _ _, fun h => by rw [HF.out] at h; cases h⟩
    ·have HF : Hid (labB s.data.toList xs = true) := by unfold Hid; rw [HL.out, hall, HB.out, decide_eq_true (by omega)]; rfl
     have HALL := Lib.hid hall
     clear hall
     by_cases h0 : xs.length = 0
     ·have h0' : ((xs.length : Int) == 0) = true := by rw [beq_iff_eq]; omega
      have HT : Hid (labTxt s.data.toList xs = s.data.toList) := by unfold Hid labTxt; rw [if_pos (by rw [List.eq_nil_of_length_eq_zero h0]; rfl)]
      have HV0 : Hid (SliceK 1 encI lo w (.slice a 0 ca) xs) := by have := HV.out; rw [h0] at this; exact this
      go_enter Tryz.func118, Tryz.ntmps118
      go_wp2_with fail
      refine (IsAction_any _ _ hs).mono ?_
      rintro e w' ⟨rfl, rfl⟩
      rw [HB.out]
      go_wp2_with fail
      refine (areValues_any lo _ xs _ HV0.out).mono ?_
      rintro e w' ⟨rfl, rfl⟩
      rw [HALL.out]
      go_wp2_with fail
      go_ret2
      exact ⟨s, by rw [HF.out]; rfl, Below.refl _ _, fun _ => HT.out.symm⟩
     ·have h0' : ((xs.length : Int) == 0) = false := by rw [beq_eq_false_iff_ne]; omega
      have HT : Hid (labTxt s.data.toList xs = s.data.toList ++ 40 :: (Lib.join ((wordsOf xs).map (·.data.toList)) [44] ++ [41])) := by
       unfold Hid labTxt; rw [if_neg (by rw [List.isEmpty_iff_length_eq_zero]; exact h0)]
      have HLEN : Hid ((Lib.join ((wordsOf xs).map (·.data.toList)) (⟨#[44]⟩ : ByteArray).data.toList).length ≤ 1073741824) := Nat.le_trans (join_short (by omega) HALL.out) (by decide)
      have HBD : Hid (∀ i (h : i < xs.length), -9223372036854775808 ≤ xs[i] ∧ xs[i] ≤ 9223372036854775807) := by
       intro i hi
       have := List.all_eq_true.1 HALL.out xs[i] (List.getElem_mem _)
       unfold isVal at this
       simp at this
       omega
      have hlen : (Lib.join (List.map (fun x => x.data.toList) (wordsOf xs)) [44]).length ≤ 1073741824 := HLEN.out
      have hq1 : ¬ 9223372036854775807 < s.size + 1 + (Lib.join (List.map (fun x => x.data.toList) (wordsOf xs)) [44]).length := by omega
      have hq2 : ¬ 9223372036854775807 < s.size + 1 + (Lib.join (List.map (fun x => x.data.toList) (wordsOf xs)) [44]).length + 1 := by omega
      clear hlen
      go_enter Tryz.func118, Tryz.ntmps118
      go_wp2_with fail
      refine (IsAction_any _ _ hs).mono ?_
      rintro e w' ⟨rfl, rfl⟩
      rw [HB.out]
      go_wp2_with fail
      refine (areValues_any lo _ xs _ HV.out).mono ?_
      rintro e w' ⟨rfl, rfl⟩
      rw [HALL.out]
      go_wp2_with fail
      refine (joined_any _ ⟨#[44]⟩ lo xs _ (by omega) HBD.out HV.out g HLEN.out).mono ?_
      rintro e w2 ⟨rfl, hb2⟩
      have HB2 := Lib.hid hb2
      clear hb2
      go_wp2_with fail
      go_ret2
      refine ⟨_, by rw [HF.out]; rfl, HB2.out, fun _ => ?_⟩
      rw [HT.out]
      simp

end Go.Proofs.YtmhpfmanagbggaaGreatDoor
