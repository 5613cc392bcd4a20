/-
  Lists of texts and lists of such lists of the call's own: how they lie in memory.
  The reference's l11Make: a system out of texts and edges whose labels are places of the texts.
  The library's slices.SortFunc at any list of edges of the call's own.
  The traces of a deterministic system in the order found. Plain definitions; no program in sight.
  The deterministic system of a valid one is valid and deterministic. Plain.
  Two deterministic systems that take the same labels: the first trace on which they differ. Plain definitions; no program in sight.
  The rows and the edges of the deterministic system found: each edge leads from a row to the set behind it. Plain.
  Traces with their states, how they lie in the program's memory; what both texts return as traces.
  The net of sets in memory: its rows and its edges, of the call's own.
  What the implementation's functions on lists of values and on labels compute.
  What the implementation's readNumbers computes.
-/
import Derived.Test.YtkbgncenjfebdaaGreatDoorT10
import Derived.Test.YtkbgncenjfebdaaGreatDoorT7
import Derived.Test.YtkbgncenjfebdaaGreatDoorT6
import Derived.Test.YtkbgncenjfebdaaGreatDoorT9
import Derived.Sort.OwnSorted
import Derived.Test.YtkbgncenjfebdaaGreatDoorT1
import Derived.Maps.AppendAt
import Derived.Test.YtkbgncenjfebdaaGreatDoorT8
import Derived.ArgAppend
import Derived.Deep.AppendLies
import Derived.Test.YtkbgncenjfebdaaGreatDoorT3
namespace Go.Proofs.YtkbgncenjfebdaaGreatDoor
open Go Go.RowKit

/-- A slice of slices of texts. -/
def StrssAt (lo : Nat) (w : World) (v : Value) (xss : List (List ByteArray)) : Prop :=
 ∃ vs : List Value, vs.length = xss.length ∧ SliceK 1 encV lo w v vs ∧ ∀ i (h : i < vs.length) (h' : i < xss.length), SliceK 1 encS lo w vs[i] xss[i]
theorem StrssAt.below {lo : Nat} {w w' : World} {v : Value} {xss : List (List ByteArray)} (h : StrssAt lo w v xss) (hb : Below w.heap.size w w') : StrssAt lo w' v xss := by
 obtain ⟨vs, h1, h2, h3⟩ := h
 exact ⟨vs, h1, h2.below hb, fun i hi hi' => (h3 i hi hi').below hb⟩
def txts (xs : List ByteArray) : List Value := xs.map Value.string
/-- A slice of slices of texts of the call's own. -/
structure OwnStrss (lo : Nat) (w : World) (v : Value) (vs : List Value) (xss : List (List ByteArray)) : Prop where
 out : w.ownsRow lo 22 1 v vs.length vs
 rows : Pile 9 lo w vs (xss.map txts)
theorem OwnStrss.len {lo : Nat} {w : World} {v : Value} {vs : List Value} {xss : List (List ByteArray)} (h : OwnStrss lo w v vs xss) : vs.length = xss.length := by have := h.rows.len; simpa using this
theorem OwnStrss.none (lo : Nat) (w : World) : OwnStrss lo w (.slice none 0 0) [] [] := ⟨World.ownsRow_nil _ _ _ _, Pile.nil _ _ _⟩
theorem OwnStrss.below {lo : Nat} {w w' : World} {v : Value} {vs : List Value} {xss : List (List ByteArray)} (h : OwnStrss lo w v vs xss) (hb : Below w.heap.size w w') : OwnStrss lo w' v vs xss := ⟨owns_below h.out hb, h.rows.below hb⟩
theorem OwnStrss.lower {lo lo' : Nat} {w : World} {v : Value} {vs : List Value} {xss : List (List ByteArray)} (h : OwnStrss lo w v vs xss) (hl : lo' ≤ lo) : OwnStrss lo' w v vs xss := ⟨own_lower h.out hl, h.rows.lower hl⟩
theorem OwnStrss.turns {base lo hi : Nat} {w w' : World} {v : Value} {vs : List Value} {xss : List (List ByteArray)} (h : OwnStrss base w v vs xss) (ht : Turns lo hi w w') (hb : hi ≤ base) : OwnStrss base w' v vs xss :=
 ⟨owns_turns h.out ht (fun b e => .inr (Nat.le_trans hb (h.out.lt b e).1)), h.rows.turns ht hb⟩
theorem OwnStrss.rowAt {lo : Nat} {w : World} {v : Value} {vs : List Value} {xss : List (List ByteArray)} (h : OwnStrss lo w v vs xss) (i : Nat) (hi : i < vs.length) (hi' : i < xss.length) : w.ownsRow lo 9 1 vs[i] xss[i].length (txts xss[i]) := by
 have := h.rows.row i hi (by simpa using hi')
 simpa [txts] using this
theorem OwnStrss.at {lo : Nat} {w : World} {v : Value} {vs : List Value} {xss : List (List ByteArray)} (h : OwnStrss lo w v vs xss) : StrssAt lo w v xss :=
 ⟨vs, h.len, SliceK.of_owns encV_len rfl (by rw [flat_encV]; exact h.out), fun i hi hi' => SliceK.of_owns (e := 9) encS_len rfl (by rw [flat_encS]; exact h.rowAt i hi hi')⟩

/-- A list of texts of the call's own. -/
def OwnStrs (lo : Nat) (w : World) (v : Value) (xs : List ByteArray) : Prop := w.ownsRow lo 9 1 v xs.length (txts xs)
theorem OwnStrs.below {lo : Nat} {w w' : World} {v : Value} {xs : List ByteArray} (h : OwnStrs lo w v xs) (hb : Below w.heap.size w w') : OwnStrs lo w' v xs := owns_below h hb
theorem OwnStrs.lower {lo lo' : Nat} {w : World} {v : Value} {xs : List ByteArray} (h : OwnStrs lo w v xs) (hl : lo' ≤ lo) : OwnStrs lo' w v xs := own_lower h hl
theorem OwnStrs.turns {base lo hi : Nat} {w w' : World} {v : Value} {xs : List ByteArray} (h : OwnStrs base w v xs) (ht : Turns lo hi w w') (hb : hi ≤ base) : OwnStrs base w' v xs := owns_turns h ht (fun b e => .inr (Nat.le_trans hb (World.ownsRow.lt h b e).1))
theorem OwnStrs.at {lo : Nat} {w : World} {v : Value} {xs : List ByteArray} (h : OwnStrs lo w v xs) : SliceK 1 encS lo w v xs := SliceK.of_owns (e := 9) encS_len rfl (by rw [flat_encS]; exact h)
theorem txts_len (xs : List ByteArray) : (txts xs).length = xs.length := by simp [txts]
def totalS : List (List ByteArray) → Nat
 | [] => 0
 | xs :: r => xs.length + totalS r
theorem totalS_append (a b : List (List ByteArray)) : totalS (a ++ b) = totalS a + totalS b := by
 induction a with
 | nil => simp [totalS]
 | cons x r ih => simp [totalS, ih]; omega
theorem totalS_take (xss : List (List ByteArray)) (j : Nat) (h : j < xss.length) : totalS (xss.take (j + 1)) = totalS (xss.take j) + xss[j].length := by
 rw [List.take_succ_eq_append_getElem h, totalS_append]; simp [totalS]
theorem totalS_take_le (xss : List (List ByteArray)) (j : Nat) : totalS (xss.take j) ≤ totalS xss := by
 conv => rhs; rw [← List.take_append_drop j xss, totalS_append]
 omega
theorem totalS_few {n : Nat} : ∀ {l : List (List ByteArray)}, (∀ r ∈ l, r.length ≤ n) → totalS l ≤ n * l.length
 | [], _ => by simp [totalS]
 | a :: l, h => by
  have h1 := h a (by simp)
  have h2 := totalS_few (l := l) (fun r hr => h r (List.mem_cons_of_mem _ hr))
  simp only [totalS, List.length_cons, Nat.mul_add, Nat.mul_one]
  omega

end Go.Proofs.YtkbgncenjfebdaaGreatDoor

namespace Go.Proofs.YtkbgncenjfebdaaGreatDoor
open Go Go.RowKit

/-- An edge whose label is a place of the texts, as an edge of the system with the labels L. -/
def makeE (L texts : List ByteArray) (e : Edge) : Edge := ⟨e.src, textAt L (texts.getD e.lab.toNat ByteArray.empty), e.dst⟩
/-- The edges laid so far. -/
def MkEdges (L texts : List ByteArray) (es R : List Edge) : Prop := RiseE R ∧ R.length ≤ es.length ∧ ∀ x, x ∈ R ↔ x ∈ es.map (makeE L texts)
theorem MkEdges.nil (L texts : List ByteArray) : MkEdges L texts [] [] := ⟨List.Pairwise.nil, Nat.le_refl _, fun _ => Iff.rfl⟩
theorem MkEdges.put {L texts : List ByteArray} {es R R2 : List Edge} {k : Nat} (h : MkEdges L texts (es.take k) R) (hk : k < es.length) (hp : PutIs R (makeE L texts es[k]) R2) : MkEdges L texts (es.take (k + 1)) R2 := by
 obtain ⟨h1, h2, h3⟩ := h
 obtain ⟨p1, p2, p3⟩ := hp
 refine ⟨p1, ?_, fun x => ?_⟩
 ·rw [List.length_take] at h2 ⊢; omega
 ·rw [p3, h3, List.take_succ_eq_append_getElem hk, List.map_append, List.mem_append, List.map_singleton, List.mem_singleton]
theorem lmake_results {w : World} {b : Nat} {v0 v1 v2 v3 : Value} {tmps : Array Value} (hc : tmps.getD 8 undef = .pointer (some ⟨b, 0, none⟩)) (hb : Blk w b [v0, v1, v2, v3] 30) :
  (results Tryz.f92 tmps).run Tryz.prog w = .ok (.agg #[v0, v1, v2, v3]) w := by
 have h0 := hb.cell 0 rfl
 have h1 := hb.cell 1 rfl
 have h2 := hb.cell 2 rfl
 have h3 := hb.cell 3 rfl
 simp only [Array.getD_eq_getD_getElem?] at hc
 simp [results, Tryz.results92, go_sem, hc, h0, h1, h2, h3, Result.andThen]
theorem blk_kept {w w' : World} {b : Nat} {cs : List Value} {t : TypeId} (h : Blk w b cs t) {base e size n : Nat} {v : Value} {xs : List Value} (ho : w.ownsRow base e size v n xs) (hg : w.grownBy w' v.ownBlock) (he : e ≠ t) : Blk w' b cs t :=
 (hg.block b h.lt (blk_own_neL h ho he)).trans h
/-- What l11Make returns. -/
def RetMk (n i : Int) (texts : List ByteArray) (es : List Edge) (w : World) (e : Ending) (w' : World) : Prop :=
 Below w.heap.size w w' ∧ ∃ (lv ev : Value) (R : List Edge), e = .returned (.agg #[.int .i64 n, .int .i64 i, lv, ev]) ∧ OwnStrs w.heap.size w' lv (labSet (tauT :: texts)) ∧ w'.ownsRow w.heap.size 93 3 ev R.length (R.flatMap encE) ∧ MkEdges (labSet (tauT :: texts)) texts es R

set_option maxRecDepth 100000 in
set_option maxHeartbeats 4000000 in
theorem l11Make_any (lo lo2 : Nat) (n i : Int) (texts : List ByteArray) (es : List Edge) (tv ev : Value) (w : World) (ht : SliceK 1 encS lo w tv texts) (he : SliceK 3 encE lo2 w ev es) (htn : texts.length ≤ 900) (hen : es.length ≤ 900) (hlab : ∀ e ∈ es, 0 ≤ e.lab ∧ e.lab < texts.length) :
  Calls Tryz.prog 92 #[.int .i64 n, .int .i64 i, tv, ev] w (RetMk n i texts es w) := by
 obtain ⟨rb, hrb⟩ : ∃ rb, rb = w.heap.size := ⟨_, rfl⟩
 obtain ⟨wA, hwA⟩ : ∃ wA, wA = w.alloc (.cells #[.int .i64 0, .int .i64 0, .slice none 0 0, .slice none 0 0] 30) := ⟨_, rfl⟩
 have hbA : Below w.heap.size w wA := by rw [hwA]; exact (Below.refl _ _).alloc (Nat.le_refl _) _
 have hRB : Blk wA rb [.int .i64 0, .int .i64 0, .slice none 0 0, .slice none 0 0] 30 := by rw [hwA, hrb]; exact Blk.new w _ _
 have HJ := Lib.hid (l11Join_any lo tv texts wA (ht.below hbA) (by omega))
 have HT := Lib.hid (ht.below hbA)
 have HE := Lib.hid (he.below hbA)
 have HLAB := Lib.hid hlab
 obtain ⟨ta, tc, rfl, -, -, htrow⟩ := ht.below hbA
 obtain ⟨ea, ec, rfl, -, -, herow⟩ := he.below hbA
 have HTR := Lib.hid htrow
 have HER := Lib.hid herow
 obtain ⟨TN, hTN⟩ : ∃ TN, TN = texts.length := ⟨_, rfl⟩
 obtain ⟨EN, hEN⟩ : ∃ EN, EN = es.length := ⟨_, rfl⟩
 rw [← hTN] at htn HJ HT ⊢
 rw [← hEN] at hen HE ⊢
 have HTN := Lib.hid hTN
 have HEN := Lib.hid hEN
 have HRB := Lib.hid hRB
 have HBA := Lib.hid hbA
 have HWA := Lib.hid hwA
 have HRBB := Lib.hid hrb
 clear ht he hbA hRB hwA hrb htrow herow hTN hEN hlab
 go_enter Tryz.func92, Tryz.ntmps92
 go_wp2_with fail
 rw [← HWA.out]
 try rw [← HRBB.out]
 refine Calls.mono HJ.out ?_
 rintro e w1 ⟨lv, rfl, hb1, ho1⟩
 obtain ⟨L, hL⟩ : ∃ L, L = labSet (tauT :: texts) := ⟨_, rfl⟩
 rw [← hL] at ho1
 obtain ⟨la, lc, rfl, -, -⟩ := owns_slice ho1
 obtain ⟨LN, hLN⟩ : ∃ LN, LN = L.length := ⟨_, rfl⟩
 rw [← hLN] at ho1 ⊢
 obtain ⟨ob, hob⟩ : ∃ ob, ob = w1.heap.size + 1 := ⟨_, rfl⟩
 obtain ⟨W2, hW2⟩ : ∃ W2, W2 = (w1.alloc (.cells #[] 93)).alloc (.cells #[.int .i64 n, .int .i64 i, .slice la LN lc, .slice (some ⟨w1.heap.size, 0, none⟩) 0 0] 30) := ⟨_, rfl⟩
 have hb2 : Below w1.heap.size w1 W2 := by rw [hW2]; exact ((Below.refl _ _).alloc (Nat.le_refl _) _).alloc (by simp) _
 have hOB : Blk W2 ob [.int .i64 n, .int .i64 i, .slice la LN lc, .slice (some ⟨w1.heap.size, 0, none⟩) 0 0] 30 := by
  have h := Blk.new (w1.alloc (.cells #[] 93)) [.int .i64 n, .int .i64 i, .slice la LN lc, .slice (some ⟨w1.heap.size, 0, none⟩) 0 0] 30
  rw [World.size_alloc, ← hob] at h
  rw [hW2]
  exact h
 have hE0 : W2.ownsRow w1.heap.size 93 3 (.slice (some ⟨w1.heap.size, 0, none⟩) 0 0) 0 [] := by
  rw [hW2]
  exact (World.ownsRow_lit (base := w1.heap.size) (e := 93) (size := 3) w1 #[] 0 (Nat.le_refl _) (by decide) rfl).alloc _
 have HOB := Lib.hid hOB
 have HE0 := Lib.hid hE0
 have HB2 : Hid (Below wA.heap.size wA W2) := hb1.trans (hb2.mono hb1.size)
 have HOL : Hid (OwnStrs wA.heap.size W2 (.slice la LN lc) L) := by
  unfold Hid OwnStrs
  rw [← hLN]
  exact owns_below ho1 hb2
 have HW2 := Lib.hid hW2
 have HOBB := Lib.hid hob
 have hs1 : wA.heap.size ≤ w1.heap.size := hb1.size
 have HL := Lib.hid hL
 have HLN := Lib.hid hLN
 obtain ⟨B, hB⟩ : ∃ B, B = w1.heap.size := ⟨_, rfl⟩
 rw [← hB] at HOB HE0 HOBB hs1 hob
 have HOBN : Hid (ob = B + 1) := hob
 have HB := Lib.hid hB
 have HRB2 : Hid (Blk W2 rb [.int .i64 0, .int .i64 0, .slice none 0 0, .slice none 0 0] 30) := HRB.out.below HB2.out
 have hrbA : rb < wA.heap.size := HRB.out.lt
 clear hb1 ho1 hb2 hOB hE0 hW2 hL hLN hob HJ hB
 go_wp2
 rw [← HB.out]
 try rw [← HOBB.out]
 try rw [← HB.out] at HW2
 try rw [← HW2.out]
 go_loopw [10] (fun v10 wr => ∃ (k : Nat) (R : List Edge) (ra : Option Addr) (rc : Nat), k ≤ EN ∧ v10 = .int .i64 k ∧ Below wA.heap.size wA wr ∧ Blk wr ob [.int .i64 n, .int .i64 i, .slice la LN lc, .slice ra R.length rc] 30 ∧ Blk wr rb [.int .i64 0, .int .i64 0, .slice none 0 0, .slice none 0 0] 30 ∧ OwnStrs wA.heap.size wr (.slice la LN lc) L ∧ wr.ownsRow B 93 3 (.slice ra R.length rc) R.length (R.flatMap encE) ∧ MkEdges L texts (es.take k) R ∧ W2.heap.size ≤ wr.heap.size) (fun v10 _ => EN - (intOf v10).toNat)
 case atStart => exact ⟨0, [], _, _, Nat.zero_le _, rfl, HB2.out, HOB.out, HRB2.out, HOL.out, HE0.out, MkEdges.nil _ _, Nat.le_refl _⟩
 case round =>
  obtain ⟨k, R, ra, rc, hk, rfl, hbl, hob9, hrb9, hol9, hre, hmk, hsW⟩ := hrel
  obtain ⟨wC, rfl⟩ : ∃ wC : World, wC = wr := ⟨_, rfl⟩
  have HBL := Lib.hid hbl
  have HO9 := Lib.hid hob9
  have HR9 := Lib.hid hrb9
  have HL9 := Lib.hid hol9
  have HE9 := Lib.hid hre
  have HMK := Lib.hid hmk
  have hszC := hbl.size
  have hRl : R.length ≤ 900 := by have := hmk.2.1; rw [List.length_take] at this; have := HEN.out; omega
  obtain ⟨RN, hRN⟩ : ∃ RN, RN = R.length := ⟨_, rfl⟩
  rw [← hRN] at HO9 HE9 hRl
  have HRN := Lib.hid hRN
  by_cases hlt : k < EN
  ·have hlt2 : k < es.length := by rw [← HEN.out]; exact hlt
   obtain ⟨be, oe, rfl, -, hbe, e1, e2, e3⟩ := (HER.out.below hbl).edge hlt2
   obtain ⟨x, hx⟩ : ∃ x, x = es[k] := ⟨_, rfl⟩
   have hxl := HLAB.out x (by rw [hx]; exact List.getElem_mem _)
   rw [← hx] at e1 e2 e3
   obtain ⟨m, hm⟩ : ∃ m : Nat, (m : Int) = x.lab := ⟨x.lab.toNat, by omega⟩
   have hmT : m < texts.length := by omega
   have hmT2 : m < TN := by have := HTN.out; omega
   obtain ⟨bt, ot, rfl, -, hbt, ct⟩ := (HTR.out.below hbl).one hmT
   simp only [encS, List.getElem?_cons_zero] at ct
   have hmk2 : makeE L texts x = ⟨x.src, textAt L texts[m], x.dst⟩ := by
    unfold makeE
    rw [← hm, Int.toNat_natCast, List.getD_eq_getElem?_getD, List.getElem?_eq_getElem hmT]
    rfl
   obtain ⟨l, hl⟩ : ∃ l, l = texts[m] := ⟨_, rfl⟩
   rw [← hl] at ct hmk2
   obtain ⟨tx, htx⟩ : ∃ tx, tx = textAt L l := ⟨_, rfl⟩
   rw [← htx] at hmk2
   obtain ⟨xs, hxs⟩ : ∃ xs, xs = x.src := ⟨_, rfl⟩
   obtain ⟨xd, hxd⟩ : ∃ xd, xd = x.dst := ⟨_, rfl⟩
   rw [← hxs] at e1 hmk2
   rw [← hxd] at e3 hmk2
   rw [← hm] at e2
   -- the edge's box
   obtain ⟨wD, hwD⟩ : ∃ wD, wD = wC.alloc (.cells #[.int .i64 xs, .int .i64 m, .int .i64 xd] 93) := ⟨_, rfl⟩
   obtain ⟨xb, hxb⟩ : ∃ xb, xb = wC.heap.size := ⟨_, rfl⟩
   have hbD : Below wC.heap.size wC wD := by rw [hwD]; exact (Below.refl _ _).alloc (Nat.le_refl _) _
   have hXD : Blk wD xb [.int .i64 xs, .int .i64 m, .int .i64 xd] 93 := by rw [hwD, hxb]; exact Blk.new wC _ _
   have hODD := hob9.below hbD
   rw [← hRN] at hODD
   have HXD := Lib.hid hXD
   have HOD := Lib.hid hODD
   have HFI : Hid (∀ g : Later wD, Calls Tryz.prog 153 #[.slice la LN lc, .string l] g.w fun e w' => e = .returned (.int .i64 tx) ∧ Below g.w.heap.size g.w w') := fun g => by
    rw [htx]
    have h := HL9.out.below (hbD.trans (g.h.mono hbD.size))
    unfold OwnStrs at h
    rw [← HLN.out] at h
    exact l11Find_any wA.heap.size _ L l g.w (SliceK.of_owns (e := 9) encS_len HLN.out (by rw [flat_encS]; exact h))
   have lo2' := later_cell hODD.lt (hODD.cell 2 rfl)
   have lx1 := later_cell hXD.lt (hXD.cell 1 rfl)
   have hbtD : bt < wD.heap.size := Nat.lt_of_lt_of_le hbt hbD.size
   have lct := later_cell hbtD (keeps hbD hbt ct)
   have HBD := Lib.hid hbD
   have HWD := Lib.hid hwD
   have HXB := Lib.hid hxb
   have HMK2 := Lib.hid hmk2
   have hmi : (m : Int) < (TN : Int) := by omega
   have HX := Lib.hid hx
   clear hbl hob9 hrb9 hol9 hre hmk hRN hx hxl hm hmT hl htx hxs hxd hbD hXD hODD hwD hxb hmk2 ct hbtD
   go_wp2
   rw [← HWD.out]
   try rw [← HXB.out]
   refine wp_region_later_tail 9 (by kernel_rfl) (by kernel_rfl) ?_
   simp only [List.take_succ_cons, List.take_zero, List.drop_succ_cons, List.drop_zero]
   repeat (go_big_quiet_step ((go_at_call 153; exact later_call (HFI.out _))))
   refine wpQuiet_nil ?_
   intro _ hw9
   obtain ⟨nl, hw8⟩ := hw9
   subst hw8
   obtain ⟨wE, hwE⟩ : ∃ wE, wE = nl.w := ⟨_, rfl⟩
   have hbE : Below wD.heap.size wD wE := by rw [hwE]; exact nl.h
   have hXE := HXD.out.below hbE
   have hxz := hXE.frozen 1
   have hxc := hXE.cell 1 rfl
   have hxlE := hXE.lt
   have HXE : Hid (Blk (wE.setCell ⟨xb, 1, none⟩ (.int .i64 tx)) xb [.int .i64 xs, .int .i64 tx, .int .i64 xd] 93) := hXE.set 1 _
   have hbCE : Below wC.heap.size wC wE := HBD.out.trans (hbE.mono HBD.out.size)
   have HBF : Hid (Below wC.heap.size wC (wE.setCell ⟨xb, 1, none⟩ (.int .i64 tx))) := hbCE.setCell (by rw [HXB.out]; exact Nat.le_refl _) _
   rw [← hwE]
   clear lo2' lx1 lct hwE hbE hXE hbCE
   clear nl
   obtain ⟨wF, hwF⟩ : ∃ wF, wF = wE.setCell ⟨xb, 1, none⟩ (.int .i64 tx) := ⟨_, rfl⟩
   rw [← hwF] at HXE HBF
   have HWF := Lib.hid hwF
   have hbF := HBF.out
   have o3 := (HO9.out.below hbF).cell 3 rfl
   have f1 := HXE.out.cell 0 rfl
   have f2 := HXE.out.cell 1 rfl
   have f3 := HXE.out.cell 2 rfl
   have hobl := (HO9.out.below hbF).lt
   have hxbl := HXE.out.lt
   have HEF := Lib.hid (owns_below HE9.out hbF)
   have HPU := Lib.hid (l11Put_any B (.slice ra RN rc) R ⟨xs, tx, xd⟩ wF (by rw [← HRN.out]; exact HEF.out) HMK.out.1 (by have := hbF.size; have := hsW; have := HOB.out.lt; have := HOBN.out; omega) (by rw [← HRN.out]; omega))
   rw [hwF] at o3 f1 f2 f3 hobl hxbl
   clear hwF hbF
   go_wp2_with fail
   rw [← HWF.out]
   refine Calls.mono HPU.out ?_
   rintro e9 w8 ⟨v8, R8, rfl, hg8, ho8, hp8⟩
   obtain ⟨ra8, rc8, rfl, -, -⟩ := owns_slice ho8
   have hX8 : Blk w8 ob _ 30 := blk_kept (HO9.out.below HBF.out) HEF.out hg8 (by decide)
   have hr8 : Blk w8 rb _ 30 := blk_kept (HR9.out.below HBF.out) HEF.out hg8 (by decide)
   have hl8 : OwnStrs wA.heap.size w8 (.slice la LN lc) L := World.ownsRow.kept (HL9.out.below HBF.out) hg8 (own_types (HL9.out.below HBF.out) HEF.out (by decide))
   have hbAF : Below wA.heap.size wA wF := HBL.out.trans (HBF.out.mono hszC)
   have hsAF := hbAF.size
   have hbA8 : Below wA.heap.size wA w8 := hbAF.grown hg8 hsAF (fun b e => by have := (HEF.out.lt b e).1; omega)
   have hs8 : W2.heap.size ≤ w8.heap.size := by have := HBF.out.size; have := hg8.size; omega
   have HX8 := Lib.hid hX8
   have HR8 := Lib.hid hr8
   have HL8 := Lib.hid hl8
   have HE8 := Lib.hid ho8
   have HB8 := Lib.hid hbA8
   have HMK8 : Hid (MkEdges L texts (es.take (k + 1)) R8) := HMK.out.put hlt2 (by rw [← HX.out, HMK2.out]; exact hp8)
   have c3 := hX8.cell 3 rfl
   have z3 := hX8.frozen 3
   have hol8 := hX8.lt
   have hAB : wA.heap.size ≤ ob := by have := HOBN.out; omega
   have hnr : rb ≠ ob := by have := HOBN.out; omega
   clear hg8 ho8 hp8 hX8 hr8 hl8 hbAF hbA8 o3 f1 f2 f3 hobl hxbl HPU hxz hxc hxlE
   go_wp2
   go_roundw
   case rel => exact ⟨k + 1, R8, ra8, rc8, by omega, by go_num, HB8.out.setCell hAB _, HX8.out.set 3 _, HR8.out.setOther _ _ hnr, own_sets HL8.out HX8.out (by decide) 3 _, own_sets HE8.out HX8.out (by decide) 3 _, HMK8.out, by simpa using hs8⟩
   case measure => simp [intOf]; omega
  ·have hkE : k = EN := by omega
   have HMF : Hid (MkEdges L texts es R) := by
    have h := HMK.out
    rw [hkE, HEN.out, List.take_length] at h
    exact h
   have o0 := HO9.out.cell 0 rfl
   have o1 := HO9.out.cell 1 rfl
   have o2 := HO9.out.cell 2 rfl
   have o3 := HO9.out.cell 3 rfl
   have r0 := HR9.out.cell 0 rfl
   have r1 := HR9.out.cell 1 rfl
   have r2 := HR9.out.cell 2 rfl
   have r3 := HR9.out.cell 3 rfl
   have s0 := HR9.out.frozen 0
   have s1 := HR9.out.frozen 1
   have s2 := HR9.out.frozen 2
   have s3 := HR9.out.frozen 3
   have hobl := HO9.out.lt
   have hrbl := HR9.out.lt
   clear hbl hob9 hrb9 hol9 hre hmk hkE hRN
   go_wp2
   have hR1 := HR9.out.set 0 (.int .i64 n)
   have hR2 := hR1.set 1 (.int .i64 i)
   have hR3 := hR2.set 2 (.slice la LN lc)
   have hle : w.heap.size ≤ rb := by rw [HRBB.out]; exact Nat.le_refl _
   refine bodyPost_ret (lmake_results rfl (hR3.set 3 (.slice ra RN rc))) rfl ?_
   refine ⟨((((HBA.out.trans (HBL.out.mono HBA.out.size)).setCell hle _).setCell hle _).setCell hle _).setCell hle _, _, _, R, rfl, ?_, ?_, by rw [← HL.out]; exact HMF.out⟩
   ·rw [← HL.out]
    have h1 := HL9.out
    exact OwnStrs.lower (own_sets (own_sets (own_sets (own_sets h1 HR9.out (by decide) 0 _) hR1 (by decide) 1 _) hR2 (by decide) 2 _) hR3 (by decide) 3 _) HBA.out.size
   ·rw [← HRN.out]
    have h1 := HE9.out
    exact own_lower (own_sets (own_sets (own_sets (own_sets h1 HR9.out (by decide) 0 _) hR1 (by decide) 1 _) hR2 (by decide) 2 _) hR3 (by decide) 3 _) (by have := HBA.out.size; omega)

end Go.Proofs.YtkbgncenjfebdaaGreatDoor

namespace Go.Proofs.YtkbgncenjfebdaaGreatDoor
open Go Go.RowKit Go.Sort

def sortEs (es : List Edge) : List Edge := es.mergeSort fun x y => !edgeLess y x
theorem sortEs_mem {es : List Edge} (x : Edge) : x ∈ sortEs es ↔ x ∈ es := by unfold sortEs; exact List.mem_mergeSort
theorem sortEs_len (es : List Edge) : (sortEs es).length = es.length := by unfold sortEs; exact List.length_mergeSort _
theorem flatK_edges (E : List Edge) : (flatK encE 3 E.toArray).toList = E.flatMap encE := by
 apply List.ext_getElem?
 intro t
 by_cases h : t < E.length * 3
 ·have hs : t < (flatK encE 3 E.toArray).size := by simpa using h
  have hq : t / 3 < E.length := by omega
  obtain ⟨a, b, c⟩ := flat_get E (t / 3) hq
  have h1 := get_flatK encE 3 E.toArray t (by simpa using h)
  rw [getElem!_pos _ t hs] at h1
  rw [Array.getElem?_toList, Array.getElem?_eq_getElem hs, h1]
  have hq2 : E.toArray[t / 3]! = E[t / 3] := by rw [getElem!_pos E.toArray (t / 3) (by simpa using hq)]; simp
  rw [hq2]
  have h3 : t % 3 = 0 ∨ t % 3 = 1 ∨ t % 3 = 2 := by omega
  rcases h3 with h3 | h3 | h3
  ·rw [h3]
   rw [show t / 3 * 3 = t from by omega] at a
   rw [a]
   rfl
  ·rw [h3]
   rw [show t / 3 * 3 + 1 = t from by omega] at b
   rw [b]
   rfl
  ·rw [h3]
   rw [show t / 3 * 3 + 2 = t from by omega] at c
   rw [c]
   rfl
 ·rw [List.getElem?_eq_none (by rw [Array.length_toList]; simp; omega), List.getElem?_eq_none (by rw [flat_len]; omega)]
theorem heap_sortedG {w : World} {g n : Nat} {os : Array Obj} {cur : Array Value} {e : TypeId} {fr : Nat × Nat} (d : Array Value) (hb : w.heap[g]? = some (.cells cur e fr)) :
  (grow (putRow id (Sort.ahead w n) g 0 d) os).heap[g]? = some (.cells (putCells id 0 d cur) e fr) := by
 have hg : g < w.heap.size := (Array.getElem?_eq_some_iff.1 hb).1
 rw [heap_grow_old _ _ (by simpa using hg)]
 simp [putRow, mapBlock, Sort.ahead, Array.getElem?_modify, hb, onCells]
theorem grownBy_sortedG {w : World} {g n : Nat} {os : Array Obj} (d : Array Value) : w.grownBy (grow (putRow id (Sort.ahead w n) g 0 d) os) (some g) := by
 refine ⟨rfl, rfl, rfl, by simp, fun k hk hne => ?_⟩
 rw [heap_grow_old _ _ (by simpa using hk)]
 have : g ≠ k := fun e => hne (by rw [e])
 simp [putRow, mapBlock, Sort.ahead, Array.getElem?_modify, this]
theorem take_putCellsG (cur : Array Value) (d : Array Value) (h : d.size ≤ cur.size) : (putCells id 0 d cur).toList.take d.size = d.toList := by
 apply List.ext_getElem?
 intro j
 by_cases hj : j < d.size
 ·rw [List.getElem?_take_of_lt hj, Array.getElem?_toList, Array.getElem?_toList]
  simp [putCells, hj, show j < cur.size by omega]
 ·rw [List.getElem?_take_eq_none (by omega), List.getElem?_eq_none (by simp; omega)]

theorem SortEs_own (base : Nat) (v : Value) (es : List Edge) (w : World) (ho : w.ownsRow base 93 3 v es.length (es.flatMap encE)) (hz : es.length ≤ 1048576) :
  Calls Tryz.prog 161 #[v, .func (.func 144) #[] #[]] w fun e w' => e = .returned (.tuple #[]) ∧ w'.ownsRow base 93 3 v es.length ((sortEs es).flatMap encE) ∧ w.grownBy w' v.ownBlock := by
 rcases ho.2 with ⟨rfl, h0⟩ | ⟨g, cap, cur, rfl, hb, hg, hn, hm, hs, ht⟩
 ·have hx : es = [] := List.eq_nil_of_length_eq_zero h0
  subst hx
  refine Calls.mono (R := fun e w' => e = .returned (.tuple #[]) ∧ w' = w) (Tryz.slices_SortFunc_edges_none (α := Edge) none 0 _ w) ?_
  rintro e w' ⟨rfl, rfl⟩
  exact ⟨rfl, by simpa [sortEs] using ho, grown_refl _ _⟩
 ·have hH := holdsE_of_own ho rfl
  have hz2 : es.toArray.size = es.length := by simp
  have hc := Tryz.slices_SortFunc_edges (α := Edge) 3 isAggE sizeOfE encE encE_len (fun x v hv => by simp [encE] at hv; rcases hv with rfl | rfl | rfl <;> rfl) cmpE swoE 144 #[] g 0 cap es.toArray w enters_cmpE
   (fun m os dk _ x y => (compareEdges_more x y _).mono fun e w' ⟨h1, h2, h3⟩ => ⟨h1, grow_of_below h2 h3⟩) hH (Array.getElem?_eq_some_iff.1 hg).1 (by rw [hz2]; omega) (by rw [ltOf_cmpE]; exact edgeLess_tri)
  rw [hz2, ltOf_cmpE] at hc
  refine hc.mono ?_
  rintro e w' ⟨rfl, n, os, rfl⟩
  have hF := flatK_edges (sortEs es)
  have hFs : (flatK encE 3 (sortEs es).toArray).size = es.length * 3 := by rw [size_flatK]; simp [sortEs_len]
  refine ⟨rfl, ⟨by rw [flat_len, sortEs_len], .inr ⟨g, cap, _, rfl, hb, heap_sortedG (flatK encE 3 (sortEs es).toArray) hg, hn, hm, by simp [putCells, hs], ?_⟩⟩, grownBy_sortedG _⟩
  rw [← hFs, take_putCellsG _ _ (by rw [hFs, hs]; omega), hF]

end Go.Proofs.YtkbgncenjfebdaaGreatDoor

namespace Go.Proofs.YtkbgncenjfebdaaGreatDoor
open Go Go.RowKit

/-- The deterministic system of the net found. -/
def dSys (t : Lts) (st : DNet) : Lts := ⟨st.rows.length, 0, t.labels, st.edges⟩

/-- A trace, and the state behind it. -/
structure TNode where
 at_ : Int
 tr : List ByteArray
def tnew (d : Lts) (p : TNode) (e : Edge) : TNode := ⟨e.dst, p.tr ++ [labAt d e]⟩
def trow (d : Lts) (n : Int) (p : TNode) : List TNode := if (p.tr.length : Int) = n then [] else (outOf d p.at_).map (tnew d p)
/-- The traces when the first i are done. -/
def trAt (d : Lts) (n : Int) : Nat → List TNode
 | 0 => [⟨0, []⟩]
 | i + 1 => trAt d n i ++ (((trAt d n i)[i]?.map (trow d n)).getD [])
def TCome (d : Lts) (n : Int) (i : Nat) : Prop := ∀ k, k < i → k < (trAt d n k).length
def TFull (d : Lts) (n : Int) : Prop := ∃ i, TCome d n i ∧ 200 < (trAt d n i).length
def TFound (d : Lts) (n : Int) (l : List TNode) : Prop := ∃ i, TCome d n i ∧ trAt d n i = l ∧ l.length = i ∧ l.length ≤ 200
theorem trAt_zero (d : Lts) (n : Int) : trAt d n 0 = [⟨0, []⟩] := rfl
theorem trAt_succ {d : Lts} {n : Int} {i : Nat} {p : TNode} (h : (trAt d n i)[i]? = some p) : trAt d n (i + 1) = trAt d n i ++ trow d n p := by rw [trAt, h]; rfl
theorem trAt_le (d : Lts) (n : Int) (i : Nat) : ∀ k, ∃ r, trAt d n (i + k) = trAt d n i ++ r
 | 0 => ⟨[], by simp⟩
 | k + 1 => by
  obtain ⟨r, hr⟩ := trAt_le d n i k
  exact ⟨_, by rw [← Nat.add_assoc, trAt, hr, List.append_assoc]⟩
theorem TCome.zero (d : Lts) (n : Int) : TCome d n 0 := fun _ h => absurd h (Nat.not_lt_zero _)
theorem TCome.succ {d : Lts} {n : Int} {i : Nat} (h : TCome d n i) (hi : i < (trAt d n i).length) : TCome d n (i + 1) := fun k hk => by
 by_cases e : k = i
 ·rw [e]; exact hi
 ·exact h k (by omega)
theorem TFound.unique {d : Lts} {n : Int} {a b : List TNode} (ha : TFound d n a) (hb : TFound d n b) : a = b := by
 obtain ⟨m, hm, em, lm, -⟩ := ha
 obtain ⟨k, hk, ek, lk, -⟩ := hb
 rcases Nat.lt_trichotomy m k with h | h | h
 ·have := hk m h
  rw [em] at this
  omega
 ·subst h
  exact em.symm.trans ek
 ·have := hm k h
  rw [ek] at this
  omega
theorem TFound.not_full {d : Lts} {n : Int} {a : List TNode} (ha : TFound d n a) : ¬ TFull d n := by
 rintro ⟨k, hk, h2⟩
 obtain ⟨m, hm, em, lm, h3⟩ := ha
 rcases Nat.lt_or_ge m k with h | h
 ·have := hk m h
  rw [em] at this
  omega
 ·obtain ⟨r, hr⟩ := trAt_le d n k (m - k)
  rw [show k + (m - k) = m from by omega, em] at hr
  rw [hr, List.length_append] at h3
  omega
theorem TCome.le {d : Lts} {n : Int} {i : Nat} (h : TCome d n i) : i ≤ (trAt d n i).length := by
 cases i with
 | zero => omega
 | succ m =>
  have h2 := h m (by omega)
  obtain ⟨r, hr⟩ := trAt_le d n m 1
  rw [hr, List.length_append]
  omega
theorem TFound.of {d : Lts} {n : Int} {i : Nat} (h : TCome d n i) (hi : ¬ i < (trAt d n i).length) (h2 : (trAt d n i).length ≤ 200) : TFound d n (trAt d n i) := ⟨i, h, rfl, by have := h.le; omega, h2⟩

/-- What holds of each trace found. -/
structure TGood (d : Lts) (n : Int) (p : TNode) : Prop where
 at0 : 0 ≤ p.at_
 at1 : p.at_ < d.states
 len : (p.tr.length : Int) ≤ n
theorem TGood.at {d : Lts} {n : Int} (hn : 0 ≤ n) (h1 : 1 ≤ d.states) (hE : ∀ e ∈ d.edges, 0 ≤ e.dst ∧ e.dst < d.states) : ∀ i, ∀ p ∈ trAt d n i, TGood d n p
 | 0, p, hp => by
  rw [trAt_zero, List.mem_singleton] at hp
  subst hp
  exact ⟨Int.le_refl _, by show (0 : Int) < _; omega, by simpa using hn⟩
 | i + 1, p, hp => by
  rw [trAt] at hp
  rcases List.mem_append.1 hp with hp | hp
  ·exact TGood.at hn h1 hE i p hp
  ·cases h : (trAt d n i)[i]? with
   | none => rw [h] at hp; simp at hp
   | some q =>
    rw [h] at hp
    simp only [Option.map_some, Option.getD_some] at hp
    unfold trow at hp
    split at hp
    ·simp at hp
    ·next hne =>
     obtain ⟨e, he, rfl⟩ := List.mem_map.1 hp
     have hq := TGood.at hn h1 hE i q (List.mem_of_getElem? h)
     have hm := hE e ((List.mem_filter.1 he).1)
     refine ⟨hm.1, hm.2, ?_⟩
     have := hq.len
     simp only [tnew, List.length_append, List.length_singleton]
     omega

/-- The traces and the error's code. -/
def TracesIs (t : Lts) (q : Int) (xs : List (List ByteArray)) (code : Int) : Prop :=
 (¬ Valid t ∧ xs = [] ∧ code = 1) ∨ (Valid t ∧ ¬ (0 ≤ q ∧ q ≤ 12) ∧ xs = [] ∧ code = 2) ∨ (Valid t ∧ (0 ≤ q ∧ q ≤ 12) ∧ DFull t ∧ xs = [] ∧ code = 5)
  ∨ (Valid t ∧ (0 ≤ q ∧ q ≤ 12) ∧ ∃ st, DOk t st ∧ ((TFull (dSys t st) q ∧ xs = [] ∧ code = 5) ∨ ∃ l, TFound (dSys t st) q l ∧ xs = l.map TNode.tr ∧ code = 0))
theorem TracesIs.unique {t : Lts} {q code code' : Int} {c c' : List (List ByteArray)} (h : TracesIs t q c code) (k : TracesIs t q c' code') : c = c' ∧ code = code' := by
 rcases h with ⟨h1, h2, h3⟩ | ⟨h1, h2, h3, h4⟩ | ⟨h1, h2, h3, h4, h5⟩ | ⟨h1, h2, st, h3, h4⟩ <;>
  rcases k with ⟨k1, k2, k3⟩ | ⟨k1, k2, k3, k4⟩ | ⟨k1, k2, k3, k4, k5⟩ | ⟨k1, k2, st', k3, k4⟩ <;>
  first
  | exact absurd k1 h1
  | exact absurd h1 k1
  | exact absurd k2 h2
  | exact absurd h2 k2
  | exact absurd k3 h3.not_full
  | exact absurd h3 k3.not_full
  | exact ⟨h2.trans k2.symm, h3.trans k3.symm⟩
  | exact ⟨h3.trans k3.symm, h4.trans k4.symm⟩
  | exact ⟨h4.trans k4.symm, h5.trans k5.symm⟩
  | skip
 have e := h3.1.unique k3.1
 subst e
 rcases h4 with ⟨a1, a2, a3⟩ | ⟨l, a1, a2, a3⟩ <;> rcases k4 with ⟨b1, b2, b3⟩ | ⟨l', b1, b2, b3⟩
 ·exact ⟨a2.trans b2.symm, a3.trans b3.symm⟩
 ·exact absurd a1 b1.not_full
 ·exact absurd b1 a1.not_full
 ·have := a1.unique b1
  subst this
  exact ⟨a2.trans b2.symm, a3.trans b3.symm⟩
theorem TracesIs.few {t : Lts} {q code : Int} {xs : List (List ByteArray)} (h : TracesIs t q xs code) : xs.length ≤ 200 ∧ ∀ x ∈ xs, x.length ≤ 12 := by
 rcases h with ⟨h1, rfl, -⟩ | ⟨h1, h2, rfl, -⟩ | ⟨h1, h2, h3, rfl, -⟩ | ⟨h1, h2, st, h3, ⟨h4, rfl, -⟩ | ⟨l, h4, rfl, -⟩⟩
 ·exact ⟨by simp, by simp⟩
 ·exact ⟨by simp, by simp⟩
 ·exact ⟨by simp, by simp⟩
 ·exact ⟨by simp, by simp⟩
 ·have hG : DGood t st := by
   obtain ⟨⟨n, -, rfl, -⟩, -⟩ := h3
   exact DGood.at h1 n
  obtain ⟨i, hc, rfl, hl, hl2⟩ := h4
  refine ⟨by simpa using hl2, fun x hx => ?_⟩
  obtain ⟨p, hp, rfl⟩ := List.mem_map.1 hx
  have := (TGood.at (d := dSys t st) h2.1 (by have := hG.some; show (1 : Int) ≤ (st.rows.length : Int); omega) (fun e he => by have := hG.edges e he; exact this.2.2) i p hp).len
  omega

/-- The edges from a state up to a label. -/
def outTo (d : Lts) (x : Int) (k : Nat) : List Edge := (outOf d x).filter fun e => decide (e.lab < (k : Int))
theorem outTo_all {d : Lts} {x : Int} (h : ∀ e ∈ d.edges, e.lab < (d.labels.length : Int)) : outTo d x d.labels.length = outOf d x := by
 unfold outTo
 rw [List.filter_eq_self]
 intro e he
 have := h e ((List.mem_filter.1 he).1)
 simpa using this
theorem outTo_one {d : Lts} {x : Int} (h : ∀ e ∈ d.edges, 1 ≤ e.lab) : outTo d x 1 = [] := by
 unfold outTo
 rw [List.filter_eq_nil_iff]
 intro e he
 have := h e ((List.mem_filter.1 he).1)
 simp
 omega
/-- In a list with ascending labels: what comes in with the next label. -/
theorem filter_next {k : Int} : ∀ {l : List Edge}, l.Pairwise (fun a b => a.lab < b.lab) → l.filter (fun e => decide (e.lab < k + 1)) = l.filter (fun e => decide (e.lab < k)) ++ (l.find? fun e => e.lab == k).toList
 | [], _ => rfl
 | a :: l, h => by
  rw [List.pairwise_cons] at h
  rcases Int.lt_trichotomy a.lab k with h1 | h1 | h1
  ·rw [List.filter_cons, if_pos (by simp; omega), List.filter_cons, if_pos (by simp; omega), List.find?_cons, filter_next h.2]
   have : (a.lab == k) = false := by rw [beq_eq_false_iff_ne]; omega
   rw [this]
   rfl
  ·have e1 : l.filter (fun e => decide (e.lab < k + 1)) = [] := by
    rw [List.filter_eq_nil_iff]
    intro e he
    have := h.1 e he
    simp
    omega
   have e2 : l.filter (fun e => decide (e.lab < k)) = [] := by
    rw [List.filter_eq_nil_iff]
    intro e he
    have := h.1 e he
    simp
    omega
   have e3 : (a.lab == k) = true := by rw [beq_iff_eq]; exact h1
   rw [List.filter_cons, if_pos (by simp; omega), e1, List.filter_cons, if_neg (by simp; omega), e2, List.find?_cons, e3]
   rfl
  ·have e1 : (a :: l).filter (fun e => decide (e.lab < k + 1)) = [] := by
    rw [List.filter_eq_nil_iff]
    intro e he
    have : k < e.lab := by
     rcases List.mem_cons.1 he with rfl | he
     ·exact h1
     ·have := h.1 e he; omega
    simp
    omega
   have e2 : (a :: l).filter (fun e => decide (e.lab < k)) = [] := by
    rw [List.filter_eq_nil_iff]
    intro e he
    have : k < e.lab := by
     rcases List.mem_cons.1 he with rfl | he
     ·exact h1
     ·have := h.1 e he; omega
    simp
    omega
   have e3 : (a :: l).find? (fun e => e.lab == k) = none := by
    rw [List.find?_eq_none]
    intro e he
    have : k < e.lab := by
     rcases List.mem_cons.1 he with rfl | he
     ·exact h1
     ·have := h.1 e he; omega
    simp
    omega
   rw [e1, e2, e3]
   rfl
theorem out_up {d : Lts} (h : d.edges.Pairwise fun a b => a.src < b.src ∨ (a.src = b.src ∧ a.lab < b.lab)) (x : Int) : (outOf d x).Pairwise fun a b => a.lab < b.lab := by
 unfold outOf
 rw [List.pairwise_filter]
 refine h.imp fun {a b} hab ha hb => ?_
 rw [beq_iff_eq] at ha hb
 omega

end Go.Proofs.YtkbgncenjfebdaaGreatDoor

namespace Go.Proofs.YtkbgncenjfebdaaGreatDoor
open Go Go.RowKit

theorem dok_good {t : Lts} {st : DNet} (hv : Valid t) (h : DOk t st) : DGood t st := by
 obtain ⟨⟨n, -, rfl, -⟩, -⟩ := h
 exact DGood.at hv n
theorem dok_up {t : Lts} {st : DNet} (h : DOk t st) : Up st.edges := by
 obtain ⟨⟨n, -, rfl, -⟩, -⟩ := h
 exact up_at t n
theorem dSys_edge {t : Lts} {st : DNet} (hG : DGood t st) : ∀ i (h : i < (dSys t st).edges.length), EdgeOk (dSys t st) (dSys t st).edges[i] := by
 intro i hi
 have := hG.edges _ (List.getElem_mem hi)
 exact ⟨this.1.1, this.1.2, this.2.2.1, this.2.2.2, Int.le_trans (by decide) this.2.1.1, this.2.1.2⟩
theorem dSys_valid {t : Lts} {st : DNet} (hv : Valid t) (h : DOk t st) : Valid (dSys t st) := by
 have hG := dok_good hv h
 have hu := dok_up h
 have h0 := hG.some
 have hs := h.2
 refine ⟨by show (1 : Int) ≤ (st.rows.length : Int); omega, by show (st.rows.length : Int) ≤ 40; have := hs.1; omega, Int.le_refl 0, by show (0 : Int) < (st.rows.length : Int); omega, hv.labels, hs.2, dSys_edge hG, fun i hi => ?_⟩
 have h1 := List.pairwise_iff_getElem.1 (rise_up hu) i (i + 1) (Nat.lt_of_succ_lt hi) hi (Nat.lt_succ_self i)
 exact h1
end Go.Proofs.YtkbgncenjfebdaaGreatDoor

namespace Go.Proofs.YtkbgncenjfebdaaGreatDoor
open Go Go.RowKit

/-- What both searches look for: a trace of b that is none of a; with 'both', one of a that is none of b too. -/
def apart (both : Bool) (p : Int × Int) : Prop := (p.1 < 0 ∧ 0 ≤ p.2) ∨ (both = true ∧ 0 ≤ p.1 ∧ p.2 < 0)
end Go.Proofs.YtkbgncenjfebdaaGreatDoor

namespace Go.Proofs.YtkbgncenjfebdaaGreatDoor
open Go Go.RowKit

/-- A row, when its turn came. -/
theorem DOk.row {t : Lts} {st : DNet} (h : DOk t st) {i : Nat} (hi : i < st.rows.length) : ∃ cur, (dAt t i).rows[i]? = some cur ∧ st.rows[i]? = some cur ∧ (∀ j, j ≤ t.labels.length - 1 → DLe (dmid t i cur (dAt t i) j) st) ∧ dmid t i cur (dAt t i) (t.labels.length - 1) = dAt t (i + 1) := by
 obtain ⟨⟨m, hm, em, lm⟩, -⟩ := h
 have h1 := hm i (by omega)
 have hcur : (dAt t i).rows[i]? = some (dAt t i).rows[i] := List.getElem?_eq_getElem h1
 have h2 := dAt_le t i (m - i)
 rw [show i + (m - i) = m from by omega, em] at h2
 refine ⟨_, hcur, ?_, fun j hj => ?_, (dAt_succ hcur).symm⟩
 ·obtain ⟨r, hr⟩ := h2.rows
  rw [hr, List.getElem?_append_left h1]
  exact hcur
 ·have h3 := dmid_le t i (dAt t i).rows[i] (dAt t i) j (t.labels.length - 1 - j)
  rw [show j + (t.labels.length - 1 - j) = t.labels.length - 1 from by omega, ← dAt_succ hcur] at h3
  have h4 := dAt_le t (i + 1) (m - (i + 1))
  rw [show i + 1 + (m - (i + 1)) = m from by omega, em] at h4
  exact h3.trans h4
end Go.Proofs.YtkbgncenjfebdaaGreatDoor

namespace Go.Proofs.YtkbgncenjfebdaaGreatDoor
open Go Go.RowKit

def encN (p : TNode × Value) : List Value := [.int .i64 p.1.at_, .int .i64 0, p.2]
theorem encN_len (p : TNode × Value) : (encN p).length = 3 := rfl
/-- The traces found, in a slice of the call's own, each trace in a row of its own. -/
structure OwnAll (B : Nat) (w : World) (v : Value) (ns : List (TNode × Value)) : Prop where
 all : w.ownsRow B 120 3 v ns.length (ns.flatMap encN)
 rows : Pile 9 B w (ns.map Prod.snd) (ns.map fun p => txts p.1.tr)
theorem OwnAll.below {B : Nat} {w w' : World} {v : Value} {ns : List (TNode × Value)} (h : OwnAll B w v ns) (hb : Below w.heap.size w w') : OwnAll B w' v ns := ⟨owns_below h.all hb, h.rows.below hb⟩
theorem OwnAll.row {B : Nat} {w : World} {v : Value} {ns : List (TNode × Value)} (h : OwnAll B w v ns) {i : Nat} (hi : i < ns.length) : w.ownsRow B 9 1 ns[i].2 ns[i].1.tr.length (txts ns[i].1.tr) := by
 have := h.rows.row i (by simpa using hi) (by simpa using hi)
 simpa [txts_len] using this
theorem OwnAll.cells {B : Nat} {w : World} {v : Value} {ns : List (TNode × Value)} (h : OwnAll B w v ns) {i : Nat} (hi : i < ns.length) :
  ∃ b c, v = .slice (some ⟨b, 0, none⟩) ns.length c ∧ B ≤ b ∧ b < w.heap.size ∧ w.cell? ⟨b, i * 3, none⟩ = some (.int .i64 ns[i].1.at_) ∧ w.cell? ⟨b, i * 3 + 1, none⟩ = some (.int .i64 0) ∧ w.cell? ⟨b, i * 3 + 2, none⟩ = some ns[i].2 := by
 have hs : SliceK 3 encN B w v ns := SliceK.of_owns encN_len rfl h.all
 obtain ⟨a, c, rfl, -, -, hrow⟩ := hs
 rcases hrow with h0 | ⟨b, o, rfl, h1, h2, h3⟩
 ·omega
 ·obtain ⟨rfl, -⟩ : o = 0 ∧ B ≤ b := by
   rcases h.all.2 with ⟨e, -⟩ | ⟨g, cap, cur, e, hg, -⟩
   ·simp at e
   ·simp only [Value.slice.injEq, Option.some.injEq, Addr.mk.injEq, and_true, true_and] at e
    exact ⟨e.1.2, h1⟩
  refine ⟨b, c, rfl, h1, h2, ?_, ?_, ?_⟩
  ·have := h3 i hi 0 (by omega); simpa [encN] using this
  ·have := h3 i hi 1 (by omega); simpa [encN] using this
  ·have := h3 i hi 2 (by omega); simpa [encN] using this
/-- One trace more: its row lies behind all that was there, the slice was appended to. -/
theorem OwnAll.push {B GE : Nat} {w wA w6 : World} {v v' tv : Value} {ns : List (TNode × Value)} {p : TNode} (h : OwnAll B w v ns) (hGE : w.heap.size ≤ GE) (hB : B ≤ GE) (hb : Below w.heap.size w wA) (hr : wA.ownsRow GE 9 1 tv p.tr.length (txts p.tr))
  (hg : wA.grownBy w6 v.ownBlock) (ho : w6.ownsRow B 120 3 v' (ns.length + 1) (ns.flatMap encN ++ [.int .i64 p.at_, .int .i64 0, tv])) : OwnAll B w6 v' (ns ++ [(p, tv)]) := by
 refine ⟨?_, ?_⟩
 ·rw [List.length_append, List.flatMap_append]
  simpa [encN] using ho
 ·have h1 := h.rows.push hGE hb (by rw [txts_len]; exact hr) hB
  have h2 := h1.other (by decide) (owns_below h.all hb) hg
  simpa using h2

def RetTrc (t : Lts) (q : Int) (w : World) (e : Ending) (w' : World) : Prop :=
 Below w.heap.size w w' ∧ ∃ (xss : List (List ByteArray)) (code : Int) (v : Value) (vs : List Value), e = .returned (.tuple #[v, .int .i64 code]) ∧ TracesIs t q xss code ∧ OwnStrss w.heap.size w' v vs xss
theorem trc_none {t : Lts} {q code : Int} {w w' : World} (hb : Below w.heap.size w w') (h : TracesIs t q [] code) : RetTrc t q w (.returned (.tuple #[.slice none 0 0, .int .i64 code])) w' :=
 ⟨hb, [], code, _, [], rfl, h, OwnStrss.none _ _⟩
theorem TracesIs.few2 {t : Lts} {q code : Int} {xs : List (List ByteArray)} (h : TracesIs t q xs code) : totalS xs ≤ 2400 := by
 have h1 := h.few
 have h2 := totalS_few h1.2
 omega
end Go.Proofs.YtkbgncenjfebdaaGreatDoor

namespace Go.Proofs.YtkbgncenjfebdaaGreatDoor
open Go Go.RowKit

/-- The two lists of the net. -/
def DMem (B : Nat) (st : DNet) (vr ve : Value) (w : World) : Prop :=
 (∃ vs, OwnIntss 56 2 B w vr vs st.rows) ∧ w.ownsRow B 93 3 ve st.edges.length (st.edges.flatMap encE)
theorem DMem.below {B : Nat} {st : DNet} {vr ve : Value} {w w' : World} (h : DMem B st vr ve w) (hb : Below w.heap.size w w') : DMem B st vr ve w' := by
 obtain ⟨⟨vs, h1⟩, h2⟩ := h
 exact ⟨⟨vs, h1.below hb⟩, owns_below h2 hb⟩

theorem DMem.start {W : World} {B B2 : Nat} {rv : Value} {xs : List Int} (hB : B ≤ B2) (hB2 : B ≤ W.heap.size) (hr : W.ownsRow B2 2 1 rv xs.length (xs.map (Value.int .i64))) :
  DMem B ⟨[xs], []⟩ (.slice (some ⟨W.heap.size, 0, none⟩) 1 1) (.slice (some ⟨W.heap.size + 1, 0, none⟩) 0 0) ((W.alloc (.cells #[rv] 56)).alloc (.cells #[] 93)) := by
 have hlt := hr.lt
 obtain ⟨W2, hW2⟩ : ∃ W2, W2 = W.alloc (.cells #[rv] 56) := ⟨_, rfl⟩
 have hs2 : W2.heap.size = W.heap.size + 1 := by rw [hW2]; simp
 have r2 : W2.ownsRow B 56 1 (.slice (some ⟨W.heap.size, 0, none⟩) 1 1) 1 [rv] := by
  rw [hW2]; exact World.ownsRow_lit (size := 1) W #[rv] 1 hB2 (by decide) rfl
 have r1 : W2.ownsRow B 2 1 rv xs.length (xs.map (Value.int .i64)) := by
  rw [hW2]; exact own_lower (hr.alloc _) hB
 rw [← hW2, ← hs2]
 clear hW2
 refine ⟨⟨[rv], rfl, r2.alloc _, ?_, ?_, ?_⟩, World.ownsRow_lit (size := 3) W2 #[] 0 (by omega) (by decide) rfl⟩
 ·intro i hi hi'
  obtain rfl : i = 0 := by simp at hi; omega
  simpa using r1.alloc _
 ·intro i j hi hj hij
  simp at hi hj
  omega
 ·intro i hi
  obtain rfl : i = 0 := by simp at hi; omega
  show rv.ownBlock = none ∨ rv.ownBlock ≠ some W.heap.size
  cases hb : rv.ownBlock with
  | none => exact .inl rfl
  | some b =>
   refine .inr fun e => ?_
   have := (hlt b hb).2
   have := Option.some.inj e
   omega

theorem DMem.push_row {B B2 : Nat} {st : DNet} {xs : List Int} {vr ve v' rv : Value} {wC wF w1 : World} {vs : List Value} (hr : OwnIntss 56 2 B wC vr vs st.rows) (he : wC.ownsRow B 93 3 ve st.edges.length (st.edges.flatMap encE))
  (hb : Below wC.heap.size wC wF) (hrow : wF.ownsRow B2 2 1 rv xs.length (xs.map (Value.int .i64))) (hB2 : wC.heap.size ≤ B2) (hB : B ≤ wC.heap.size) (hg : wF.grownBy w1 vr.ownBlock) (hv : w1.ownsRow B 56 1 v' (vs.length + 1) (vs ++ [rv])) :
  DMem B ⟨st.rows ++ [xs], st.edges⟩ v' ve w1 := by
 refine ⟨⟨vs ++ [rv], ?_⟩, ?_⟩
 ·exact OwnIntss.push (B := B2) (xs := xs) (by decide) hr hB2 hb hrow (Nat.le_trans hB hB2) hg hv
 ·exact (owns_below he hb).kept hg (own_types (owns_below he hb) (owns_below hr.2.1 hb) (by decide))

theorem DMem.push_edge {B : Nat} {st : DNet} {e : Edge} {vr ve v' : Value} {wE wF w1 : World} (h : DMem B st vr ve wE) (hb : Below wE.heap.size wE wF) (hg : wF.grownBy w1 ve.ownBlock)
  (hv : w1.ownsRow B 93 3 v' (st.edges.length + 1) (st.edges.flatMap encE ++ encE e)) : DMem B ⟨st.rows, st.edges ++ [e]⟩ vr v' w1 := by
 obtain ⟨⟨vs, h1⟩, h2⟩ := h.below hb
 refine ⟨⟨vs, h1.kept hg (own_types h1.2.1 h2 (by decide)) (fun i hi => ?_)⟩, ?_⟩
 ·exact own_types (h1.2.2.1 i hi (by rw [← h1.1]; exact hi)) h2 (by decide)
 ·simpa using hv

/-- One row as a slice. -/
theorem OwnIntss.rowAt {eo ei lo : Nat} {w : World} {v : Value} {vs : List Value} {rows : List (List Int)} (h : OwnIntss eo ei lo w v vs rows) {n : Nat} (hn : n < rows.length) :
  ∃ b c u, v = .slice (some ⟨b, 0, none⟩) rows.length c ∧ b < w.heap.size ∧ w.cell? ⟨b, n, none⟩ = some u ∧ w.ownsRow lo ei 1 u rows[n].length (rows[n].map (Value.int .i64)) ∧ SliceK 1 encI lo w u rows[n] := by
 obtain ⟨h1, h2, h3, -, -⟩ := h
 have hnv : n < vs.length := by omega
 have h4 := h3 n hnv hn
 rcases h2.2 with ⟨-, h⟩ | ⟨b, c, cur, rfl, -, hg, -⟩
 ·omega
 ·have hl := (Array.getElem?_eq_some_iff.1 hg).1
  have c1 := h2.cellAt n (by omega)
  rw [List.getElem?_eq_getElem hnv] at c1
  exact ⟨b, c, vs[n], by rw [h1], hl, c1, h4, SliceK.of_owns (enc := encI) encI_len rfl (by rw [flat_encI]; exact h4)⟩

end Go.Proofs.YtkbgncenjfebdaaGreatDoor

namespace Go.Proofs.YtkbgncenjfebdaaGreatDoor
open Go Go.RowKit

def isVal (n : Int) : Bool := decide (0 ≤ n) && decide (n ≤ 63)

theorem areValues1_any (n : Int) (w : World) : Calls Tryz.prog 274 #[.int .i64 n] w fun e w' => e = .returned (.bool (!isVal n)) ∧ w = w' := by
 go_enter Tryz.func274, Tryz.ntmps274
 go_wp2_with fail
 refine (isValue_any _ _).mono ?_
 rintro e w' ⟨rfl, rfl⟩
 have HF : Hid ((!decide (0 ≤ n) || !decide (n ≤ 63)) = !isVal n) := by unfold Hid isVal; rw [Bool.not_and]
 go_wp2_with fail
 go_ret
 exact ⟨ret_bool HF.out, rfl⟩

set_option maxHeartbeats 1000000 in
theorem IndexFunc_vals (lo : Nat) (v : Value) (xs : List Int) (w : World) (hv : SliceK 1 encI lo w v xs) :
  Calls Tryz.prog 172 #[v, .func (.func 274) #[] #[]] w fun e w' => ∃ r : Int, e = .returned (.int .i64 r) ∧ decide (0 ≤ r) = !xs.all isVal ∧ w = w' := by
 obtain ⟨a, c, rfl, hcn, hcc, hrow⟩ := hv
 go_enter Tryz.func172, Tryz.ntmps172
 go_wp2_with fail
 go_loop [8] (fun i => ∃ k : Nat, k ≤ xs.length ∧ i = .int .i64 k ∧ ∀ j (h : j < xs.length), j < k → isVal xs[j] = true) (fun i => xs.length - (intOf i).toNat)
 case atStart => exact ⟨0, Nat.zero_le _, rfl, fun _ _ h => by omega⟩
 case round =>
  obtain ⟨k, hk, rfl, ha⟩ := hrel
  have HA := Lib.hid ha
  clear ha
  by_cases hlt : k < xs.length
  ·obtain ⟨b1, o1, rfl, -, hbs, c1⟩ := hrow.one hlt
   simp only [encI, List.getElem?_cons_zero] at c1
   clear hrow
   obtain ⟨b, hb⟩ : ∃ b, isVal xs[k] = b := ⟨_, rfl⟩
   have HB := Lib.hid hb
   clear hb
   go_wp2_with fail
   refine (areValues1_any _ _).mono ?_
   rintro e w' ⟨rfl, rfl⟩
   rw [HB.out]
   cases b
   ·go_wp2_with fail
    go_ret
    refine ⟨_, rfl, ?_, rfl⟩
    have h1 : xs.all isVal = false := by
     rw [List.all_eq_false]
     exact ⟨xs[k], List.getElem_mem _, by rw [HB.out]; simp⟩
    rw [h1]; simp
   ·go_wp2_with fail
    go_round
    case rel => exact ⟨k + 1, by omega, by go_num, fun j h hj => by
     by_cases e : j = k
     ·subst e; exact HB.out
     ·exact HA.out j h (by omega)⟩
    case measure => simp [intOf]; omega
  ·clear hrow
   go_wp2_with fail
   go_ret
   refine ⟨_, rfl, ?_, rfl⟩
   have h1 : xs.all isVal = true := by
    rw [List.all_eq_true]
    intro x hxm
    obtain ⟨j, hj, rfl⟩ := List.mem_iff_getElem.1 hxm
    exact HA.out j hj (by omega)
   rw [h1]; simp

theorem ContainsFunc_vals (lo : Nat) (v : Value) (xs : List Int) (w : World) (hv : SliceK 1 encI lo w v xs) :
  Calls Tryz.prog 273 #[v, .func (.func 274) #[] #[]] w fun e w' => e = .returned (.bool (!xs.all isVal)) ∧ w = w' := by
 have HV := Lib.hid hv
 clear hv
 go_enter Tryz.func273, Tryz.ntmps273
 go_wp2_with fail
 refine (IndexFunc_vals lo v xs _ HV.out).mono ?_
 rintro e w' ⟨r, rfl, hr, rfl⟩
 have HR := Lib.hid hr
 clear hr
 go_wp2_with fail
 go_ret
 exact ⟨ret_bool HR.out, rfl⟩

theorem areValues_any (lo : Nat) (v : Value) (xs : List Int) (w : World) (hv : SliceK 1 encI lo w v xs) :
  Calls Tryz.prog 236 #[v] w fun e w' => e = .returned (.bool (xs.all isVal)) ∧ w = w' := by
 have HV := Lib.hid hv
 clear hv
 go_enter Tryz.func236, Tryz.ntmps236
 go_wp2_with fail
 refine (ContainsFunc_vals lo v xs _ HV.out).mono ?_
 rintro e w' ⟨rfl, rfl⟩
 go_wp2_with fail
 go_ret
 exact ⟨ret_bool (by simp), rfl⟩

end Go.Proofs.YtkbgncenjfebdaaGreatDoor

namespace Go.Proofs.YtkbgncenjfebdaaGreatDoor
open Go Go.RowKit

/-- Words read as numbers. -/
def decs (ss : List ByteArray) : List Int := ss.map fun s => (readDec s.data.toList).getD 0
def decsOk (ss : List ByteArray) : Bool := ss.all fun s => (readDec s.data.toList).isSome
def RetNums (ss : List ByteArray) (w : World) (e : Ending) (w' : World) : Prop :=
 ∃ v, e = .returned (.tuple #[v, .bool (decsOk ss)]) ∧ Below w.heap.size w w' ∧ (decsOk ss = true → w'.ownsRow w.heap.size 2 1 v (decs ss).length ((decs ss).map (Value.int .i64)))

theorem decsOk_none {ss : List ByteArray} {j : Nat} (h : j < ss.length) (hn : readDec ss[j].data.toList = none) : decsOk ss = false := by
 unfold decsOk
 rw [List.all_eq_false]
 exact ⟨ss[j], List.getElem_mem _, by rw [hn]; simp⟩

set_option maxRecDepth 100000 in
set_option maxHeartbeats 2000000 in
theorem readNumbers_any (lo : Nat) (v : Value) (ss : List ByteArray) (w : World) (hs : ∀ i (h : i < ss.length), ss[i].size ≤ 1073741824) (hl : ss.length ≤ 1073741824) (hv : SliceK 1 encS lo w v ss) (g : Glob w) :
  Calls Tryz.prog 199 #[v] w (RetNums ss w) := by
 obtain ⟨a, c, rfl, hcn, hcc, hrow⟩ := hv
 obtain ⟨i0, hi, hz0, hz1, hz2⟩ := info_parts info_int64
 have G := Lib.hid g
 have HSZ := Lib.hid hs
 clear g hs
 go_enter Tryz.func199, Tryz.ntmps199
 go_wp2_with fail
 go_loopw [4, 11] (fun v i wr => ∃ k : Nat, k ≤ ss.length ∧ i = .int .i64 k ∧ Below w.heap.size w wr ∧ wr.ownsRow w.heap.size 2 1 v k ((decs (ss.take k)).map (Value.int .i64)) ∧ ∀ q (h : q < ss.length), q < k → (readDec ss[q].data.toList).isSome = true) (fun _ i _ => ss.length - (intOf i).toNat)
 case atStart => exact ⟨0, Nat.zero_le _, rfl, Below.refl _ _, World.ownsRow_nil _ _ _ _, fun _ _ h => by omega⟩
 case round =>
  obtain ⟨k, hk, rfl, hb, ho, ha⟩ := hrel
  have HA := Lib.hid ha
  have HB := Lib.hid hb
  have HO := Lib.hid ho
  have hsz := hb.size
  clear ha hb ho
  by_cases hlt : k < ss.length
  ·obtain ⟨b1, o1, rfl, -, hbs, c1⟩ := (hrow.below HB.out).one hlt
   simp only [encS, List.getElem?_cons_zero] at c1
   clear hrow
   obtain ⟨p, hp⟩ : ∃ p, p = ss[k] := ⟨_, rfl⟩
   rw [← hp] at c1
   have HP := Lib.hid hp
   have hpz : p.size ≤ 1073741824 := by rw [hp]; exact HSZ.out k hlt
   clear hp
   obtain ⟨o, hd⟩ : ∃ o, readDec p.data.toList = o := ⟨_, rfl⟩
   have HD := Lib.hid hd
   clear hd
   go_wp2_with fail
   refine (ReadDecimal_any _ _ hpz (G.out.below HB.out)).mono ?_
   rintro e w1 ⟨rfl, hb1⟩
   have HB1 := Lib.hid hb1
   have hs1 := hb1.size
   clear hb1
   rw [HD.out]
   cases o with
   | none =>
    simp only [Option.isSome_none, Option.getD_none]
    go_wp2_with fail
    go_ret2
    have hf : decsOk ss = false := decsOk_none hlt (by rw [← HP.out]; exact HD.out)
    exact ⟨.slice none 0 0, by rw [hf]; rfl, HB.out.trans (HB1.out.mono hsz), fun h => by rw [hf] at h; cases h⟩
   | some n =>
    simp only [Option.isSome_some, Option.getD_some]
    have HO1 := Lib.hid (owns_below HO.out HB1.out)
    have HBB := Lib.hid (HB.out.trans (HB1.out.mono hsz))
    clear c1
    go_wp2_with (at_builtin; refine wpList_append_own _ rfl _ _ 56 rfl w.heap.size 2 i0 (.int .i64 0) 1 8 Tryz.underlying56 hi hz0 hz1 hz2 rfl (by decide) _ _ _ rfl (HO1.out.alloc _) ⟨w1.heap.size, 0, none⟩ 1 1 [.int .i64 n] rfl rfl ?c1 ?c2 ?c3 ?c4 ?c5 ?_)
    case c1 => exact (cell_one_new _ _ _)
    case c2 => intro u hu; simp at hu; subst hu; rfl
    case c3 => simp [maxLen]; omega
    case c4 => omega
    case c5 => simp; omega
    intro v' w3 ho1 hg1 _
    have HO2 : Hid (w3.ownsRow w.heap.size 2 1 v' (k + 1) ((decs (ss.take (k + 1))).map (Value.int .i64))) := by
     have e : (decs (ss.take (k + 1))).map (Value.int .i64) = (decs (ss.take k)).map (Value.int .i64) ++ [.int .i64 n] := by
      unfold decs
      rw [List.take_succ_eq_append_getElem hlt, List.map_append, List.map_append, ← HP.out]
      simp [HD.out]
     unfold Hid
     rw [e]
     exact ho1
    have HBX : Hid (Below w.heap.size w w3) := (HBB.out.alloc (by omega) _).grown hg1 (by simp; omega) (fun b e => (HO1.out.lt b e).1)
    clear ho1 hg1
    go_wp2
    go_roundw
    case rel => exact ⟨k + 1, by omega, by go_num, HBX.out, HO2.out, fun q h h' => by
     by_cases e : q = k
     ·subst e; rw [← HP.out, HD.out]; rfl
     ·exact HA.out q h (by omega)⟩
    case measure => simp [intOf]; omega
  ·obtain rfl : k = ss.length := by omega
   have HF : Hid (decsOk ss = true) := by
    unfold Hid decsOk
    rw [List.all_eq_true]
    intro x hx
    obtain ⟨q, hq, rfl⟩ := List.mem_iff_getElem.1 hx
    exact HA.out q hq hq
   have HO2 : Hid (wr.ownsRow w.heap.size 2 1 u4 (decs ss).length ((decs ss).map (Value.int .i64))) := by
    have := HO.out
    rw [List.take_length] at this
    unfold Hid
    rw [show (decs ss).length = ss.length from by simp [decs]]
    exact this
   clear hrow HO
   go_wp2_with fail
   go_ret2
   exact ⟨_, by rw [HF.out]; rfl, HB.out, fun _ => HO2.out⟩

end Go.Proofs.YtkbgncenjfebdaaGreatDoor
