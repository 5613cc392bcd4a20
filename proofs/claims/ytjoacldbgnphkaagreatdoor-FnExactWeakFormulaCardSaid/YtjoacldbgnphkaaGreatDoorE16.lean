/-
  The program's teller: tell.
-/
import Derived.Test.YtjoacldbgnphkaaGreatDoorE13
import Derived.Test.YtjoacldbgnphkaaGreatDoorE14
import Derived.Test.YtjoacldbgnphkaaGreatDoorE15
import Derived.Test.YtjoacldbgnphkaaGreatDoorE6
import Derived.Test.YtjoacldbgnphkaaGreatDoorE3
import Derived.Laws.Cover3
import Derived.Deep.Cut
namespace Go.Proofs.YtjoacldbgnphkaaGreatDoor
open Go Go.RowKit


theorem info_nodesT : (Tryz.prog.info? 27).map (fun i => (i.zero, i.size, i.bytes)) = some (some (.slice none 0 0), 1, 24) := by kernel_rfl
theorem info_nodeT : (Tryz.prog.info? 55).map (fun i => (i.zero, i.size, i.bytes)) = some (some (.agg #[.int .i64 0, .int .i64 0, .string ⟨#[]⟩, .bool false]), 4, 40) := by kernel_rfl
theorem joinD_lenB (kind : Int) : ∀ {D : List (List Nd)}, (∀ f ∈ D, f.length ≤ 200) → (joinD kind D).length ≤ 201 * D.length := fun {D} h => by
 by_cases h0 : D = []
 ·subst h0; simp [joinD]
 ·have h1 := joinD_len kind h0
  have h2 := sumN_le h
  omega
theorem accL_all_len (kind none : Int) {fs : List (List Nd)} (h : ∀ f ∈ fs, f.length ≤ 200) : (joinN kind none fs).length ≤ 201 * fs.length + 1 := by
 unfold joinN
 by_cases hd : diffL fs = []
 ·rw [if_pos hd]; simp
 ·rw [if_neg hd]
  have h1 := joinD_lenB kind (D := diffL fs) fun f hf => h f ((diffL_mem fs f).1 hf)
  have h2 := diffL_len fs
  omega
theorem joinN_ne {kind none : Int} {fs : List (List Nd)} (h : [] ∉ fs) : joinN kind none fs ≠ [] := by
 unfold joinN
 by_cases hd : diffL fs = []
 ·rw [if_pos hd]; simp
 ·rw [if_neg hd]
  cases hD : diffL fs with
  | nil => exact absurd hD hd
  | cons f r =>
   have hf : f ≠ [] := fun e => h (by rw [← e, ← diffL_mem, hD]; exact List.mem_cons_self ..)
   unfold joinD
   by_cases hr : r = []
   ·rw [if_pos hr]; exact hf
   ·rw [if_neg hr]; simp
theorem eqNilN (a : Option Addr) (l c : Nat) (w : World) : (binOp .eql 27 (.slice a l c) (.slice none 0 0)).run Tryz.prog w = .ok (.bool a.isNone) w := by
 simp only [binOp]
 simp [run_equal_slice_nil w 27 55 a l c Tryz.underlying27]
theorem KeptV.nil {w : World} {v : Value} {f : List Nd} (h : KeptV w v f) : ∃ a c, v = .slice a f.length c ∧ a.isNone = decide (f = []) := by
 obtain ⟨a, c, e, hn⟩ := h.slice
 refine ⟨a, c, e, ?_⟩
 cases a with
 | none => rw [decide_eq_true (hn.1 rfl)]; rfl
 | some x => rw [decide_eq_false (fun hf => by have := hn.2 hf; cases this)]; rfl
/-- A look at what is known, for all later worlds. -/
theorem TelMap.look2 {w : World} {mb : Nat} {t : Lts} {ks : List ((Int × Int) × Value)} (h : TelMap w mb t ks) {a b : Int} (hq : Small2 (a, b)) :
  (∃ v, KeptV w v (tellT t a b) ∧ ∀ w', Below w.heap.size w w' → (Instr.lookup 81 (.map (some mb)) (.agg #[.int .i64 a, .int .i64 b]) true).run Tryz.prog w' = .ok (.tuple #[v, .bool true]) w') ∨
  ((a, b) ∉ ks.map Prod.fst ∧ ∀ w', Below w.heap.size w w' → (Instr.lookup 81 (.map (some mb)) (.agg #[.int .i64 a, .int .i64 b]) true).run Tryz.prog w' = .ok (.tuple #[.slice none 0 0, .bool false]) w') := by
 by_cases hm : (a, b) ∈ ks.map Prod.fst
 ·left
  obtain ⟨k, hk, e⟩ := List.mem_map.1 hm
  obtain ⟨i, hi, rfl⟩ := List.mem_iff_getElem.1 hk
  have hv := h.val _ hk
  refine ⟨_, by rw [e] at hv; exact hv, fun w' hb => ?_⟩
  have hl := (h.below hb).map.found keyed2 underTel h.keys (by rw [TelMap.fsts]; exact nodup_key2 h.nodup) (i := i) (by simpa using hi)
  simp only [List.getElem_map] at hl
  rw [e] at hl
  exact hl
 ·right
  obtain ⟨kl, hkl⟩ := keyOf2 hq
  refine ⟨hm, fun w' hb => (h.below hb).map.missing keyed2 underTel h.keys (zeroTel w') hkl ?_⟩
  rw [TelMap.fsts]
  exact fun hx => hm (mem_key2.1 hx)
/-- New pairs part no later than s. -/
def NewK (t : Lts) (s : Nat) (ks ks' : List ((Int × Int) × Value)) : Prop := ∀ q, q ∈ ks'.map Prod.fst → q ∈ ks.map Prod.fst ∨ sepR t q.1 q.2 ≤ s
theorem NewK.refl (t : Lts) (s : Nat) (ks : List ((Int × Int) × Value)) : NewK t s ks ks := fun _ h => .inl h
theorem NewK.trans {t : Lts} {s s' : Nat} {a b c : List ((Int × Int) × Value)} (h : NewK t s a b) (k : NewK t s' b c) (hs : s' ≤ s) : NewK t s a c := fun q hq => (k q hq).elim (h q) fun h2 => .inr (Nat.le_trans h2 hs)
theorem NewK.mono {t : Lts} {s s' : Nat} {a b : List ((Int × Int) × Value)} (h : NewK t s a b) (hs : s ≤ s') : NewK t s' a b := fun q hq => (h q hq).imp id fun h2 => Nat.le_trans h2 hs
/-- What tell answers. -/
def RetTell (mb : Nat) (t : Lts) (A B : Int) (ks : List ((Int × Int) × Value)) (w : World) (e : Ending) (w' : World) : Prop :=
 ∃ v ks', e = .returned v ∧ KeptV w' v (tellT t A B) ∧ w.grownBy w' (some mb) ∧ TelMap w' mb t ks' ∧ NewK t (sepR t A B) ks ks'
/-- The formulas of the first ends, as they lie. -/
def RowsT (w : World) (hs : List Value) (L : List (List Nd)) : Prop := hs.length = L.length ∧ ∀ (i : Nat) (h : i < hs.length) (h' : i < L.length), KeptV w hs[i] L[i]
theorem RowsT.nil (w : World) : RowsT w [] [] := ⟨rfl, fun _ h => absurd h (Nat.not_lt_zero _)⟩
theorem RowsT.snoc {w : World} {hs : List Value} {L : List (List Nd)} (h : RowsT w hs L) {v : Value} {f : List Nd} (hv : KeptV w v f) : RowsT w (hs ++ [v]) (L ++ [f]) := by
 refine ⟨by simp [h.1], fun i hi hi' => ?_⟩
 by_cases hlt : i < hs.length
 ·rw [List.getElem_append_left hlt]
  simp only [List.getElem_append_left (show i < L.length by have := h.1; omega)]
  exact h.2 i hlt _
 ·have e : i = hs.length := by simp at hi; omega
  subst e
  have e1 : (L ++ [f])[hs.length] = f := by simp [h.1]
  rw [e1]
  simpa using hv
theorem RowsT.kept {w w' : World} {hs : List Value} {L : List (List Nd)} {row : Option Nat} (h : RowsT w hs L) (hg : w.grownBy w' row) (hr : ∀ {v : Value} {n : Nat} {xs : List Value}, w.ownsRow 0 55 4 v n xs → v.ownBlock = none ∨ v.ownBlock ≠ row) : RowsT w' hs L :=
 ⟨h.1, fun i hi hi' => (h.2 i hi hi').kept hg hr⟩
theorem RowsT.below {w w' : World} {hs : List Value} {L : List (List Nd)} (h : RowsT w hs L) (hb : Below w.heap.size w w') : RowsT w' hs L := ⟨h.1, fun i hi hi' => (h.2 i hi hi').below hb⟩
theorem TelMap.obj {w : World} {mb : Nat} {t : Lts} {ks : List ((Int × Int) × Value)} (h : TelMap w mb t ks) : ∃ es c, w.heap[mb]? = some (.map es c) := ⟨_, _, h.map⟩
theorem grown_chain {mb : Nat} {w w1 w2 : World} (h : w.grownBy w1 (some mb)) (hb : Below w1.heap.size w1 w2) : w.grownBy w2 (some mb) := grown_trans h (grown_below hb (some mb))
theorem Blk.keptMap {w w' : World} {b mb : Nat} {cs : List Value} {T : TypeId} (h : Blk w b cs T) (hg : w.grownBy w' (some mb)) {es : Array MapEntry} {c : Nat} (hm : w.heap[mb]? = some (.map es c)) : Blk w' b cs T :=
 h.keptM hg fun e => by
  cases e
  unfold Blk at h
  rw [h] at hm
  cases hm


set_option maxRecDepth 100000 in
set_option maxHeartbeats 4000000 in
theorem tell_any (xb mb lo S : Nat) (t : Lts) (lv ev rv : Value) (hv : Valid t) (hS : (S : Int) = t.states) : ∀ (d A B : Nat) (ks : List ((Int × Int) × Value)) (w : World), A < S → B < S → 0 < sepR t A B → sepR t A B ≤ d → Tel w xb mb lo t lv ev rv → TelMap w mb t ks →
  Calls Tryz.prog 49 #[.pointer (some ⟨xb, 0, none⟩), .int .i64 A, .int .i64 B] w (RetTell mb t A B ks w) := by
 intro d
 induction d with
 | zero => intro A B ks w _ _ h0 h1; omega
 | succ d ih =>
 intro A B ks w hA hB hs0 hsd hx hm
 have HIH := Lib.hid ih
 have HV := Lib.hid hv
 have HSS := Lib.hid hS
 have HX := Lib.hid hx
 have HM0 := Lib.hid hm
 have hS40 : S ≤ 40 := by have := hv.st1; omega
 have HQ : Hid (Small2 ((A : Int), (B : Int))) := ⟨⟨by show (0 : Int) ≤ A; omega, by show (A : Int) < 40; omega⟩, by show (0 : Int) ≤ B; omega, by show (B : Int) < 40; omega⟩
 obtain ⟨s, hse⟩ : ∃ s, sepR t A B = s + 1 := ⟨sepR t A B - 1, by omega⟩
 have HSE := Lib.hid hse
 have HSL : Hid (s ≤ lastR t) := by have := (sep_pos hse).1; unfold Hid; omega
 have hsd2 : s ≤ d := by omega
 have hs40 : s < 40 := by have := (sep_pos hse).1; have := (last_ok hv).1; have := hv.st1; omega
 have HDP : Hid (depthI t A B = (s : Int) + 1) := by unfold Hid depthI; rw [hse, if_neg (by omega)]; omega
 have HAB : Hid ((0 ≤ (A : Int) ∧ (A : Int) < t.states) ∧ 0 ≤ (B : Int) ∧ (B : Int) < t.states) := ⟨⟨by omega, by omega⟩, by omega, by omega⟩
 obtain ⟨i2, hi2, hz20, hz21, hz22⟩ := info_parts info_nodesT
 obtain ⟨i4, hi4, hz40, hz41, hz42⟩ := info_parts info_nodeT
 obtain ⟨kb, hkb⟩ : ∃ kb, kb = w.heap.size := ⟨_, rfl⟩
 obtain ⟨WK, hWK⟩ : ∃ WK, WK = w.alloc (.cells #[.int .i64 A, .int .i64 B] 104) := ⟨_, rfl⟩
 have hbK : Below w.heap.size w WK := by rw [hWK]; exact (Below.refl _ _).alloc (Nat.le_refl _) _
 have HKB : Hid (Blk WK kb [.int .i64 A, .int .i64 B] 104) := by unfold Hid; rw [hWK, hkb]; exact Blk.new w _ _
 have HXK := Lib.hid (hx.below hbK)
 have HMK := Lib.hid (hm.below hbK)
 have HBK := Lib.hid hbK
 have HWK := Lib.hid hWK
 have HKE := Lib.hid hkb
 have hszK : w.heap.size ≤ WK.heap.size := hbK.size
 have y5 := later_cell HXK.out.box.lt (HXK.out.box.cell 5 rfl)
 have y0 := later_cell HKB.out.lt (HKB.out.cell 0 rfl)
 have y1 := later_cell HKB.out.lt (HKB.out.cell 1 rfl)
 have hlook := HMK.out.look2 HQ.out
 clear hx hm hv hS hs0 hsd hse hbK hWK hkb ih
 rcases hlook with ⟨v, hkv, hlk⟩ | ⟨hnot, hlk⟩
 ·have hlk2 := fun (g : Later WK) => hlk g.w g.h
  obtain ⟨va, vc, rfl, -⟩ := hkv.slice
  have HKV := Lib.hid hkv
  clear hlk hkv
  go_enter Tryz.func49, Tryz.ntmps49
  go_wp2
  rw [← HWK.out, ← HKE.out]
  refine wp_region_later (by kernel_rfl) (by kernel_rfl) ?_
  repeat (go_big_quiet_step ((fail)))
  refine wpQuiet_nil ?_
  intro _ hw9
  obtain ⟨nl, hw8⟩ := hw9
  subst hw8
  go_wp2
  go_ret
  exact ⟨_, ks, rfl, HKV.out.below nl.h, grown_chain (grown_below HBK.out (some mb)) nl.h, HMK.out.below nl.h, NewK.refl _ _ _⟩
 ·have hlk2 := fun (g : Later WK) => hlk g.w g.h
  have HNOT := Lib.hid hnot
  clear hlk hnot
  go_enter Tryz.func49, Tryz.ntmps49
  go_wp2
  rw [← HWK.out, ← HKE.out]
  refine wp_region_later (by kernel_rfl) (by kernel_rfl) ?_
  repeat (go_big_quiet_step ((fail)))
  refine wpQuiet_nil ?_
  intro _ hw9
  obtain ⟨nl, hw8⟩ := hw9
  subst hw8
  obtain ⟨wA, hwA⟩ : ∃ wA, wA = nl.w := ⟨_, rfl⟩
  have hbA : Below WK.heap.size WK wA := by rw [hwA]; exact nl.h
  rw [← hwA]
  have HBA : Hid (Below w.heap.size w wA) := HBK.out.trans (hbA.mono hszK)
  have HTA := Lib.hid (HXK.out.below hbA)
  have HMA := Lib.hid (HMK.out.below hbA)
  have HKA := Lib.hid (HKB.out.below hbA)
  have HDC := Lib.hid (depth_any xb mb lo S t lv ev rv A B wA HV.out HSS.out hA hB HTA.out)
  rw [HDP.out] at HDC
  clear hwA hbA nl y5 y0 y1 hlk2
  go_wp2_with fail
  refine Calls.mono HDC.out ?_
  rintro e wB ⟨rfl, hbB⟩
  have HBB : Hid (Below w.heap.size w wB) := HBA.out.trans (hbB.mono HBA.out.size)
  have HTB := Lib.hid (HTA.out.below hbB)
  have HMB := Lib.hid (HMA.out.below hbB)
  have HKB2 := Lib.hid (HKA.out.below hbB)
  have hlo1 := lonely_any xb mb lo S t lv ev rv A B s wB HV.out HSS.out HSL.out HTB.out
  clear hbB HDC
  cases hln1 : loneE t (lev t s) A B with
  | some ed =>
   rw [hln1] at hlo1
   have HLO1 : Hid (Calls Tryz.prog 73 #[.pointer (some ⟨xb, 0, none⟩), .int .i64 A, .int .i64 B, .int .i64 s] wB fun e w' => e = .returned (.tuple #[.agg #[.int .i64 ed.src, .int .i64 ed.lab, .int .i64 ed.dst], .bool true]) ∧ Below wB.heap.size wB w') := hlo1
   have HLN := Lib.hid hln1
   have HTL : Hid (tellT t A B = buildN 4 2 0 (labAt t ed) ((endsG t (B : Int) ed.lab).map fun y => tellT t ed.dst y)) := tell_some HV.out HSE.out hln1
   clear hlo1 hln1
   go_wp2_with fail
   refine Calls.mono HLO1.out ?_
   rintro e wC ⟨rfl, hbC⟩
   obtain ⟨eb, heb⟩ : ∃ eb, eb = wC.heap.size := ⟨_, rfl⟩
   obtain ⟨WE, hWE⟩ : ∃ WE, WE = wC.alloc (.cells #[.int .i64 ed.src, .int .i64 ed.lab, .int .i64 ed.dst] 66) := ⟨_, rfl⟩
   have hbE : Below wB.heap.size wB WE := by rw [hWE]; exact hbC.alloc hbC.size _
   have HEB : Hid (Blk WE eb [.int .i64 ed.src, .int .i64 ed.lab, .int .i64 ed.dst] 66) := by unfold Hid; rw [hWE, heb]; exact Blk.new wC _ _
   have HBE : Hid (Below w.heap.size w WE) := HBB.out.trans (hbE.mono HBB.out.size)
   have HTE := Lib.hid (HTB.out.below hbE)
   have HME := Lib.hid (HMB.out.below hbE)
   have HKBE := Lib.hid (HKB2.out.below hbE)
   have HWE := Lib.hid hWE
   have HEBE := Lib.hid heb
   clear hbC hWE heb hbE HLO1
   go_upto_region 13 with fail
   rw [← HWE.out, ← HEBE.out]
   have hok := out_edge HV.out (lone_some HLN.out).1
   have HOK := Lib.hid hok
   obtain ⟨hlabl, hlabe⟩ := labAt_idx hok
   obtain ⟨la, lc, rfl, -, -, hlr⟩ := id HX.out.labs
   obtain ⟨bl, ol, rfl, -, hbl9, l1⟩ := hlr.one hlabl
   simp only [encS, List.getElem?_cons_zero] at l1
   obtain ⟨ln, hln⟩ : ∃ ln : Nat, (ln : Int) = ed.lab := ⟨ed.lab.toNat, by have := hok.l0; omega⟩
   have hlx : ed.lab.toNat = ln := by omega
   simp only [hlx] at l1 hlabl hlabe
   rw [← hlabe] at l1
   obtain ⟨LT, hLT⟩ : ∃ LT, LT = labAt t ed := ⟨_, rfl⟩
   have HFW : Hid (followL t [((B : Nat) : Int)] LT = endsG t ((B : Nat) : Int) ed.lab) := by
    unfold Hid
    rw [hLT, hlabe]
    exact (ends_follow HV.out _ hlabl).trans (congrArg (endsG t _) hln)
   rw [← hLT] at l1 HTL
   have hLN12 : t.labels.length ≤ 12 := HV.out.labels.most
   obtain ⟨LN, hLN⟩ : ∃ LN, LN = t.labels.length := ⟨_, rfl⟩
   have x2 := HTE.out.box.cell 2 rfl
   have hxlE := HTE.out.box.lt
   rw [← hLN] at x2 hlabl hLN12
   have e1 := HEB.out.cell 1 rfl
   rw [← hln] at e1
   have hblE : bl < WE.heap.size := Nat.lt_of_lt_of_le hbl9 HBE.out.size
   have l1E := keeps HBE.out hbl9 l1
   have y1 := later_cell hxlE x2
   have y2 := later_cell HEB.out.lt e1
   have y3 := later_cell hblE l1E
   obtain ⟨dn, hdn⟩ : ∃ dn : Nat, (dn : Int) = ed.dst := ⟨ed.dst.toNat, by have := hok.d0; omega⟩
   have hdS : dn < S := by have := HSS.out; have := hok.d1; omega
   have HDN := Lib.hid hdn
   have HLNE := Lib.hid hLN
   obtain ⟨E, hE⟩ : ∃ E, E = endsG t ((B : Nat) : Int) ed.lab := ⟨_, rfl⟩
   have HEE := Lib.hid hE
   rw [← hE] at HFW HTL
   obtain ⟨fn, hfn⟩ : ∃ fn : Int → List Nd, fn = fun y => tellT t ed.dst y := ⟨_, rfl⟩
   rw [← hfn] at HTL
   have HFN := Lib.hid hfn
   have HSP : Hid (∀ y, y ∈ E → 0 < sepR t (ed.dst : Int) (y : Int) ∧ sepR t (ed.dst : Int) (y : Int) ≤ s) := fun y hy => by
    have h := sep_ends HV.out HSL.out HLN.out (by rw [← hE]; exact hy)
    exact h
   have HEI : Hid (∀ y, y ∈ E → 0 ≤ y ∧ y < t.states) := fun y hy => by rw [hE] at hy; exact ends_in HV.out hy
   have HE3 : Hid (E.length ≤ 300) := by
    have h1 := fsK_len t ((B : Nat) : Int) ed.lab (fun _ => []) t.edges.length
    have h2 := HV.out.most
    rw [fsK_all, List.length_map, ← hE] at h1
    unfold Hid
    omega
   clear hok hlabe hlr hln hlx hLT hdn hE hfn x2 l1 l1E hbl9 e1 hLN
   go_wp2
   refine wp_region_later (by kernel_rfl) (by kernel_rfl) ?_
   repeat (go_big_quiet_step ((fail)))
   refine wpQuiet_nil ?_
   intro _ hw9
   obtain ⟨nl, hw8⟩ := hw9
   subst hw8
   obtain ⟨wF, hwF⟩ : ∃ wF, wF = nl.w := ⟨_, rfl⟩
   have hbF : Below WE.heap.size WE wF := by rw [hwF]; exact nl.h
   rw [← hwF]
   have HBF : Hid (Below w.heap.size w wF) := HBE.out.trans (hbF.mono HBE.out.size)
   have HTF := Lib.hid (HTE.out.below hbF)
   have HMF := Lib.hid (HME.out.below hbF)
   have HEBF := Lib.hid (HEB.out.below hbF)
   have HKF := Lib.hid (HKBE.out.below hbF)
   clear hwF y1 y2 y3 nl hbF
   have x0 := HTF.out.box.cell 0 rfl
   have x1 := HTF.out.box.cell 1 rfl
   have x2 := HTF.out.box.cell 2 rfl
   have x3 := HTF.out.box.cell 3 rfl
   rw [← HLNE.out] at x2
   have hxl := HTF.out.box.lt
   obtain ⟨WN, hWN⟩ : ∃ WN, WN = wF.alloc (.cells #[.int .i64 B] 2) := ⟨_, rfl⟩
   have hbN : Below wF.heap.size wF WN := by rw [hWN]; exact (Below.refl _ _).alloc (Nat.le_refl _) _
   obtain ⟨nb, hnb⟩ : ∃ nb, nb = wF.heap.size := ⟨_, rfl⟩
   have HSN : Hid (SliceK 1 encI w.heap.size WN (.slice (some ⟨nb, 0, none⟩) 1 1) [((B : Nat) : Int)]) := by
    have h := World.ownsRow_lit (base := w.heap.size) (size := 1) wF #[.int .i64 B] (e := 2) 1 HBF.out.size (by simp [maxLen]) rfl
    rw [← hWN, ← hnb] at h
    exact SliceK.of_owns (enc := encI) (e := 2) (xs := [((B : Nat) : Int)]) encI_len rfl h
   have HBN : Hid (Below w.heap.size w WN) := HBF.out.trans (hbN.mono HBF.out.size)
   have HTN := Lib.hid (HTF.out.below hbN)
   have HMN := Lib.hid (HMF.out.below hbN)
   have HEBN := Lib.hid (HEBF.out.below hbN)
   have HKN := Lib.hid (HKF.out.below hbN)
   have HFO := Lib.hid (follow_any lo w.heap.size t (.slice (some ⟨bl, ol, none⟩) t.labels.length lc) ev (.slice (some ⟨nb, 0, none⟩) 1 1) [((B : Nat) : Int)] LT WN HV.out HTN.out.labs HTN.out.edgs HSN.out)
   rw [HFW.out, ← HLNE.out] at HFO
   have HWN := Lib.hid hWN
   have HNB := Lib.hid hnb
   clear hWN hnb hbN
   go_wp2_with fail
   rw [← HWN.out]
   try rw [← HNB.out]
   refine Calls.mono HFO.out ?_
   rintro e wG ⟨nv, rfl, hbG, hoG⟩
   obtain ⟨na, nc, rfl, -, -⟩ := owns_slice hoG
   have HBG : Hid (Below w.heap.size w wG) := HBN.out.trans (hbG.mono HBN.out.size)
   have HTG := Lib.hid (HTN.out.below hbG)
   have HMG := Lib.hid (HMN.out.below hbG)
   have HEBG := Lib.hid (HEBN.out.below hbG)
   have HKG := Lib.hid (HKN.out.below hbG)
   have HOG := Lib.hid hoG
   have hszG : w.heap.size ≤ wG.heap.size := HBG.out.size
   obtain ⟨NE, hNE⟩ : ∃ NE, NE = E.length := ⟨_, rfl⟩
   rw [← hNE] at HOG HE3 ⊢
   have HNE := Lib.hid hNE
   have hNE3 : NE ≤ 300 := HE3.out
   clear hbG hoG hNE x0 x1 x2 x3 HFO
   go_wp2_with fail
   go_loopw [18, 19, 84] (fun v18 v19 v84 wr => ∃ (i : Nat) (hs : List Value) (ks2 : List ((Int × Int) × Value)), i ≤ NE ∧ v84 = .int .i64 i ∧ v19 = .bool (decide ([] ∈ (E.take i).map fn)) ∧ wG.grownBy wr (some mb) ∧ TelMap wr mb t ks2 ∧ NewK t s ks ks2 ∧ RowsT wr hs ((E.take i).map fn) ∧ wr.ownsRow wG.heap.size 27 1 v18 hs.length hs) (fun _ _ v84 _ => NE - (intOf v84).toNat)
   case atStart => exact ⟨0, [], ks, Nat.zero_le _, rfl, by simp, grown_refl _ _, HMG.out, NewK.refl _ _ _, by rw [List.take_zero]; exact RowsT.nil _, World.ownsRow_nil _ _ _ _⟩
   case round =>
    obtain ⟨i, hs, ks2, hi, rfl, rfl, hg, hm2, hnk, hrt, ho⟩ := hrel
    obtain ⟨wC, rfl⟩ : ∃ wC : World, wC = wr := ⟨_, rfl⟩
    obtain ⟨es0, ec0, hmob⟩ := HMG.out.obj
    have HTC := Lib.hid (HTG.out.grown HMG.out hg)
    have HEBC := Lib.hid (HEBG.out.keptMap hg hmob)
    have HKC := Lib.hid (HKG.out.keptMap hg hmob)
    have HOC := Lib.hid (HOG.out.kept hg (own_map_ne HOG.out hmob))
    have HGC := Lib.hid hg
    have HMC := Lib.hid hm2
    have HNK := Lib.hid hnk
    have HRT := Lib.hid hrt
    have HLI := Lib.hid ho
    obtain ⟨da, dc, rfl, -, -⟩ := owns_slice ho
    have hszC : w.heap.size ≤ wC.heap.size := Nat.le_trans hszG hg.size
    have hrl := hrt.1
    rw [List.length_map, List.length_take] at hrl
    obtain ⟨M, hM⟩ : ∃ M, M = hs.length := ⟨_, rfl⟩
    rw [← hM] at HLI ⊢
    have hMi : M ≤ i := by omega
    have HM := Lib.hid hM
    obtain ⟨lg, hlg⟩ : ∃ lg, lg = decide ([] ∈ (E.take i).map fn) := ⟨_, rfl⟩
    rw [← hlg]
    have HLG := Lib.hid hlg
    clear hg hm2 hnk hrt ho hrl hM hlg hmob
    by_cases hlt : i < NE
    ·have hiE : i < E.length := by rw [← HNE.out]; exact hlt
     have hyi := HEI.out _ (List.getElem_mem hiE)
     have hsp := HSP.out _ (List.getElem_mem hiE)
     have HTK : Hid ((E.take (i + 1)).map fn = (E.take i).map fn ++ [fn E[i]]) := by unfold Hid; rw [List.take_succ_eq_append_getElem hiE, List.map_append]; rfl
     have hrow : ∃ g, na = some ⟨g, 0, none⟩ := by
      rcases HOC.out.2 with ⟨-, h0⟩ | ⟨g, cap, cur, he, -⟩
      ·omega
      ·simp only [Value.slice.injEq] at he
       exact ⟨g, he.1⟩
     obtain ⟨ng, rfl⟩ := hrow
     have c8 := HOC.out.cellAt i (by omega)
     have hcy : (E.map (Value.int .i64))[i]? = some (.int .i64 E[i]) := by rw [List.getElem?_map, List.getElem?_eq_getElem hiE]; rfl
     rw [hcy] at c8
     obtain ⟨y, hy⟩ : ∃ y, y = E[i] := ⟨_, rfl⟩
     rw [← hy] at hyi hsp HTK c8
     obtain ⟨yn, rfl⟩ : ∃ yn : Nat, y = (yn : Int) := ⟨y.toNat, by omega⟩
     have hyS : yn < S := by have := HSS.out; omega
     have e2 := HEBC.out.cell 2 rfl
     rw [← HDN.out] at e2
     have hFX : fn (yn : Int) = tellT t (dn : Int) (yn : Int) := by rw [HFN.out, HDN.out]
     rw [← HDN.out] at hsp
     have HFX := Lib.hid hFX
     clear hcy hy hyi hFX
     have hbR : Below wC.heap.size wC wC := Below.refl _ _
     have HTR := Lib.hid (HTC.out.below hbR)
     have HMR := Lib.hid (HMC.out.below hbR)
     have HIC := Lib.hid (HIH.out dn yn ks2 wC hdS hyS hsp.1 (Nat.le_trans hsp.2 hsd2) HTR.out HMR.out)
     have HSQ := Lib.hid hsp.2
     have HBR := Lib.hid hbR
     have hszR : w.heap.size ≤ wC.heap.size := Nat.le_trans hszC hbR.size
     clear hbR hsp
     go_wp2_with fail
     clear e2 c8
     refine Calls.mono HIC.out ?_
     rintro e wT ⟨v, ks3, rfl, hkv, hgT, hmT, hnT⟩
     obtain ⟨fa, fc, rfl, hnil⟩ := hkv.nil
     obtain ⟨esR, ecR, hmobR⟩ := HMR.out.obj
     have HGT : Hid (wG.grownBy wT (some mb)) := grown_trans (grown_chain HGC.out HBR.out) hgT
     have HMT := Lib.hid hmT
     have HKT := Lib.hid hkv
     have hnodeR : ∀ {v : Value} {n : Nat} {xs : List Value}, wC.ownsRow 0 55 4 v n xs → v.ownBlock = none ∨ v.ownBlock ≠ some mb := fun ho => own_map_ne ho hmobR
     have HRTT := Lib.hid ((HRT.out.below HBR.out).kept hgT hnodeR)
     have HLT := Lib.hid ((owns_below HLI.out HBR.out).kept hgT (own_map_ne (owns_below HLI.out HBR.out) hmobR))
     have hszT2 : wG.heap.size ≤ wT.heap.size := HGT.out.size
     have HNKT : Hid (NewK t s ks ks3) := HNK.out.trans hnT HSQ.out
     have hszT : w.heap.size ≤ wT.heap.size := Nat.le_trans hszR hgT.size
     rw [← HFX.out] at HKT hnil ⊢
     have HLN2 : Hid (decide ([] ∈ (E.take (i + 1)).map fn) = (lg || decide (fn (yn : Int) = []))) := by
      unfold Hid
      rw [HTK.out, HLG.out, Bool.eq_iff_iff, Bool.or_eq_true, decide_eq_true_iff, decide_eq_true_iff, decide_eq_true_iff, List.mem_append, List.mem_singleton]
      exact ⟨fun h => h.imp id fun e => e.symm, fun h => h.imp id fun e => e.symm⟩
     obtain ⟨nq, hnq⟩ : ∃ nq, nq = decide (fn (yn : Int) = []) := ⟨_, rfl⟩
     rw [← hnq] at hnil HLN2
     obtain ⟨FL, hFL⟩ : ∃ FL, FL = (fn (yn : Int)).length := ⟨_, rfl⟩
     rw [← hFL] at HKT ⊢
     have hEQ := eqNilN fa FL fc wT
     rw [hnil] at hEQ
     clear hkv hgT hmT hnT hnq hFL HIC hnodeR hmobR
     clear hnil
     cases lg <;> cases nq
     all_goals (
      go_wp2_with (at_builtin; refine wpList_append_own _ rfl _ _ 47 rfl wG.heap.size 27 i2 (.slice none 0 0) 1 24 Tryz.underlying47 hi2 hz20 hz21 hz22 rfl (by decide) _ M _ rfl (HLT.out.alloc _) ⟨wT.heap.size, 0, none⟩ 1 1 [.slice fa FL fc] rfl rfl (World.news_of_block (cs := #[.slice fa FL fc]) (t := 27) (fr := (0, 0)) (heap_alloc_new _ _)) (by intro u hu; simp at hu; subst hu; rfl) (by simp [maxLen]; omega) (by omega) (by simp; omega) ?_)
      intro v7 w7 ho7 hg7 _
      have hal : Below wT.heap.size wT (wT.alloc (.cells #[.slice fa FL fc] 27)) := (Below.refl _ _).alloc (Nat.le_refl _) _
      have hlA := owns_below HLT.out hal
      have hmA := HMT.out.below hal
      have hnode7 : ∀ {v : Value} {n : Nat} {xs : List Value}, (wT.alloc (.cells #[.slice fa FL fc] 27)).ownsRow 0 55 4 v n xs → v.ownBlock = none ∨ v.ownBlock ≠ (Value.slice da M dc).ownBlock := fun ho => own_types ho hlA (by decide)
      have hmne : (Value.slice da M dc).ownBlock ≠ some mb := by
       obtain ⟨es9, ec9, h9⟩ := hmA.obj
       rcases own_map_ne hlA h9 with h | h
       ·rw [h]; simp
       ·exact h
      have HM7 := Lib.hid (hmA.kept hg7 hmne hnode7)
      have HR7 : Hid (RowsT w7 (hs ++ [.slice fa FL fc]) ((E.take (i + 1)).map fn)) := by
       unfold Hid
       rw [HTK.out]
       exact ((HRTT.out.below hal).kept hg7 hnode7).snoc ((HKT.out.below hal).kept hg7 hnode7)
      have HG7 : Hid (wG.grownBy w7 (some mb)) := by
       have h1 := grown_chain HGT.out hal
       refine ⟨hg7.os.trans h1.os, hg7.tape.trans h1.tape, hg7.output.trans h1.output, Nat.le_trans h1.size hg7.size, fun k hk hne => (hg7.block k (Nat.lt_of_lt_of_le hk h1.size) (fun e => ?_)).trans (h1.block k hk hne)⟩
       have h9 := (HLT.out.lt k e.symm).1
       omega
      have HLS7 : Hid ((hs ++ [Value.slice fa FL fc]).length = M + 1) := by unfold Hid; rw [List.length_append, ← HM.out]; rfl
      have HO7 := Lib.hid ho7
      clear ho7 hg7 hal hlA hmA hnode7 hmne hEQ
      go_wp2
      go_roundw
      case' rel => exact ⟨i + 1, _, ks3, by omega, by go_num, by rw [HLN2.out]; simp, HG7.out, HM7.out, HNKT.out, HR7.out, by rw [HLS7.out]; exact HO7.out⟩
      case' measure => simp [intOf]; omega)
    ·have HALL : Hid (E.take i = E) := by unfold Hid; rw [List.take_of_length_le (by rw [← HNE.out]; omega)]
     rw [HALL.out] at HLG HRT
     have HGW0 : Hid (w.grownBy wC (some mb)) := grown_trans (grown_below HBG.out (some mb)) HGC.out
     have HNI : Hid (((A : Int), (B : Int)) ∉ ks2.map Prod.fst) := fun h => (HNK.out _ h).elim HNOT.out fun h2 => by
      have h3 : sepR t (A : Int) (B : Int) ≤ s := h2
      have := HSE.out
      omega
     cases lg
     ·have HNE0 : Hid ([] ∉ E.map fn) := of_decide_eq_false HLG.out.symm
      obtain ⟨WM, hWM⟩ : ∃ WM, WM = wC.alloc (.cells #[.int .i64 4, .int .i64 0, .string LT, .bool false] 55) := ⟨_, rfl⟩
      have hbM : Below wC.heap.size wC WM := by rw [hWM]; exact (Below.refl _ _).alloc (Nat.le_refl _) _
      obtain ⟨ob, hob⟩ : ∃ ob, ob = wC.heap.size := ⟨_, rfl⟩
      have HOM : Hid (WM.ownsRow wC.heap.size 55 4 (.slice (some ⟨ob, 0, none⟩) 1 1) 1 [.int .i64 4, .int .i64 0, .string LT, .bool false]) := by
       have h := World.ownsRow_lit (base := wC.heap.size) (size := 4) wC #[.int .i64 4, .int .i64 0, .string LT, .bool false] (e := 55) 1 (Nat.le_refl _) (by simp [maxLen]) rfl
       rw [← hWM] at h
       unfold Hid
       rw [hob]
       exact h
      have hliM := owns_below HLI.out hbM
      have hrtM := HRT.out.below hbM
      have hml : hs.length = (E.map fn).length := HRT.out.1
      have HJC := Lib.hid (joinedNodes_any wG.heap.size (.slice da M dc) hs (E.map fn) 2 0 WM (by
        have h : SliceK 1 encV wG.heap.size WM (.slice da M dc) hs := SliceK.of_owns (enc := encV) (e := 27) encV_len HM.out (by rw [flat_encV]; exact hliM)
        exact h) hml (fun i h h' => (hrtM.2 i h h').at) HNE0.out (fun f hf => by
        obtain ⟨z, -, rfl⟩ := List.mem_map.1 hf
        rw [HFN.out]
        exact tellT_short t _ _) (by rw [List.length_map, ← HNE.out]; exact HE3.out))
      have HWM := Lib.hid hWM
      have HOB := Lib.hid hob
      have HBM := Lib.hid hbM
      clear hWM hob hbM hliM hrtM hml
      go_wp2_with fail
      rw [← HWM.out, ← HOB.out]
      refine Calls.mono HJC.out ?_
      rintro e wJ ⟨jv, rfl, hbJ, hsj⟩
      obtain ⟨J, hJ⟩ : ∃ J, J = joinN 2 0 (E.map fn) := ⟨_, rfl⟩
      rw [← hJ] at hsj
      have hJn : J ≠ [] := by rw [hJ]; exact joinN_ne HNE0.out
      have HJL : Hid (J.length ≤ 100000) := by
       have h1 := accL_all_len 2 0 (fs := E.map fn) (fun f hf => by
        obtain ⟨z, -, rfl⟩ := List.mem_map.1 hf
        rw [HFN.out]
        exact tellT_short t _ _)
       rw [← hJ, List.length_map, ← HNE.out] at h1
       unfold Hid
       omega
      have HJE := Lib.hid hJ
      obtain ⟨bq, oq, cq, rfl, -, hqb, hqc⟩ := form_cells hsj hJn
      obtain ⟨JL, hJL⟩ : ∃ JL, JL = J.length := ⟨_, rfl⟩
      rw [← hJL] at HJL ⊢
      have hJL1 : 0 < JL := by rw [hJL]; exact List.length_pos_iff.2 hJn
      have hJL2 : JL ≤ 100000 := HJL.out
      have HJ4 : Hid ((J.flatMap encN).length = JL * 4) := by unfold Hid; rw [flatN_len, ← hJL]
      have HJLE := Lib.hid hJL
      have HQC := Lib.hid hqc
      have HOJ := Lib.hid (owns_below HOM.out hbJ)
      have hszJ : wC.heap.size ≤ wJ.heap.size := Nat.le_trans HBM.out.size hbJ.size
      have HBJ : Hid (Below wC.heap.size wC wJ) := HBM.out.trans (hbJ.mono HBM.out.size)
      clear hsj hJ hJn hqb hqc hJL hbJ HJC
      go_wp2_with (at_builtin; refine wpList_append_lies _ rfl _ _ 27 rfl wC.heap.size 55 i4 _ 4 40 Tryz.underlying27 hi4 hz40 hz41 hz42 rfl (by decide) _ _ _ rfl HOJ.out ⟨bq, oq, none⟩ JL cq (J.flatMap encN) rfl HJ4.out HQC.out (flatN_one _) hJL1 (by simp [maxLen]; omega) (by omega) hszJ _ rfl ?_)
      intro g9 c9 w9 ho9 hg9 hat9 hlt9
      have hb9 : Below wC.heap.size wC w9 := HBJ.out.grown hg9 hszJ (fun b e => (HOJ.out.lt b e).1)
      have HB9 := Lib.hid hb9
      have HTW := Lib.hid (HTC.out.below hb9)
      have HKW := Lib.hid (HKC.out.below hb9)
      have HMW := Lib.hid (HMC.out.below hb9)
      have HGW := Lib.hid (grown_chain HGW0.out hb9)
      have HO9 : Hid (FormO wC.heap.size w9 (.slice (some ⟨g9, 0, none⟩) (1 + JL) c9) (⟨4, LT⟩ :: J)) := by
       unfold Hid FormO
       rw [List.length_cons, ← HJLE.out, Nat.add_comm JL 1, List.flatMap_cons]
       exact ho9
      clear ho9 hg9 hat9 hlt9 hb9
      by_cases hbig : 200 < 1 + JL
      ·have HNIL : Hid (tellT t (A : Int) (B : Int) = []) := by
        unfold Hid
        rw [HTL.out]
        unfold buildN
        rw [if_neg HNE0.out, if_pos]
        rw [← HJE.out, ← HJLE.out]
        omega
       have HKV0 : Hid (KeptV w9 (.slice none 0 0) (tellT t (A : Int) (B : Int))) := .inl ⟨HNIL.out, rfl⟩
       have hxW := HTW.out.box
       have z5 := later_cell hxW.lt (hxW.cell 5 rfl)
       have z0 := later_cell HKW.out.lt (HKW.out.cell 0 rfl)
       have z1 := later_cell HKW.out.lt (HKW.out.cell 1 rfl)
       have HUP : Hid (∀ g : Later w9, ∃ w', (Instr.mapUpdate 81 (.map (some mb)) (.agg #[.int .i64 A, .int .i64 B]) (.slice none 0 0)).run Tryz.prog g.w = .ok () w' ∧ TelMap w' mb t (ks2 ++ [(((A : Int), (B : Int)), .slice none 0 0)]) ∧ g.w.grownBy w' (some mb)) := fun g => (HMW.out.below g.h).push HQ.out HNI.out (by have := HMW.out.few; omega) (HKV0.out.below g.h)
       clear hxW
       go_wp2
       refine wp_region_later_tail 6 (by kernel_rfl) (by kernel_rfl) ?_
       simp only [List.take_succ_cons, List.take_zero, List.drop_succ_cons, List.drop_zero]
       repeat (go_big_quiet_step ((fail)))
       refine wpQuiet_nil ?_
       intro _ hw9
       obtain ⟨nl, hw8⟩ := hw9
       subst hw8
       obtain ⟨w2, hup, hm2, hg2⟩ := HUP.out nl
       have HM2 := Lib.hid hm2
       have HG2 : Hid (w.grownBy w2 (some mb)) := grown_trans (grown_chain HGW.out nl.h) hg2
       have HKV2 : Hid (KeptV w2 (.slice none 0 0) (tellT t A B)) := (HKV0.out.below nl.h).kept hg2 (fun ho => own_map_ne ho ((HMW.out.below nl.h).map : nl.w.heap[mb]? = some (.map _ _)))
       have HNK2 : Hid (NewK t (sepR t A B) ks (ks2 ++ [(((A : Int), (B : Int)), .slice none 0 0)])) := fun q hq => by
        rw [List.map_append, List.mem_append] at hq
        rcases hq with hq | hq
        ·exact (HNK.out q hq).imp id fun h => by have := HSE.out; omega
        ·rw [List.map_cons, List.map_nil, List.mem_singleton] at hq
         subst hq
         exact .inr (Nat.le_refl _)
       clear z5 z0 z1 hm2 hg2
       go_wp2
       go_ret
       exact ⟨_, _, rfl, HKV2.out, HG2.out, HM2.out, HNK2.out⟩
      ·have HVAL : Hid (tellT t (A : Int) (B : Int) = ⟨4, LT⟩ :: J) := by
        unfold Hid
        rw [HTL.out]
        unfold buildN
        rw [if_neg HNE0.out, if_neg, ← HJE.out]
        rw [← HJE.out, ← HJLE.out]
        omega
       have HKV0 : Hid (KeptV w9 (.slice (some ⟨g9, 0, none⟩) (1 + JL) c9) (tellT t (A : Int) (B : Int))) := .inr ⟨by rw [HVAL.out]; simp, by rw [HVAL.out]; exact HO9.out.lower (Nat.zero_le _)⟩
       have hxW := HTW.out.box
       have z5 := later_cell hxW.lt (hxW.cell 5 rfl)
       have z0 := later_cell HKW.out.lt (HKW.out.cell 0 rfl)
       have z1 := later_cell HKW.out.lt (HKW.out.cell 1 rfl)
       have HUP : Hid (∀ g : Later w9, ∃ w', (Instr.mapUpdate 81 (.map (some mb)) (.agg #[.int .i64 A, .int .i64 B]) (.slice (some ⟨g9, 0, none⟩) (1 + JL) c9)).run Tryz.prog g.w = .ok () w' ∧ TelMap w' mb t (ks2 ++ [(((A : Int), (B : Int)), .slice (some ⟨g9, 0, none⟩) (1 + JL) c9)]) ∧ g.w.grownBy w' (some mb)) := fun g => (HMW.out.below g.h).push HQ.out HNI.out (by have := HMW.out.few; omega) (HKV0.out.below g.h)
       clear hxW
       go_wp2
       refine wp_region_later_tail 6 (by kernel_rfl) (by kernel_rfl) ?_
       simp only [List.take_succ_cons, List.take_zero, List.drop_succ_cons, List.drop_zero]
       repeat (go_big_quiet_step ((fail)))
       refine wpQuiet_nil ?_
       intro _ hw9
       obtain ⟨nl, hw8⟩ := hw9
       subst hw8
       obtain ⟨w2, hup, hm2, hg2⟩ := HUP.out nl
       have HM2 := Lib.hid hm2
       have HG2 : Hid (w.grownBy w2 (some mb)) := grown_trans (grown_chain HGW.out nl.h) hg2
       have HKV2 : Hid (KeptV w2 (.slice (some ⟨g9, 0, none⟩) (1 + JL) c9) (tellT t A B)) := (HKV0.out.below nl.h).kept hg2 (fun ho => own_map_ne ho ((HMW.out.below nl.h).map : nl.w.heap[mb]? = some (.map _ _)))
       have HNK2 : Hid (NewK t (sepR t A B) ks (ks2 ++ [(((A : Int), (B : Int)), .slice (some ⟨g9, 0, none⟩) (1 + JL) c9)])) := fun q hq => by
        rw [List.map_append, List.mem_append] at hq
        rcases hq with hq | hq
        ·exact (HNK.out q hq).imp id fun h => by have := HSE.out; omega
        ·rw [List.map_cons, List.map_nil, List.mem_singleton] at hq
         subst hq
         exact .inr (Nat.le_refl _)
       clear z5 z0 z1 hm2 hg2
       go_wp2
       go_ret
       exact ⟨_, _, rfl, HKV2.out, HG2.out, HM2.out, HNK2.out⟩
     ·have HNIL : Hid (tellT t (A : Int) (B : Int) = []) := by
       unfold Hid
       rw [HTL.out]
       unfold buildN
       rw [if_pos (of_decide_eq_true HLG.out.symm)]
      have HKV0 : Hid (KeptV wC (.slice none 0 0) (tellT t (A : Int) (B : Int))) := .inl ⟨HNIL.out, rfl⟩
      have HTW := HTC
      have HKW := HKC
      have HMW := HMC
      have HGW := HGW0
      have hxW := HTW.out.box
      have z5 := later_cell hxW.lt (hxW.cell 5 rfl)
      have z0 := later_cell HKW.out.lt (HKW.out.cell 0 rfl)
      have z1 := later_cell HKW.out.lt (HKW.out.cell 1 rfl)
      have HUP : Hid (∀ g : Later wC, ∃ w', (Instr.mapUpdate 81 (.map (some mb)) (.agg #[.int .i64 A, .int .i64 B]) (.slice none 0 0)).run Tryz.prog g.w = .ok () w' ∧ TelMap w' mb t (ks2 ++ [(((A : Int), (B : Int)), .slice none 0 0)]) ∧ g.w.grownBy w' (some mb)) := fun g => (HMW.out.below g.h).push HQ.out HNI.out (by have := HMW.out.few; omega) (HKV0.out.below g.h)
      clear hxW
      go_wp2
      refine wp_region_later_tail 6 (by kernel_rfl) (by kernel_rfl) ?_
      simp only [List.take_succ_cons, List.take_zero, List.drop_succ_cons, List.drop_zero]
      repeat (go_big_quiet_step ((fail)))
      refine wpQuiet_nil ?_
      intro _ hw9
      obtain ⟨nl, hw8⟩ := hw9
      subst hw8
      obtain ⟨w2, hup, hm2, hg2⟩ := HUP.out nl
      have HM2 := Lib.hid hm2
      have HG2 : Hid (w.grownBy w2 (some mb)) := grown_trans (grown_chain HGW.out nl.h) hg2
      have HKV2 : Hid (KeptV w2 (.slice none 0 0) (tellT t A B)) := (HKV0.out.below nl.h).kept hg2 (fun ho => own_map_ne ho ((HMW.out.below nl.h).map : nl.w.heap[mb]? = some (.map _ _)))
      have HNK2 : Hid (NewK t (sepR t A B) ks (ks2 ++ [(((A : Int), (B : Int)), .slice none 0 0)])) := fun q hq => by
       rw [List.map_append, List.mem_append] at hq
       rcases hq with hq | hq
       ·exact (HNK.out q hq).imp id fun h => by have := HSE.out; omega
       ·rw [List.map_cons, List.map_nil, List.mem_singleton] at hq
        subst hq
        exact .inr (Nat.le_refl _)
      clear z5 z0 z1 hm2 hg2
      go_wp2
      go_ret
      exact ⟨_, _, rfl, HKV2.out, HG2.out, HM2.out, HNK2.out⟩
  | none =>
   rw [hln1] at hlo1
   have HLO1 : Hid (Calls Tryz.prog 73 #[.pointer (some ⟨xb, 0, none⟩), .int .i64 A, .int .i64 B, .int .i64 s] wB fun e w' => e = .returned (.tuple #[.agg #[.int .i64 0, .int .i64 0, .int .i64 0], .bool false]) ∧ Below wB.heap.size wB w') := hlo1
   obtain ⟨ed, hln2⟩ : ∃ ed, loneE t (lev t s) B A = some ed := by
    rcases lone_is HV.out HAB.out.1 HAB.out.2 HSE.out with h | h
    ·exact absurd hln1 h
    ·cases hq : loneE t (lev t s) B A with
     | none => exact absurd hq h
     | some ed => exact ⟨ed, rfl⟩
   have HLN := Lib.hid hln2
   have HTL : Hid (tellT t A B = buildN 5 3 1 (labAt t ed) ((endsG t (A : Int) ed.lab).map fun x => tellT t x ed.dst)) := tell_none HV.out HSE.out hln1 hln2
   clear hlo1 hln1
   go_wp2_with fail
   refine Calls.mono HLO1.out ?_
   rintro e wC ⟨rfl, hbC⟩
   obtain ⟨eb, heb⟩ : ∃ eb, eb = wC.heap.size := ⟨_, rfl⟩
   obtain ⟨WZ, hWZ⟩ : ∃ WZ, WZ = wC.alloc (.cells #[.int .i64 0, .int .i64 0, .int .i64 0] 66) := ⟨_, rfl⟩
   have hbZ : Below wB.heap.size wB WZ := by rw [hWZ]; exact hbC.alloc hbC.size _
   have HEZ : Hid (Blk WZ eb [.int .i64 0, .int .i64 0, .int .i64 0] 66) := by unfold Hid; rw [hWZ, heb]; exact Blk.new wC _ _
   have hebB : wB.heap.size ≤ eb := by rw [heb]; exact hbC.size
   have HBZ := Lib.hid hbZ
   have hlo2 := lonely_any xb mb lo S t lv ev rv B A s WZ HV.out HSS.out HSL.out (HTB.out.below hbZ)
   rw [hln2] at hlo2
   have HLO2 : Hid (Calls Tryz.prog 73 #[.pointer (some ⟨xb, 0, none⟩), .int .i64 B, .int .i64 A, .int .i64 s] WZ fun e w' => e = .returned (.tuple #[.agg #[.int .i64 ed.src, .int .i64 ed.lab, .int .i64 ed.dst], .bool true]) ∧ Below WZ.heap.size WZ w') := hlo2
   have HWZ := Lib.hid hWZ
   have HEBE := Lib.hid heb
   clear hbC hWZ heb hbZ hlo2 hln2 HLO1
   go_wp2_with fail
   rw [← HWZ.out, ← HEBE.out]
   refine Calls.mono HLO2.out ?_
   rintro e wD ⟨rfl, hbD⟩
   have HED := Lib.hid (HEZ.out.below hbD)
   have hbBD : Below wB.heap.size wB wD := HBZ.out.trans (hbD.mono HBZ.out.size)
   have r0 := HED.out.cell 0 rfl
   have r1 := HED.out.cell 1 rfl
   have r2 := HED.out.cell 2 rfl
   have s0 := HED.out.frozen 0
   have s1 := HED.out.frozen 1
   have s2 := HED.out.frozen 2
   obtain ⟨WE, hWE⟩ : ∃ WE, WE = ((wD.setCell ⟨eb, 0, none⟩ (.int .i64 ed.src)).setCell ⟨eb, 1, none⟩ (.int .i64 ed.lab)).setCell ⟨eb, 2, none⟩ (.int .i64 ed.dst) := ⟨_, rfl⟩
   have hbE : Below wB.heap.size wB WE := by rw [hWE]; exact ((hbBD.setCell hebB _).setCell hebB _).setCell hebB _
   have HEB : Hid (Blk WE eb [.int .i64 ed.src, .int .i64 ed.lab, .int .i64 ed.dst] 66) := by unfold Hid; rw [hWE]; exact ((HED.out.set 0 _).set 1 _).set 2 _
   have HBE : Hid (Below w.heap.size w WE) := HBB.out.trans (hbE.mono HBB.out.size)
   have HTE := Lib.hid (HTB.out.below hbE)
   have HME := Lib.hid (HMB.out.below hbE)
   have HKBE := Lib.hid (HKB2.out.below hbE)
   have HWE := Lib.hid hWE
   clear hbD hbBD hWE hbE HLO2
   go_upto_region 13 with fail
   rw [← HWE.out]
   clear r0 r1 r2 s0 s1 s2
   have hok := out_edge HV.out (lone_some HLN.out).1
   have HOK := Lib.hid hok
   obtain ⟨hlabl, hlabe⟩ := labAt_idx hok
   obtain ⟨la, lc, rfl, -, -, hlr⟩ := id HX.out.labs
   obtain ⟨bl, ol, rfl, -, hbl9, l1⟩ := hlr.one hlabl
   simp only [encS, List.getElem?_cons_zero] at l1
   obtain ⟨ln, hln⟩ : ∃ ln : Nat, (ln : Int) = ed.lab := ⟨ed.lab.toNat, by have := hok.l0; omega⟩
   have hlx : ed.lab.toNat = ln := by omega
   simp only [hlx] at l1 hlabl hlabe
   rw [← hlabe] at l1
   obtain ⟨LT, hLT⟩ : ∃ LT, LT = labAt t ed := ⟨_, rfl⟩
   have HFW : Hid (followL t [((A : Nat) : Int)] LT = endsG t ((A : Nat) : Int) ed.lab) := by
    unfold Hid
    rw [hLT, hlabe]
    exact (ends_follow HV.out _ hlabl).trans (congrArg (endsG t _) hln)
   rw [← hLT] at l1 HTL
   have hLN12 : t.labels.length ≤ 12 := HV.out.labels.most
   obtain ⟨LN, hLN⟩ : ∃ LN, LN = t.labels.length := ⟨_, rfl⟩
   have x2 := HTE.out.box.cell 2 rfl
   have hxlE := HTE.out.box.lt
   rw [← hLN] at x2 hlabl hLN12
   have e1 := HEB.out.cell 1 rfl
   rw [← hln] at e1
   have hblE : bl < WE.heap.size := Nat.lt_of_lt_of_le hbl9 HBE.out.size
   have l1E := keeps HBE.out hbl9 l1
   have y1 := later_cell hxlE x2
   have y2 := later_cell HEB.out.lt e1
   have y3 := later_cell hblE l1E
   obtain ⟨dn, hdn⟩ : ∃ dn : Nat, (dn : Int) = ed.dst := ⟨ed.dst.toNat, by have := hok.d0; omega⟩
   have hdS : dn < S := by have := HSS.out; have := hok.d1; omega
   have HDN := Lib.hid hdn
   have HLNE := Lib.hid hLN
   obtain ⟨E, hE⟩ : ∃ E, E = endsG t ((A : Nat) : Int) ed.lab := ⟨_, rfl⟩
   have HEE := Lib.hid hE
   rw [← hE] at HFW HTL
   obtain ⟨fn, hfn⟩ : ∃ fn : Int → List Nd, fn = fun x => tellT t x ed.dst := ⟨_, rfl⟩
   rw [← hfn] at HTL
   have HFN := Lib.hid hfn
   have HSP : Hid (∀ y, y ∈ E → 0 < sepR t (y : Int) (ed.dst : Int) ∧ sepR t (y : Int) (ed.dst : Int) ≤ s) := fun y hy => by
    have h := sep_ends HV.out HSL.out HLN.out (by rw [← hE]; exact hy)
    rw [sep_comm]; exact h
   have HEI : Hid (∀ y, y ∈ E → 0 ≤ y ∧ y < t.states) := fun y hy => by rw [hE] at hy; exact ends_in HV.out hy
   have HE3 : Hid (E.length ≤ 300) := by
    have h1 := fsK_len t ((A : Nat) : Int) ed.lab (fun _ => []) t.edges.length
    have h2 := HV.out.most
    rw [fsK_all, List.length_map, ← hE] at h1
    unfold Hid
    omega
   clear hok hlabe hlr hln hlx hLT hdn hE hfn x2 l1 l1E hbl9 e1 hLN
   go_wp2
   refine wp_region_later (by kernel_rfl) (by kernel_rfl) ?_
   repeat (go_big_quiet_step ((fail)))
   refine wpQuiet_nil ?_
   intro _ hw9
   obtain ⟨nl, hw8⟩ := hw9
   subst hw8
   obtain ⟨wF, hwF⟩ : ∃ wF, wF = nl.w := ⟨_, rfl⟩
   have hbF : Below WE.heap.size WE wF := by rw [hwF]; exact nl.h
   rw [← hwF]
   have HBF : Hid (Below w.heap.size w wF) := HBE.out.trans (hbF.mono HBE.out.size)
   have HTF := Lib.hid (HTE.out.below hbF)
   have HMF := Lib.hid (HME.out.below hbF)
   have HEBF := Lib.hid (HEB.out.below hbF)
   have HKF := Lib.hid (HKBE.out.below hbF)
   clear hwF y1 y2 y3 nl hbF
   have x0 := HTF.out.box.cell 0 rfl
   have x1 := HTF.out.box.cell 1 rfl
   have x2 := HTF.out.box.cell 2 rfl
   have x3 := HTF.out.box.cell 3 rfl
   rw [← HLNE.out] at x2
   have hxl := HTF.out.box.lt
   obtain ⟨WN, hWN⟩ : ∃ WN, WN = wF.alloc (.cells #[.int .i64 A] 2) := ⟨_, rfl⟩
   have hbN : Below wF.heap.size wF WN := by rw [hWN]; exact (Below.refl _ _).alloc (Nat.le_refl _) _
   obtain ⟨nb, hnb⟩ : ∃ nb, nb = wF.heap.size := ⟨_, rfl⟩
   have HSN : Hid (SliceK 1 encI w.heap.size WN (.slice (some ⟨nb, 0, none⟩) 1 1) [((A : Nat) : Int)]) := by
    have h := World.ownsRow_lit (base := w.heap.size) (size := 1) wF #[.int .i64 A] (e := 2) 1 HBF.out.size (by simp [maxLen]) rfl
    rw [← hWN, ← hnb] at h
    exact SliceK.of_owns (enc := encI) (e := 2) (xs := [((A : Nat) : Int)]) encI_len rfl h
   have HBN : Hid (Below w.heap.size w WN) := HBF.out.trans (hbN.mono HBF.out.size)
   have HTN := Lib.hid (HTF.out.below hbN)
   have HMN := Lib.hid (HMF.out.below hbN)
   have HEBN := Lib.hid (HEBF.out.below hbN)
   have HKN := Lib.hid (HKF.out.below hbN)
   have HFO := Lib.hid (follow_any lo w.heap.size t (.slice (some ⟨bl, ol, none⟩) t.labels.length lc) ev (.slice (some ⟨nb, 0, none⟩) 1 1) [((A : Nat) : Int)] LT WN HV.out HTN.out.labs HTN.out.edgs HSN.out)
   rw [HFW.out, ← HLNE.out] at HFO
   have HWN := Lib.hid hWN
   have HNB := Lib.hid hnb
   clear hWN hnb hbN
   go_wp2_with fail
   rw [← HWN.out]
   try rw [← HNB.out]
   refine Calls.mono HFO.out ?_
   rintro e wG ⟨nv, rfl, hbG, hoG⟩
   obtain ⟨na, nc, rfl, -, -⟩ := owns_slice hoG
   have HBG : Hid (Below w.heap.size w wG) := HBN.out.trans (hbG.mono HBN.out.size)
   have HTG := Lib.hid (HTN.out.below hbG)
   have HMG := Lib.hid (HMN.out.below hbG)
   have HEBG := Lib.hid (HEBN.out.below hbG)
   have HKG := Lib.hid (HKN.out.below hbG)
   have HOG := Lib.hid hoG
   have hszG : w.heap.size ≤ wG.heap.size := HBG.out.size
   obtain ⟨NE, hNE⟩ : ∃ NE, NE = E.length := ⟨_, rfl⟩
   rw [← hNE] at HOG HE3 ⊢
   have HNE := Lib.hid hNE
   have hNE3 : NE ≤ 300 := HE3.out
   clear hbG hoG hNE x0 x1 x2 x3 HFO
   go_wp2_with fail
   go_loopw [18, 19, 84] (fun v18 v19 v84 wr => ∃ (i : Nat) (hs : List Value) (ks2 : List ((Int × Int) × Value)), i ≤ NE ∧ v84 = .int .i64 i ∧ v19 = .bool (decide ([] ∈ (E.take i).map fn)) ∧ wG.grownBy wr (some mb) ∧ TelMap wr mb t ks2 ∧ NewK t s ks ks2 ∧ RowsT wr hs ((E.take i).map fn) ∧ wr.ownsRow wG.heap.size 27 1 v18 hs.length hs) (fun _ _ v84 _ => NE - (intOf v84).toNat)
   case atStart => exact ⟨0, [], ks, Nat.zero_le _, rfl, by simp, grown_refl _ _, HMG.out, NewK.refl _ _ _, by rw [List.take_zero]; exact RowsT.nil _, World.ownsRow_nil _ _ _ _⟩
   case round =>
    obtain ⟨i, hs, ks2, hi, rfl, rfl, hg, hm2, hnk, hrt, ho⟩ := hrel
    obtain ⟨wC, rfl⟩ : ∃ wC : World, wC = wr := ⟨_, rfl⟩
    obtain ⟨es0, ec0, hmob⟩ := HMG.out.obj
    have HTC := Lib.hid (HTG.out.grown HMG.out hg)
    have HEBC := Lib.hid (HEBG.out.keptMap hg hmob)
    have HKC := Lib.hid (HKG.out.keptMap hg hmob)
    have HOC := Lib.hid (HOG.out.kept hg (own_map_ne HOG.out hmob))
    have HGC := Lib.hid hg
    have HMC := Lib.hid hm2
    have HNK := Lib.hid hnk
    have HRT := Lib.hid hrt
    have HLI := Lib.hid ho
    obtain ⟨da, dc, rfl, -, -⟩ := owns_slice ho
    have hszC : w.heap.size ≤ wC.heap.size := Nat.le_trans hszG hg.size
    have hrl := hrt.1
    rw [List.length_map, List.length_take] at hrl
    obtain ⟨M, hM⟩ : ∃ M, M = hs.length := ⟨_, rfl⟩
    rw [← hM] at HLI ⊢
    have hMi : M ≤ i := by omega
    have HM := Lib.hid hM
    obtain ⟨lg, hlg⟩ : ∃ lg, lg = decide ([] ∈ (E.take i).map fn) := ⟨_, rfl⟩
    rw [← hlg]
    have HLG := Lib.hid hlg
    clear hg hm2 hnk hrt ho hrl hM hlg hmob
    by_cases hlt : i < NE
    ·have hiE : i < E.length := by rw [← HNE.out]; exact hlt
     have hyi := HEI.out _ (List.getElem_mem hiE)
     have hsp := HSP.out _ (List.getElem_mem hiE)
     have HTK : Hid ((E.take (i + 1)).map fn = (E.take i).map fn ++ [fn E[i]]) := by unfold Hid; rw [List.take_succ_eq_append_getElem hiE, List.map_append]; rfl
     have hrow : ∃ g, na = some ⟨g, 0, none⟩ := by
      rcases HOC.out.2 with ⟨-, h0⟩ | ⟨g, cap, cur, he, -⟩
      ·omega
      ·simp only [Value.slice.injEq] at he
       exact ⟨g, he.1⟩
     obtain ⟨ng, rfl⟩ := hrow
     have c8 := HOC.out.cellAt i (by omega)
     have hcy : (E.map (Value.int .i64))[i]? = some (.int .i64 E[i]) := by rw [List.getElem?_map, List.getElem?_eq_getElem hiE]; rfl
     rw [hcy] at c8
     obtain ⟨y, hy⟩ : ∃ y, y = E[i] := ⟨_, rfl⟩
     rw [← hy] at hyi hsp HTK c8
     obtain ⟨yn, rfl⟩ : ∃ yn : Nat, y = (yn : Int) := ⟨y.toNat, by omega⟩
     have hyS : yn < S := by have := HSS.out; omega
     have e2 := HEBC.out.cell 2 rfl
     rw [← HDN.out] at e2
     have hFX : fn (yn : Int) = tellT t (yn : Int) (dn : Int) := by rw [HFN.out, HDN.out]
     rw [← HDN.out] at hsp
     have HFX := Lib.hid hFX
     clear hcy hy hyi hFX
     have d2 := later_cell HEBC.out.lt e2
     go_wp2
     refine wp_region_later (by kernel_rfl) (by kernel_rfl) ?_
     repeat (go_big_quiet_step ((fail)))
     refine wpQuiet_nil ?_
     intro _ hw9
     obtain ⟨nl, hw8⟩ := hw9
     subst hw8
     obtain ⟨wR, hwR⟩ : ∃ wR, wR = nl.w := ⟨_, rfl⟩
     have hbR : Below wC.heap.size wC wR := by rw [hwR]; exact nl.h
     rw [← hwR]
     clear hwR d2 nl
     have HTR := Lib.hid (HTC.out.below hbR)
     have HMR := Lib.hid (HMC.out.below hbR)
     have HIC := Lib.hid (HIH.out yn dn ks2 wR hyS hdS hsp.1 (Nat.le_trans hsp.2 hsd2) HTR.out HMR.out)
     have HSQ := Lib.hid hsp.2
     have HBR := Lib.hid hbR
     have hszR : w.heap.size ≤ wR.heap.size := Nat.le_trans hszC hbR.size
     clear hbR hsp e2 c8
     go_wp2_with fail

     refine Calls.mono HIC.out ?_
     rintro e wT ⟨v, ks3, rfl, hkv, hgT, hmT, hnT⟩
     obtain ⟨fa, fc, rfl, hnil⟩ := hkv.nil
     obtain ⟨esR, ecR, hmobR⟩ := HMR.out.obj
     have HGT : Hid (wG.grownBy wT (some mb)) := grown_trans (grown_chain HGC.out HBR.out) hgT
     have HMT := Lib.hid hmT
     have HKT := Lib.hid hkv
     have hnodeR : ∀ {v : Value} {n : Nat} {xs : List Value}, wR.ownsRow 0 55 4 v n xs → v.ownBlock = none ∨ v.ownBlock ≠ some mb := fun ho => own_map_ne ho hmobR
     have HRTT := Lib.hid ((HRT.out.below HBR.out).kept hgT hnodeR)
     have HLT := Lib.hid ((owns_below HLI.out HBR.out).kept hgT (own_map_ne (owns_below HLI.out HBR.out) hmobR))
     have hszT2 : wG.heap.size ≤ wT.heap.size := HGT.out.size
     have HNKT : Hid (NewK t s ks ks3) := HNK.out.trans hnT HSQ.out
     have hszT : w.heap.size ≤ wT.heap.size := Nat.le_trans hszR hgT.size
     rw [← HFX.out] at HKT hnil ⊢
     have HLN2 : Hid (decide ([] ∈ (E.take (i + 1)).map fn) = (lg || decide (fn (yn : Int) = []))) := by
      unfold Hid
      rw [HTK.out, HLG.out, Bool.eq_iff_iff, Bool.or_eq_true, decide_eq_true_iff, decide_eq_true_iff, decide_eq_true_iff, List.mem_append, List.mem_singleton]
      exact ⟨fun h => h.imp id fun e => e.symm, fun h => h.imp id fun e => e.symm⟩
     obtain ⟨nq, hnq⟩ : ∃ nq, nq = decide (fn (yn : Int) = []) := ⟨_, rfl⟩
     rw [← hnq] at hnil HLN2
     obtain ⟨FL, hFL⟩ : ∃ FL, FL = (fn (yn : Int)).length := ⟨_, rfl⟩
     rw [← hFL] at HKT ⊢
     have hEQ := eqNilN fa FL fc wT
     rw [hnil] at hEQ
     clear hkv hgT hmT hnT hnq hFL HIC hnodeR hmobR
     clear hnil
     cases lg <;> cases nq
     all_goals (
      go_wp2_with (at_builtin; refine wpList_append_own _ rfl _ _ 47 rfl wG.heap.size 27 i2 (.slice none 0 0) 1 24 Tryz.underlying47 hi2 hz20 hz21 hz22 rfl (by decide) _ M _ rfl (HLT.out.alloc _) ⟨wT.heap.size, 0, none⟩ 1 1 [.slice fa FL fc] rfl rfl (World.news_of_block (cs := #[.slice fa FL fc]) (t := 27) (fr := (0, 0)) (heap_alloc_new _ _)) (by intro u hu; simp at hu; subst hu; rfl) (by simp [maxLen]; omega) (by omega) (by simp; omega) ?_)
      intro v7 w7 ho7 hg7 _
      have hal : Below wT.heap.size wT (wT.alloc (.cells #[.slice fa FL fc] 27)) := (Below.refl _ _).alloc (Nat.le_refl _) _
      have hlA := owns_below HLT.out hal
      have hmA := HMT.out.below hal
      have hnode7 : ∀ {v : Value} {n : Nat} {xs : List Value}, (wT.alloc (.cells #[.slice fa FL fc] 27)).ownsRow 0 55 4 v n xs → v.ownBlock = none ∨ v.ownBlock ≠ (Value.slice da M dc).ownBlock := fun ho => own_types ho hlA (by decide)
      have hmne : (Value.slice da M dc).ownBlock ≠ some mb := by
       obtain ⟨es9, ec9, h9⟩ := hmA.obj
       rcases own_map_ne hlA h9 with h | h
       ·rw [h]; simp
       ·exact h
      have HM7 := Lib.hid (hmA.kept hg7 hmne hnode7)
      have HR7 : Hid (RowsT w7 (hs ++ [.slice fa FL fc]) ((E.take (i + 1)).map fn)) := by
       unfold Hid
       rw [HTK.out]
       exact ((HRTT.out.below hal).kept hg7 hnode7).snoc ((HKT.out.below hal).kept hg7 hnode7)
      have HG7 : Hid (wG.grownBy w7 (some mb)) := by
       have h1 := grown_chain HGT.out hal
       refine ⟨hg7.os.trans h1.os, hg7.tape.trans h1.tape, hg7.output.trans h1.output, Nat.le_trans h1.size hg7.size, fun k hk hne => (hg7.block k (Nat.lt_of_lt_of_le hk h1.size) (fun e => ?_)).trans (h1.block k hk hne)⟩
       have h9 := (HLT.out.lt k e.symm).1
       omega
      have HLS7 : Hid ((hs ++ [Value.slice fa FL fc]).length = M + 1) := by unfold Hid; rw [List.length_append, ← HM.out]; rfl
      have HO7 := Lib.hid ho7
      clear ho7 hg7 hal hlA hmA hnode7 hmne hEQ
      go_wp2
      go_roundw
      case' rel => exact ⟨i + 1, _, ks3, by omega, by go_num, by rw [HLN2.out]; simp, HG7.out, HM7.out, HNKT.out, HR7.out, by rw [HLS7.out]; exact HO7.out⟩
      case' measure => simp [intOf]; omega)
    ·have HALL : Hid (E.take i = E) := by unfold Hid; rw [List.take_of_length_le (by rw [← HNE.out]; omega)]
     rw [HALL.out] at HLG HRT
     have HGW0 : Hid (w.grownBy wC (some mb)) := grown_trans (grown_below HBG.out (some mb)) HGC.out
     have HNI : Hid (((A : Int), (B : Int)) ∉ ks2.map Prod.fst) := fun h => (HNK.out _ h).elim HNOT.out fun h2 => by
      have h3 : sepR t (A : Int) (B : Int) ≤ s := h2
      have := HSE.out
      omega
     cases lg
     ·have HNE0 : Hid ([] ∉ E.map fn) := of_decide_eq_false HLG.out.symm
      obtain ⟨WM, hWM⟩ : ∃ WM, WM = wC.alloc (.cells #[.int .i64 5, .int .i64 0, .string LT, .bool false] 55) := ⟨_, rfl⟩
      have hbM : Below wC.heap.size wC WM := by rw [hWM]; exact (Below.refl _ _).alloc (Nat.le_refl _) _
      obtain ⟨ob, hob⟩ : ∃ ob, ob = wC.heap.size := ⟨_, rfl⟩
      have HOM : Hid (WM.ownsRow wC.heap.size 55 4 (.slice (some ⟨ob, 0, none⟩) 1 1) 1 [.int .i64 5, .int .i64 0, .string LT, .bool false]) := by
       have h := World.ownsRow_lit (base := wC.heap.size) (size := 4) wC #[.int .i64 5, .int .i64 0, .string LT, .bool false] (e := 55) 1 (Nat.le_refl _) (by simp [maxLen]) rfl
       rw [← hWM] at h
       unfold Hid
       rw [hob]
       exact h
      have hliM := owns_below HLI.out hbM
      have hrtM := HRT.out.below hbM
      have hml : hs.length = (E.map fn).length := HRT.out.1
      have HJC := Lib.hid (joinedNodes_any wG.heap.size (.slice da M dc) hs (E.map fn) 3 1 WM (by
        have h : SliceK 1 encV wG.heap.size WM (.slice da M dc) hs := SliceK.of_owns (enc := encV) (e := 27) encV_len HM.out (by rw [flat_encV]; exact hliM)
        exact h) hml (fun i h h' => (hrtM.2 i h h').at) HNE0.out (fun f hf => by
        obtain ⟨z, -, rfl⟩ := List.mem_map.1 hf
        rw [HFN.out]
        exact tellT_short t _ _) (by rw [List.length_map, ← HNE.out]; exact HE3.out))
      have HWM := Lib.hid hWM
      have HOB := Lib.hid hob
      have HBM := Lib.hid hbM
      clear hWM hob hbM hliM hrtM hml
      go_wp2_with fail
      rw [← HWM.out, ← HOB.out]
      refine Calls.mono HJC.out ?_
      rintro e wJ ⟨jv, rfl, hbJ, hsj⟩
      obtain ⟨J, hJ⟩ : ∃ J, J = joinN 3 1 (E.map fn) := ⟨_, rfl⟩
      rw [← hJ] at hsj
      have hJn : J ≠ [] := by rw [hJ]; exact joinN_ne HNE0.out
      have HJL : Hid (J.length ≤ 100000) := by
       have h1 := accL_all_len 3 1 (fs := E.map fn) (fun f hf => by
        obtain ⟨z, -, rfl⟩ := List.mem_map.1 hf
        rw [HFN.out]
        exact tellT_short t _ _)
       rw [← hJ, List.length_map, ← HNE.out] at h1
       unfold Hid
       omega
      have HJE := Lib.hid hJ
      obtain ⟨bq, oq, cq, rfl, -, hqb, hqc⟩ := form_cells hsj hJn
      obtain ⟨JL, hJL⟩ : ∃ JL, JL = J.length := ⟨_, rfl⟩
      rw [← hJL] at HJL ⊢
      have hJL1 : 0 < JL := by rw [hJL]; exact List.length_pos_iff.2 hJn
      have hJL2 : JL ≤ 100000 := HJL.out
      have HJ4 : Hid ((J.flatMap encN).length = JL * 4) := by unfold Hid; rw [flatN_len, ← hJL]
      have HJLE := Lib.hid hJL
      have HQC := Lib.hid hqc
      have HOJ := Lib.hid (owns_below HOM.out hbJ)
      have hszJ : wC.heap.size ≤ wJ.heap.size := Nat.le_trans HBM.out.size hbJ.size
      have HBJ : Hid (Below wC.heap.size wC wJ) := HBM.out.trans (hbJ.mono HBM.out.size)
      clear hsj hJ hJn hqb hqc hJL hbJ HJC
      go_wp2_with (at_builtin; refine wpList_append_lies _ rfl _ _ 27 rfl wC.heap.size 55 i4 _ 4 40 Tryz.underlying27 hi4 hz40 hz41 hz42 rfl (by decide) _ _ _ rfl HOJ.out ⟨bq, oq, none⟩ JL cq (J.flatMap encN) rfl HJ4.out HQC.out (flatN_one _) hJL1 (by simp [maxLen]; omega) (by omega) hszJ _ rfl ?_)
      intro g9 c9 w9 ho9 hg9 hat9 hlt9
      have hb9 : Below wC.heap.size wC w9 := HBJ.out.grown hg9 hszJ (fun b e => (HOJ.out.lt b e).1)
      have HB9 := Lib.hid hb9
      have HTW := Lib.hid (HTC.out.below hb9)
      have HKW := Lib.hid (HKC.out.below hb9)
      have HMW := Lib.hid (HMC.out.below hb9)
      have HGW := Lib.hid (grown_chain HGW0.out hb9)
      have HO9 : Hid (FormO wC.heap.size w9 (.slice (some ⟨g9, 0, none⟩) (1 + JL) c9) (⟨5, LT⟩ :: J)) := by
       unfold Hid FormO
       rw [List.length_cons, ← HJLE.out, Nat.add_comm JL 1, List.flatMap_cons]
       exact ho9
      clear ho9 hg9 hat9 hlt9 hb9
      by_cases hbig : 200 < 1 + JL
      ·have HNIL : Hid (tellT t (A : Int) (B : Int) = []) := by
        unfold Hid
        rw [HTL.out]
        unfold buildN
        rw [if_neg HNE0.out, if_pos]
        rw [← HJE.out, ← HJLE.out]
        omega
       have HKV0 : Hid (KeptV w9 (.slice none 0 0) (tellT t (A : Int) (B : Int))) := .inl ⟨HNIL.out, rfl⟩
       have hxW := HTW.out.box
       have z5 := later_cell hxW.lt (hxW.cell 5 rfl)
       have z0 := later_cell HKW.out.lt (HKW.out.cell 0 rfl)
       have z1 := later_cell HKW.out.lt (HKW.out.cell 1 rfl)
       have HUP : Hid (∀ g : Later w9, ∃ w', (Instr.mapUpdate 81 (.map (some mb)) (.agg #[.int .i64 A, .int .i64 B]) (.slice none 0 0)).run Tryz.prog g.w = .ok () w' ∧ TelMap w' mb t (ks2 ++ [(((A : Int), (B : Int)), .slice none 0 0)]) ∧ g.w.grownBy w' (some mb)) := fun g => (HMW.out.below g.h).push HQ.out HNI.out (by have := HMW.out.few; omega) (HKV0.out.below g.h)
       clear hxW
       go_wp2
       refine wp_region_later_tail 6 (by kernel_rfl) (by kernel_rfl) ?_
       simp only [List.take_succ_cons, List.take_zero, List.drop_succ_cons, List.drop_zero]
       repeat (go_big_quiet_step ((fail)))
       refine wpQuiet_nil ?_
       intro _ hw9
       obtain ⟨nl, hw8⟩ := hw9
       subst hw8
       obtain ⟨w2, hup, hm2, hg2⟩ := HUP.out nl
       have HM2 := Lib.hid hm2
       have HG2 : Hid (w.grownBy w2 (some mb)) := grown_trans (grown_chain HGW.out nl.h) hg2
       have HKV2 : Hid (KeptV w2 (.slice none 0 0) (tellT t A B)) := (HKV0.out.below nl.h).kept hg2 (fun ho => own_map_ne ho ((HMW.out.below nl.h).map : nl.w.heap[mb]? = some (.map _ _)))
       have HNK2 : Hid (NewK t (sepR t A B) ks (ks2 ++ [(((A : Int), (B : Int)), .slice none 0 0)])) := fun q hq => by
        rw [List.map_append, List.mem_append] at hq
        rcases hq with hq | hq
        ·exact (HNK.out q hq).imp id fun h => by have := HSE.out; omega
        ·rw [List.map_cons, List.map_nil, List.mem_singleton] at hq
         subst hq
         exact .inr (Nat.le_refl _)
       clear z5 z0 z1 hm2 hg2
       go_wp2
       go_ret
       exact ⟨_, _, rfl, HKV2.out, HG2.out, HM2.out, HNK2.out⟩
      ·have HVAL : Hid (tellT t (A : Int) (B : Int) = ⟨5, LT⟩ :: J) := by
        unfold Hid
        rw [HTL.out]
        unfold buildN
        rw [if_neg HNE0.out, if_neg, ← HJE.out]
        rw [← HJE.out, ← HJLE.out]
        omega
       have HKV0 : Hid (KeptV w9 (.slice (some ⟨g9, 0, none⟩) (1 + JL) c9) (tellT t (A : Int) (B : Int))) := .inr ⟨by rw [HVAL.out]; simp, by rw [HVAL.out]; exact HO9.out.lower (Nat.zero_le _)⟩
       have hxW := HTW.out.box
       have z5 := later_cell hxW.lt (hxW.cell 5 rfl)
       have z0 := later_cell HKW.out.lt (HKW.out.cell 0 rfl)
       have z1 := later_cell HKW.out.lt (HKW.out.cell 1 rfl)
       have HUP : Hid (∀ g : Later w9, ∃ w', (Instr.mapUpdate 81 (.map (some mb)) (.agg #[.int .i64 A, .int .i64 B]) (.slice (some ⟨g9, 0, none⟩) (1 + JL) c9)).run Tryz.prog g.w = .ok () w' ∧ TelMap w' mb t (ks2 ++ [(((A : Int), (B : Int)), .slice (some ⟨g9, 0, none⟩) (1 + JL) c9)]) ∧ g.w.grownBy w' (some mb)) := fun g => (HMW.out.below g.h).push HQ.out HNI.out (by have := HMW.out.few; omega) (HKV0.out.below g.h)
       clear hxW
       go_wp2
       refine wp_region_later_tail 6 (by kernel_rfl) (by kernel_rfl) ?_
       simp only [List.take_succ_cons, List.take_zero, List.drop_succ_cons, List.drop_zero]
       repeat (go_big_quiet_step ((fail)))
       refine wpQuiet_nil ?_
       intro _ hw9
       obtain ⟨nl, hw8⟩ := hw9
       subst hw8
       obtain ⟨w2, hup, hm2, hg2⟩ := HUP.out nl
       have HM2 := Lib.hid hm2
       have HG2 : Hid (w.grownBy w2 (some mb)) := grown_trans (grown_chain HGW.out nl.h) hg2
       have HKV2 : Hid (KeptV w2 (.slice (some ⟨g9, 0, none⟩) (1 + JL) c9) (tellT t A B)) := (HKV0.out.below nl.h).kept hg2 (fun ho => own_map_ne ho ((HMW.out.below nl.h).map : nl.w.heap[mb]? = some (.map _ _)))
       have HNK2 : Hid (NewK t (sepR t A B) ks (ks2 ++ [(((A : Int), (B : Int)), .slice (some ⟨g9, 0, none⟩) (1 + JL) c9)])) := fun q hq => by
        rw [List.map_append, List.mem_append] at hq
        rcases hq with hq | hq
        ·exact (HNK.out q hq).imp id fun h => by have := HSE.out; omega
        ·rw [List.map_cons, List.map_nil, List.mem_singleton] at hq
         subst hq
         exact .inr (Nat.le_refl _)
       clear z5 z0 z1 hm2 hg2
       go_wp2
       go_ret
       exact ⟨_, _, rfl, HKV2.out, HG2.out, HM2.out, HNK2.out⟩
     ·have HNIL : Hid (tellT t (A : Int) (B : Int) = []) := by
       unfold Hid
       rw [HTL.out]
       unfold buildN
       rw [if_pos (of_decide_eq_true HLG.out.symm)]
      have HKV0 : Hid (KeptV wC (.slice none 0 0) (tellT t (A : Int) (B : Int))) := .inl ⟨HNIL.out, rfl⟩
      have HTW := HTC
      have HKW := HKC
      have HMW := HMC
      have HGW := HGW0
      have hxW := HTW.out.box
      have z5 := later_cell hxW.lt (hxW.cell 5 rfl)
      have z0 := later_cell HKW.out.lt (HKW.out.cell 0 rfl)
      have z1 := later_cell HKW.out.lt (HKW.out.cell 1 rfl)
      have HUP : Hid (∀ g : Later wC, ∃ w', (Instr.mapUpdate 81 (.map (some mb)) (.agg #[.int .i64 A, .int .i64 B]) (.slice none 0 0)).run Tryz.prog g.w = .ok () w' ∧ TelMap w' mb t (ks2 ++ [(((A : Int), (B : Int)), .slice none 0 0)]) ∧ g.w.grownBy w' (some mb)) := fun g => (HMW.out.below g.h).push HQ.out HNI.out (by have := HMW.out.few; omega) (HKV0.out.below g.h)
      clear hxW
      go_wp2
      refine wp_region_later_tail 6 (by kernel_rfl) (by kernel_rfl) ?_
      simp only [List.take_succ_cons, List.take_zero, List.drop_succ_cons, List.drop_zero]
      repeat (go_big_quiet_step ((fail)))
      refine wpQuiet_nil ?_
      intro _ hw9
      obtain ⟨nl, hw8⟩ := hw9
      subst hw8
      obtain ⟨w2, hup, hm2, hg2⟩ := HUP.out nl
      have HM2 := Lib.hid hm2
      have HG2 : Hid (w.grownBy w2 (some mb)) := grown_trans (grown_chain HGW.out nl.h) hg2
      have HKV2 : Hid (KeptV w2 (.slice none 0 0) (tellT t A B)) := (HKV0.out.below nl.h).kept hg2 (fun ho => own_map_ne ho ((HMW.out.below nl.h).map : nl.w.heap[mb]? = some (.map _ _)))
      have HNK2 : Hid (NewK t (sepR t A B) ks (ks2 ++ [(((A : Int), (B : Int)), .slice none 0 0)])) := fun q hq => by
       rw [List.map_append, List.mem_append] at hq
       rcases hq with hq | hq
       ·exact (HNK.out q hq).imp id fun h => by have := HSE.out; omega
       ·rw [List.map_cons, List.map_nil, List.mem_singleton] at hq
        subst hq
        exact .inr (Nat.le_refl _)
      clear z5 z0 z1 hm2 hg2
      go_wp2
      go_ret
      exact ⟨_, _, rfl, HKV2.out, HG2.out, HM2.out, HNK2.out⟩

end Go.Proofs.YtjoacldbgnphkaaGreatDoor
