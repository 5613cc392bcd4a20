/-
  The search over the blocks of a given partition, from the initial state on. Plain.
  What explored computes at states, from the initial state on: the search over the blocks, its system and its states.
-/
import Derived.Test.YtjghfgaincnegaaGreatDoorN15
namespace Go.Proofs.YtjghfgaincnegaaGreatDoor
open Go Go.RowKit

def vAt (d : Lts) (p : List Int) : Nat → MNet
 | 0 => ⟨[d.initial], []⟩
 | n + 1 => match (vAt d p n).rows[n]? with
  | none => vAt d p n
  | some k => mrow p n (outOf d k) (vAt d p n)
def VDone (d : Lts) (p : List Int) (st : MNet) : Prop := ∃ n, vAt d p n = st ∧ st.rows.length ≤ n
theorem vAt_some {d : Lts} {p : List Int} {n : Nat} {k : Int} (h : (vAt d p n).rows[n]? = some k) : vAt d p (n + 1) = mrow p n (outOf d k) (vAt d p n) := by
 rw [vAt, h]
theorem vAt_stays {d : Lts} {p : List Int} {n : Nat} (h : (vAt d p n).rows.length ≤ n) : ∀ k, vAt d p (n + k) = vAt d p n
 | 0 => rfl
 | k + 1 => by
  have ih := vAt_stays h k
  show vAt d p (n + k + 1) = _
  rw [vAt, ih, List.getElem?_eq_none (by omega)]
theorem VDone.unique {d : Lts} {p : List Int} {a b : MNet} (h : VDone d p a) (k : VDone d p b) : a = b := by
 obtain ⟨n, rfl, hn⟩ := h
 obtain ⟨m, rfl, hm⟩ := k
 rcases Nat.le_total n m with e | e
 ·have := vAt_stays hn (m - n)
  rw [show n + (m - n) = m from by omega] at this
  exact this.symm
 ·have := vAt_stays hm (n - m)
  rw [show m + (n - m) = n from by omega] at this
  exact this
theorem MGood.vat {d : Lts} {p : List Int} (hv : Valid d) (hs : Single d) : ∀ n, MGood d p (vAt d p n)
 | 0 => ⟨by simp [vAt], fun x hx => by
   have : x = d.initial := by simpa [vAt] using hx
   subst this
   exact ⟨hv.in0, hv.in1⟩, by simp [vAt], by simp [vAt]⟩
 | n + 1 => by
  rw [vAt]
  split
  ·exact MGood.vat hv hs n
  ·next k hk => exact (MGood.vat hv hs n).row _ (List.getElem?_eq_some_iff.1 hk).1 (out_ok hv hs)
/-- The edges rise. -/
theorem vAt_up {d : Lts} {p : List Int} (hu : Up d.edges) : ∀ n, Up (vAt d p n).edges ∧ ∀ e ∈ (vAt d p n).edges, e.src < (n : Int)
 | 0 => by simp [vAt, Up]
 | n + 1 => by
  have ih := vAt_up (p := p) hu n
  rw [vAt]
  split
  ·exact ⟨ih.1, fun e he => by have := ih.2 e he; omega⟩
  ·next k hk =>
   have key : ∀ (es : List Edge) (st : MNet), es.Pairwise (fun a b => a.lab < b.lab) → Up st.edges → (∀ e ∈ st.edges, e.src < (n : Int) ∨ (e.src = (n : Int) ∧ ∀ a ∈ es, e.lab < a.lab)) → Up (mrow p n es st).edges ∧ ∀ e ∈ (mrow p n es st).edges, e.src ≤ (n : Int) := by
    intro es
    induction es with
    | nil => exact fun st _ h1 h2 => ⟨h1, fun e he => by
      have h3 : e.src < (n : Int) ∨ (e.src = (n : Int) ∧ ∀ a ∈ ([] : List Edge), e.lab < a.lab) := h2 e he
      rcases h3 with h | ⟨h, -⟩ <;> omega⟩
    | cons a es ih2 =>
     intro st hes h1 h2
     rw [List.pairwise_cons] at hes
     rw [mrow_cons]
     refine ih2 _ hes.2 ?_ ?_
     ·show Up (st.edges ++ [⟨(n : Int), a.lab, _⟩])
      unfold Up
      rw [List.pairwise_append]
      refine ⟨h1, List.pairwise_singleton _ _, ?_⟩
      intro x hx y hy
      rw [List.mem_singleton] at hy
      subst hy
      rcases h2 x hx with h | ⟨h, h3⟩
      ·exact .inl h
      ·exact .inr ⟨h, h3 a (List.mem_cons_self ..)⟩
     ·intro x hx
      rcases List.mem_append.1 hx with h | h
      ·rcases h2 x h with k1 | ⟨k1, k2⟩
       ·exact .inl k1
       ·exact .inr ⟨k1, fun y hy => k2 y (List.mem_cons_of_mem _ hy)⟩
      ·rw [List.mem_singleton] at h
       subst h
       exact .inr ⟨rfl, fun y hy => hes.1 y hy⟩
   have := key (outOf d k) (vAt d p n) (out_up hu k) ih.1 fun e he => .inl (ih.2 e he)
   exact ⟨this.1, fun e he => by have := this.2 e he; omega⟩
theorem vAt_edges11 {d : Lts} {p : List Int} (hv : Valid d) (hs : Single d) (hu : Up d.edges) : ∀ n, (vAt d p n).edges.length ≤ n * 11
 | 0 => by simp [vAt]
 | n + 1 => by
  have ih := vAt_edges11 (p := p) hv hs hu n
  rw [vAt]
  split
  ·exact Nat.le_trans ih (Nat.mul_le_mul_right _ (Nat.le_succ n))
  ·next k hk =>
   have := (mrow_prefix p n (outOf d k) (vAt d p n)).2
   have := mout_few hv hs hu k
   omega
theorem vAt_rows {d : Lts} {p : List Int} (n : Nat) : ∃ t, (vAt d p (n + 1)).rows = (vAt d p n).rows ++ t := by
 rw [vAt]
 split
 ·exact ⟨[], by simp⟩
 ·exact (mrow_prefix _ _ _ _).1


/-- The edges of a valid deterministic system rise. -/
theorem valid_up {d : Lts} (hv : Valid d) (hs : Single d) : Up d.edges := by
 have h1 : ∀ i (h : i + 1 < d.edges.length), d.edges[i].src < d.edges[i + 1].src ∨ (d.edges[i].src = d.edges[i + 1].src ∧ d.edges[i].lab < d.edges[i + 1].lab) := by
  intro i h
  have a := hv.rise i h
  have b := hs.one i h
  unfold edgeLess at a
  by_cases e1 : d.edges[i].src = d.edges[i + 1].src
  ·rw [if_neg fun k => k e1] at a
   by_cases e2 : d.edges[i].lab = d.edges[i + 1].lab
   ·exact absurd ⟨e1.symm, e2.symm⟩ b
   ·rw [if_pos e2] at a
    exact .inr ⟨e1, of_decide_eq_true a⟩
  ·rw [if_pos e1] at a
   exact .inl (of_decide_eq_true a)
 unfold Up
 rw [List.pairwise_iff_getElem]
 intro i j hi hj hij
 obtain ⟨k, rfl⟩ : ∃ k, j = i + 1 + k := ⟨j - i - 1, by omega⟩
 induction k with
 | zero => exact h1 i hj
 | succ k ih =>
  have a := ih (by omega) (by omega)
  have b := h1 (i + 1 + k) (by omega)
  have e : d.edges[i + 1 + (k + 1)] = d.edges[i + 1 + k + 1] := rfl
  rw [e]
  omega
/-- The partition at rest, from the values on. -/
def restV (d : Lts) (V : List Int) : List Int := partsV (goOf d) d.states.toNat (d.labels.length - 1) (normL V) d.states.toNat
theorem restV_len {d : Lts} {V : List Int} (hv : Valid d) (hV : (V.length : Int) = d.states) : ((restV d V).length : Int) = d.states := by
 have h := partsV_len (go := goOf d) (P0 := normL V) (n := d.states.toNat) (m := d.labels.length - 1) (by rw [normL_len]; omega) d.states.toNat
 have := hv.st0
 unfold restV
 omega
theorem restV_low {d : Lts} {V : List Int} (hv : Valid d) (hV : (V.length : Int) = d.states) : ∀ x ∈ restV d V, 0 ≤ x ∧ x < (40 : Int) := fun x hx => by
 have h1 := partsV_range (go := goOf d) (P0 := normL V) (n := d.states.toNat) (m := d.labels.length - 1) (by rw [normL_len]; omega) (normL_norm V) d.states.toNat hx
 have := hv.st0
 have := hv.st1
 omega
/-- The least system that keeps the values apart, and its states' first ones. -/
def MinV (d : Lts) (V : List Int) (st : MNet) (r : Lts) : Prop := VDone d (restV d V) st ∧ r = sysOf d (mNet st)
theorem MinV.unique {d : Lts} {V : List Int} {st st' : MNet} {r r' : Lts} (h : MinV d V st r) (k : MinV d V st' r') : st = st' ∧ r = r' := by
 have e := h.1.unique k.1
 subst e
 exact ⟨rfl, h.2.trans k.2.symm⟩
theorem VDone.few {d : Lts} {p : List Int} {st : MNet} (hv : Valid d) (hs : Single d) (hp : ∀ x ∈ p, 0 ≤ x ∧ x < (40 : Int)) (h : VDone d p st) : st.rows.length ≤ 40 ∧ st.edges.length ≤ 440 := by
 obtain ⟨n, rfl, hn⟩ := h
 have hG := MGood.vat (p := p) hv hs n
 refine ⟨hG.few hp, ?_⟩
 have key : ∀ m, (vAt d p m).rows.length ≤ m → (vAt d p m).edges.length ≤ 40 * 11 := by
  intro m
  induction m with
  | zero => simp [vAt]
  | succ m ih =>
   intro hm
   by_cases h0 : (vAt d p m).rows.length ≤ m
   ·have := vAt_stays h0 1
    rw [this]
    exact ih h0
   ·obtain ⟨t, ht⟩ := vAt_rows (d := d) (p := p) m
    have h1 : (vAt d p m).rows.length ≤ (vAt d p (m + 1)).rows.length := by rw [ht, List.length_append]; omega
    have h2 := (MGood.vat (p := p) hv hs (m + 1)).few hp
    have h3 := vAt_edges11 (p := p) hv hs (valid_up hv hs) (m + 1)
    omega
 exact key n hn
theorem VDone.good {d : Lts} {p : List Int} {st : MNet} (hv : Valid d) (hs : Single d) (h : VDone d p st) : MGood d p st := by
 obtain ⟨n, rfl, -⟩ := h
 exact MGood.vat hv hs n
theorem MinV.few {d r : Lts} {V : List Int} {st : MNet} (hv : Valid d) (hs : Single d) (hV : (V.length : Int) = d.states) (h : MinV d V st r) : r.labels.length ≤ 12 ∧ r.edges.length ≤ 440 ∧ st.rows.length ≤ 40 := by
 obtain ⟨h, rfl⟩ := h
 have hG := h.good hv hs
 have hf := h.few hv hs (restV_low hv hV)
 refine ⟨(used_is hv.labels (used_mem (mNet_good hG))).1.most, ?_, hf.1⟩
 show ((arcsOf d (mNet _)).map _).length ≤ 440
 rw [List.length_map]
 unfold arcsOf
 rw [List.length_map]
 exact hf.2

end Go.Proofs.YtjghfgaincnegaaGreatDoor

namespace Go.Proofs.YtjghfgaincnegaaGreatDoor
open Go Go.RowKit

/-- What explored returns at states. -/
def RetExV (d : Lts) (P : List Int) (B : Nat) (w0 : World) (e : Ending) (w' : World) : Prop :=
 Below B w0 w' ∧ ∃ st lv ev sv, ∃ bv : Bool, VDone d P st ∧ e = .returned (.tuple #[.agg #[.int .i64 st.rows.length, .int .i64 0, lv, ev], sv, .bool bv])
  ∧ w'.ownsRow B 9 1 lv (sysOf d (mNet st)).labels.length ((sysOf d (mNet st)).labels.map .string) ∧ w'.ownsRow B 78 3 ev (sysOf d (mNet st)).edges.length ((sysOf d (mNet st)).edges.flatMap encE) ∧ w'.ownsRow B 2 1 sv st.rows.length (st.rows.map (Value.int .i64))

set_option maxRecDepth 100000 in
set_option maxHeartbeats 8000000 in
theorem exploredV_any (B tb cb gP cP N lo : Nat) (d : Lts) (P : List Int) (lv ev : Value) (w0 w : World) (hv : Valid d) (hs : Single d) (hu : Up d.edges) (hB : B = w0.heap.size) (hbl : Below B w0 w) (hp : PMem B cb gP cP N P w) (hN : (N : Int) = d.states)
  (hl : SliceK 1 encS lo w0 lv d.labels) (he : SliceK 3 encE lo w0 ev d.edges) (ht : Blk w0 tb [.int .i64 d.states, .int .i64 d.initial, lv, ev] 32) (g : Glob w0) (hsh : Short20 d.labels) :
  Calls Tryz.prog 60 #[.int .i64 d.initial, .func (.func 58) #[] #[.pointer (some ⟨cb, 0, none⟩)], .func (.func 61) #[] #[.pointer (some ⟨tb, 0, none⟩)]] w (RetExV d P B w0) := by
 have HV := Lib.hid hv
 have HSI := Lib.hid hs
 have HU := Lib.hid hu
 have HL := Lib.hid hl
 have HEV := Lib.hid he
 have HT := Lib.hid ht
 have HG := Lib.hid g
 have HSH := Lib.hid hsh
 have HB := Lib.hid hB
 have HN := Lib.hid hN
 have hszB : B ≤ w.heap.size := by rw [hB]; exact hbl.size
 have hin0 := hv.in0
 have hin1 : d.initial < (N : Int) := by rw [hN]; exact hv.in1
 obtain ⟨rb, hrb⟩ : ∃ rb, rb = w.heap.size := ⟨_, rfl⟩
 -- the world at the first find
 obtain ⟨w1, hw1⟩ : ∃ w1, w1 = (((w.alloc (.cells #[.int .i64 0, .int .i64 0, .slice none 0 0, .slice none 0 0] 32)).alloc (.map #[] 0)).alloc (.cells #[.slice none 0 0, .map (some (w.heap.size + 1)), .slice none 0 0, .func (.func 58) #[] #[.pointer (some ⟨cb, 0, none⟩)]] 135)).alloc (.cells #[.pointer (some ⟨w.heap.size + 1 + 1, 0, none⟩)] 132) := ⟨_, rfl⟩
 have hb1 : Below w.heap.size w w1 := by rw [hw1]; exact ((((Below.refl _ _).alloc (Nat.le_refl _) _).alloc (by simp) _).alloc (by simp; omega) _).alloc (by simp; omega) _
 have HX1 : Hid (ExpM B (rb + 1 + 1) (rb + 1) (rb + 1 + 1 + 1) rb rb cb false 0 d P ⟨[], []⟩ (.slice none 0 0) (.slice none 0 0) w1) := by
  unfold Hid
  rw [hw1, hrb]
  refine ⟨by omega, by omega, by omega, by omega, by omega, ?_, ?_, (fun h => by cases h), ?_, World.ownsRow_nil _ _ _ _, ?_, World.ownsRow_nil _ _ _ _⟩
  ·have := (Blk.new ((w.alloc (.cells #[.int .i64 0, .int .i64 0, .slice none 0 0, .slice none 0 0] 32)).alloc (.map #[] 0)) [.slice none 0 0, .map (some (w.heap.size + 1)), .slice none 0 0, .func (.func 58) #[] #[.pointer (some ⟨cb, 0, none⟩)]] 135)
   rw [World.size_alloc, World.size_alloc] at this
   exact this.alloc _
  ·have := Blk.new (((w.alloc (.cells #[.int .i64 0, .int .i64 0, .slice none 0 0, .slice none 0 0] 32)).alloc (.map #[] 0)).alloc (.cells #[.slice none 0 0, .map (some (w.heap.size + 1)), .slice none 0 0, .func (.func 58) #[] #[.pointer (some ⟨cb, 0, none⟩)]] 135)) [.pointer (some ⟨w.heap.size + 1 + 1, 0, none⟩)] 132
   rw [World.size_alloc, World.size_alloc, World.size_alloc] at this
   exact this
  ·exact (((Blk.new w _ _).alloc _).alloc _).alloc _
  ·have := NumMap.made .i64 (w.alloc (.cells #[.int .i64 0, .int .i64 0, .slice none 0 0, .slice none 0 0] 32))
   rw [World.size_alloc] at this
   have h2 : Below (w.heap.size + 1 + 1) ((w.alloc (.cells #[.int .i64 0, .int .i64 0, .slice none 0 0, .slice none 0 0] 32)).alloc (.map #[] 0)) ((((w.alloc (.cells #[.int .i64 0, .int .i64 0, .slice none 0 0, .slice none 0 0] 32)).alloc (.map #[] 0)).alloc (.cells #[.slice none 0 0, .map (some (w.heap.size + 1)), .slice none 0 0, .func (.func 58) #[] #[.pointer (some ⟨cb, 0, none⟩)]] 135)).alloc (.cells #[.pointer (some ⟨w.heap.size + 1 + 1, 0, none⟩)] 132)) := ((Below.refl _ _).alloc (by simp) _).alloc (by simp) _
   exact this.below (by simpa using h2)
 have HBL1 := Lib.hid (hbl.trans (hb1.mono hszB))
 have HP1 := Lib.hid (hp.below (hb1.mono hszB))
 have hg1 : Glob w1 := g.below (by have := HBL1.out; rw [hB] at this; exact this)
 have HF1 := Lib.hid (findM_any B (rb + 1 + 1) (rb + 1) (rb + 1 + 1 + 1) rb rb cb gP cP N false 0 d P ⟨[], []⟩ (.slice none 0 0) (.slice none 0 0) d.initial w1 (Nat.le_trans hszB hb1.size) HX1.out HP1.out (by simp) (fun y hy => by cases hy) hin0 hin1 (by simp) hg1)
 have HW1 := Lib.hid hw1
 have HRB := Lib.hid hrb
 have p1 := HX1.out.ptr.cell 0 rfl
 have hmm := @run_makeMap Tryz.prog
 clear hv hs hu hl he ht g hsh hbl hp hw1 hb1 hg1 HX1 hB hrb hN hin0 hin1
 go_enter Tryz.func60, Tryz.ntmps60
 go_wp2_with fail
 rw [← HW1.out, ← HRB.out]
 refine Calls.mono HF1.out ?_
 rintro e2 w2 ⟨rfl, hb2, sv2, hx2, -⟩
 have HX2 := Lib.hid hx2
 have HB2 := Lib.hid (HBL1.out.trans hb2)
 have HP2 := Lib.hid (HP1.out.below hb2)
 obtain ⟨xb, hxb⟩ : ∃ xb, xb = rb + 1 + 1 := ⟨_, rfl⟩
 obtain ⟨mb, hmb⟩ : ∃ mb, mb = rb + 1 := ⟨_, rfl⟩
 obtain ⟨pb, hpb⟩ : ∃ pb, pb = rb + 1 + 1 + 1 := ⟨_, rfl⟩
 rw [← hpb, ← hxb, ← hmb] at HX2
 rw [← hpb]
 have hs2 : B ≤ w2.heap.size := by have h1 := HX2.out.ptr.lt; have h2 := HX2.out.pbase; omega
 clear hx2 hb2 HF1 HBL1 HP1 p1 hmm hxb hmb hpb
 have HX3 : Hid (ExpM B xb mb pb w2.heap.size rb cb true 0 d P (vAt d P 0) sv2 (.slice none 0 0) (w2.alloc (.cells #[.int .i64 0] 3))) := by
  have hb : Below w2.heap.size w2 (w2.alloc (.cells #[.int .i64 0] 3)) := (Below.refl _ _).alloc (Nat.le_refl _) _
  have h2 := HX2.out.below hb
  have hd : (⟨madd P [] d.initial, []⟩ : MNet) = vAt d P 0 := rfl
  rw [hd] at h2
  exact ⟨h2.base, h2.mbase, h2.pbase, hs2, h2.rbase, h2.box, h2.ptr, fun _ => Blk.new w2 _ _, h2.res, h2.rows, h2.map, h2.arcs⟩
 go_wp2
 go_loopg [10] 64 (fun gk v10 wr => ∃ (n ib : Nat) (sv av : Value), v10 = .pointer (some ⟨ib, 0, none⟩) ∧ n ≤ (vAt d P n).rows.length ∧ 64 - n ≤ gk ∧ ExpM B xb mb pb ib rb cb true n d P (vAt d P n) sv av wr ∧ Below B w0 wr ∧ PMem B cb gP cP N P wr)
 case atStart => exact ⟨0, w2.heap.size, sv2, _, rfl, Nat.zero_le _, by omega, HX3.out, HB2.out.alloc hs2 _, HP2.out.below ((Below.refl w2.heap.size w2).alloc (Nat.le_refl _) _ |>.mono hs2)⟩
 case round =>
  clear HX3 HB2 HX2 HP2
  obtain ⟨n, ib, sv, av, rfl, hnle, hgk, hx, hbl, hpm⟩ := hrel
  obtain ⟨wC, rfl⟩ : ∃ wC : World, wC = wr := ⟨_, rfl⟩
  have HX := Lib.hid hx
  have HBL := Lib.hid hbl
  have HPM := Lib.hid hpm
  have HGK := Lib.hid hgk
  have HGD := Lib.hid (MGood.vat (p := P) HV.out HSI.out n)
  have HUP : Hid (Up (vAt d P n).edges) := (vAt_up HU.out n).1
  have h40 := HGD.out.few (fun z hz => hpm.low z hz)
  have hfew := vAt_edges11 (p := P) HV.out HSI.out HU.out n
  have hszC : B ≤ wC.heap.size := by rw [HB.out]; exact hbl.size
  obtain ⟨sa, cs, rfl, -, -⟩ := owns_slice hx.rows
  obtain ⟨S0, hS0⟩ : ∃ S0, S0 = vAt d P n := ⟨_, rfl⟩
  rw [← hS0] at HX HGD HUP h40 hfew hnle
  have HS0 := Lib.hid hS0
  obtain ⟨R, hR⟩ : ∃ R, R = S0.rows.length := ⟨_, rfl⟩
  rw [← hR] at HX h40 hnle
  have HR := Lib.hid hR
  have hn40 : n ≤ 40 := by omega
  have hxl := HX.out.box.lt
  have hpl := HX.out.ptr.lt
  have hil := (HX.out.idx rfl).lt
  have lx := later_cell hxl (HX.out.box.cell 0 rfl)
  have lp := later_cell hpl (HX.out.ptr.cell 0 rfl)
  have li := later_cell hil ((HX.out.idx rfl).cell 0 rfl)
  clear hx hbl hpm hgk hS0 hR
  by_cases hlt : n < R
  ·have hlR : n < S0.rows.length := by rw [← HR.out]; exact hlt
   obtain ⟨x, hx⟩ : ∃ x, x = S0.rows[n] := ⟨_, rfl⟩
   have HXX : Hid ((vAt d P n).rows[n]? = some x) := by unfold Hid; rw [← HS0.out, List.getElem?_eq_getElem hlR, hx]
   have hrw := HX.out.rows
   rw [← HR.out] at hrw
   obtain ⟨bs, cs', e1, -, hbs⟩ := own_someP hrw (by omega)
   have hcs := cell_num (by rw [e1] at hrw; exact hrw) hlt
   have hxg : S0.rows.getD n 0 = x := by rw [List.getD_eq_getElem?_getD, List.getElem?_eq_getElem hlR, hx]; rfl
   rw [hxg] at hcs
   simp only [Value.slice.injEq, true_and] at e1
   obtain ⟨rfl, rfl⟩ := e1
   clear hrw hxg hx hlR
   go_wp2
   refine wp_region_later (by kernel_rfl) (by kernel_rfl) ?_
   repeat (go_big_quiet_step ((fail)))
   refine wpQuiet_nil ?_
   intro _ hw9
   obtain ⟨nl, hw8⟩ := hw9
   subst hw8
   have HX4 := Lib.hid (HX.out.below nl.h)
   have HB4 := Lib.hid (HBL.out.trans (nl.h.mono hszC))
   have HP4 := Lib.hid (HPM.out.below (nl.h.mono hszC))
   have hs4 := nl.h.size
   have hcs4 := keeps nl.h hbs hcs
   obtain ⟨wD, hwD⟩ : ∃ wD, wD = nl.w := ⟨_, rfl⟩
   rw [← hwD] at HX4 HB4 HP4 hs4 hcs4 ⊢
   have hbs4 : bs < wD.heap.size := by omega
   have hszD : B ≤ wD.heap.size := by omega
   clear lx lp li hcs hwD HX HBL HPM
   have lx := later_cell HX4.out.box.lt (HX4.out.box.cell 0 rfl)
   have lp := later_cell HX4.out.ptr.lt (HX4.out.ptr.cell 0 rfl)
   have li := later_cell (HX4.out.idx rfl).lt ((HX4.out.idx rfl).cell 0 rfl)
   have lc := later_cell hbs4 hcs4
   have hni : (n : Int) < (R : Int) := by omega
   go_wp2
   refine wp_region_later_tail 9 (by kernel_rfl) (by kernel_rfl) ?_
   simp only [List.take_succ_cons, List.take_zero, List.drop_succ_cons, List.drop_zero]
   repeat (go_big_quiet_step ((fail)))
   refine wpQuiet_nil ?_
   intro _ hw9
   obtain ⟨nl, hw8⟩ := hw9
   subst hw8
   have HX5 := Lib.hid (HX4.out.below nl.h)
   have HB5 := Lib.hid (HB4.out.trans (nl.h.mono hszD))
   have HP5 := Lib.hid (HP4.out.below (nl.h.mono hszD))
   have HMV := Lib.hid (movesM_any B xb mb pb ib rb cb gP cP N n tb lo d P S0 x lv ev (.slice (some ⟨bs, 0, none⟩) R cs) av w0 nl.w HV.out HSI.out HB.out HB5.out HX5.out HP5.out HL.out HEV.out HT.out HG.out HGD.out HN.out (by rw [← HR.out]; exact hlt) (by omega))
   have hda := vAt_some (d := d) (p := P) (n := n) HXX.out
   rw [← HS0.out] at hda
   rw [← hda] at HMV
   have HDA := Lib.hid hda
   clear lx lp li lc hcs4 hbs4 HX4 HX5 HB4 HP4 hda hbs
   go_wp2_with fail
   refine Calls.mono HMV.out ?_
   rintro e6 w6 ⟨rfl, hb6, sv6, av6, hx6⟩
   have HX6 := Lib.hid hx6
   have HB6 := Lib.hid hb6
   have hP6 : PMem B cb gP cP N P w6 := ⟨HP5.out.len, HP5.out.low, HP5.out.cbB, HP5.out.gpB, Nat.lt_of_lt_of_le HP5.out.cbB (by rw [HB.out]; exact hb6.size), Nat.lt_of_lt_of_le HP5.out.gpB (by rw [HB.out]; exact hb6.size), by
    have h1 := (HB5.out.cell (p := ⟨cb, 0, none⟩) HP5.out.cbB)
    have h2 := (hb6.cell (p := ⟨cb, 0, none⟩) HP5.out.cbB)
    rw [h2, ← h1]; exact HP5.out.cell, fun j hj => by
    have h1 := (HB5.out.cell (p := ⟨gP, j, none⟩) HP5.out.gpB)
    have h2 := (hb6.cell (p := ⟨gP, j, none⟩) HP5.out.gpB)
    rw [h2, ← h1]; exact HP5.out.rows j hj⟩
   have HP6 := Lib.hid hP6
   obtain ⟨sa6, cs6, rfl, -, -⟩ := owns_slice hx6.rows
   have hR40 := (MGood.vat (p := P) HV.out HSI.out (n + 1)).few (fun z hz => hP6.low z hz)
   have hpre := vAt_rows (d := d) (p := P) n
   have hn1R : n + 1 ≤ (vAt d P (n + 1)).rows.length := by
    obtain ⟨t, ht⟩ := hpre
    rw [ht, List.length_append, ← HS0.out, ← HR.out]
    omega
   obtain ⟨R6, hR6⟩ : ∃ R6, R6 = (vAt d P (n + 1)).rows.length := ⟨_, rfl⟩
   rw [← hR6] at HX6 hR40 hn1R
   have HR6 := Lib.hid hR6
   have hs6 : B ≤ w6.heap.size := by have h1 := HX6.out.ptr.lt; have h2 := HX6.out.pbase; omega
   have p6 := HX6.out.ptr.cell 0 rfl
   have x6 := HX6.out.box.cell 0 rfl
   have i6 := (HX6.out.idx rfl).cell 0 rfl
   have i6f := (HX6.out.idx rfl).frozen 0
   have hil6 := (HX6.out.idx rfl).lt
   clear hx6 hb6 HMV hR6 hP6 hpre
   have h41b : decide ((40 : Int) < ((R6 : Nat) : Int)) = false := by rw [decide_eq_false_iff_not]; omega
   have h41 : ¬ (40 : Int) < ((R6 : Nat) : Int) := by omega
   have HXT := Lib.hid (HX6.out.turn (j := n + 1) hs6)
   have hcast : (((n + 1 : Nat)) : Int) = (n : Int) + 1 := by omega
   rw [hcast] at HXT
   clear hcast
   go_wp2
   go_roundg (64 - (n + 1))
   case measure => have := HGK.out; omega
   case rel =>
    refine ⟨n + 1, w6.heap.size, _, _, rfl, by rw [← HR6.out]; exact hn1R, Nat.le_refl _, HXT.out, HB6.out.alloc hs6 _, HP6.out.below (((Below.refl w6.heap.size w6).alloc (Nat.le_refl _) _).mono hs6)⟩
  ·have HDN : Hid (VDone d P S0) := ⟨n, HS0.out.symm, by rw [← HR.out]; omega⟩
   have HGN := Lib.hid (mNet_good HGD.out)
   go_wp2
   refine wp_region_later (by kernel_rfl) (by kernel_rfl) ?_
   repeat (go_big_quiet_step ((fail)))
   refine wpQuiet_nil ?_
   intro _ hw9
   obtain ⟨nl, hw8⟩ := hw9
   subst hw8
   have HX4 := Lib.hid (HX.out.below nl.h)
   have HB4 := Lib.hid (HBL.out.trans (nl.h.mono hszC))
   have hs4 := nl.h.size
   obtain ⟨wD, hwD⟩ : ∃ wD, wD = nl.w := ⟨_, rfl⟩
   rw [← hwD] at HX4 HB4 hs4 ⊢
   have hszD : B ≤ wD.heap.size := by omega
   clear lx lp li hwD HX HBL HPM
   have hxl := HX4.out.box.lt
   have hpl := HX4.out.ptr.lt
   have hD : Below wD.heap.size wD wD.drew := (Below.refl _ _).drew
   have p0 := HX4.out.ptr.cell 0 rfl
   have x0 := HX4.out.box.cell 0 rfl
   have x2 := HX4.out.box.cell 2 rfl
   have P0 := keeps hD hpl p0
   have X0 := keeps hD hxl x0
   have X2 := keeps hD hxl x2
   have hfe : S0.edges.length ≤ 440 := by omega
   have HAR : Hid (wD.ownsRow B 138 3 av (arcsOf d (mNet S0)).length ((arcsOf d (mNet S0)).flatMap encC)) := by
    have h1 := HX4.out.arcs
    rw [encA_encC] at h1
    unfold Hid arcsOf
    rw [List.length_map]
    exact h1
   have hal : (arcsOf d (mNet S0)).length ≤ 1000 := by unfold arcsOf; rw [List.length_map]; show S0.edges.length ≤ 1000; omega
   obtain ⟨us, hus⟩ : ∃ us, us = (arcsOf d (mNet S0)).map Arc.lab := ⟨_, rfl⟩
   obtain ⟨Ls, hLs⟩ : ∃ Ls, Ls = (sysOf d (mNet S0)).labels := ⟨_, rfl⟩
   obtain ⟨Es, hEs⟩ : ∃ Es, Es = (sysOf d (mNet S0)).edges := ⟨_, rfl⟩
   have hul : us.length = (arcsOf d (mNet S0)).length := by rw [hus, List.length_map]
   have HLO : Hid (∀ (W : World), Below wD.heap.size wD W → Calls Tryz.prog 97 #[av] W (fun e w9 => ∃ v9, e = .returned v9 ∧ Below wD.heap.size wD w9 ∧ Below W.heap.size W w9 ∧ w9.ownsRow wD.heap.size 9 1 v9 us.length (us.map .string))) := by
    intro W hb
    rw [hus]
    refine (labelsOf_any B av (arcsOf d (mNet S0)) W ((SliceK.of_owns (enc := encC) encC_len rfl HAR.out).below hb) (by omega)).mono ?_
    rintro e w9 ⟨v9, h1, h2, h3⟩
    exact ⟨v9, h1, hb.trans (h2.mono hb.size), h2, own_lower h3 hb.size⟩
   have HLT : Hid (∀ (v9 : Value) (W : World), Below wD.heap.size wD W → SrcS W v9 us → Calls Tryz.prog 81 #[.int .i64 R, .int .i64 0, v9, av] W (fun e w8 => ∃ la lc ea ec, e = .returned (.agg #[.int .i64 R, .int .i64 0, .slice la Ls.length lc, .slice ea Es.length ec]) ∧ Below wD.heap.size wD w8 ∧ Below W.heap.size W w8
     ∧ w8.ownsRow wD.heap.size 9 1 (.slice la Ls.length lc) Ls.length (Ls.map .string) ∧ w8.ownsRow wD.heap.size 78 3 (.slice ea Es.length ec) Es.length (Es.flatMap encE))) := by
    intro v9 W hb h1
    have h3 := lts_any B R 0 us (arcsOf d (mNet S0)) v9 av W h1 ((SliceK.of_owns (enc := encC) encC_len rfl HAR.out).below hb) (by rw [hul]; exact hal) hal Ls (by rw [hLs, hus]; rfl) (by rw [hLs]; exact arc_mem HV.out HGN.out) (by rw [hLs]; exact sys_rise HV.out HGN.out HUP.out)
    have hEs2 : (arcsOf d (mNet S0)).map (edgeIn Ls) = Es := by rw [hEs, hLs]; rfl
    rw [hEs2] at h3
    refine h3.mono ?_
    rintro e w8 ⟨lv8, ev8, h4, h5, h6, h7⟩
    obtain ⟨la, lc, rfl, -, -⟩ := owns_slice h6
    obtain ⟨ea, ec, rfl, -, -⟩ := owns_slice h7
    exact ⟨la, lc, ea, ec, h4, hb.trans (h5.mono hb.size), h5, own_lower h6 hb.size, own_lower h7 hb.size⟩
   have HLs := Lib.hid hLs
   have HEs := Lib.hid hEs
   have hDZ : Below wD.heap.size wD ((wD.alloc (.cells #[.int .i64 0, .int .i64 0, .slice none 0 0, .slice none 0 0] 32)).drew) := ((Below.refl _ _).alloc (Nat.le_refl _) _).drew
   have BZ : Blk ((wD.alloc (.cells #[.int .i64 0, .int .i64 0, .slice none 0 0, .slice none 0 0] 32)).drew) wD.heap.size [.int .i64 0, .int .i64 0, .slice none 0 0, .slice none 0 0] 32 := (Blk.new wD _ _)
   have HDZ := Lib.hid hDZ
   have HBZ := Lib.hid BZ
   have HDD := Lib.hid hD
   clear hfe hus hLs hEs hDZ BZ hD
   go_wp2
   go_region_held3 (fun w' => w'.cell? ⟨pb, 0, none⟩ = some (.pointer (some ⟨xb, 0, none⟩)) ∧ w'.cell? ⟨xb, 0, none⟩ = some (.slice sa R cs) ∧ w'.cell? ⟨xb, 2, none⟩ = some av)
    (first
     | (refine ⟨?_, ?_, ?_⟩ <;> with_reducible assumption)
     | (refine ⟨?_, ?_, ?_⟩ <;> (rw [World.cell?_setCell_far _ _ _ _ (by first | exact fun e => np e.symm | exact fun e => nx e.symm), World.cell?_setCell_far _ _ _ _ (by first | exact fun e => np e.symm | exact fun e => nx e.symm), World.cell?_setCell_far _ _ _ _ (by first | exact fun e => np e.symm | exact fun e => nx e.symm), World.cell?_setCell_far _ _ _ _ (by first | exact fun e => np e.symm | exact fun e => nx e.symm)]; with_reducible assumption))
     | go_keep)
    (first
     | (go_at_call 97; refine Calls.mono (HLO.out _ (by first | with_reducible exact HDD.out | with_reducible exact HDZ.out)) ?_; rintro e w9 ⟨v9, rfl, hw9, hb9, ho9⟩; have k0 := keeps hw9 hpl p0; have k1 := keeps hw9 hxl x0; have k2 := keeps hw9 hxl x2; (try (have QZ : Hid (Blk w9 wD.heap.size [.int .i64 0, .int .i64 0, .slice none 0 0, .slice none 0 0] 32) := Lib.hid (by with_reducible exact HBZ.out.below hb9))); have HSL := Lib.hid (SrcS.of_own ho9))
     | (go_at_call 81; refine Calls.mono (HLT.out v9 _ (by first | with_reducible exact hw9 | with_reducible exact hw9.alloc hw9.size _) (by first | with_reducible exact HSL.out | with_reducible exact HSL.out.below (box_below9 _ _ _))) ?_; rintro e w8 ⟨la, lc, ea, ec, rfl, hw8, hb8, ho8, he8⟩; have k4 := keeps hw8 hpl p0; have k5 := keeps hw8 hxl x0; have k6 := keeps hw8 hxl x2; ((try (have QY : Blk w8 wD.heap.size [.int .i64 0, .int .i64 0, .slice none 0 0, .slice none 0 0] 32 := by with_reducible exact QZ.out.below hb8)); (try (have q0 := QY.cell 0 rfl; have q1 := QY.cell 1 rfl; have q2 := QY.cell 2 rfl; have q3 := QY.cell 3 rfl; have f0 := QY.frozen 0; have f1 := QY.frozen 1; have f2 := QY.frozen 2; have f3 := QY.frozen 3; have hq := QY.lt; have np : pb ≠ wD.heap.size := (by omega); have nx : xb ≠ wD.heap.size := (by omega)))); ((have HN9 := blk_new9 w9); (try (have QX : Blk w8 w9.heap.size [.int .i64 0, .int .i64 0, .slice none 0 0, .slice none 0 0] 32 := by with_reducible exact HN9.below hb8)); (try (have q0 := QX.cell 0 rfl; have q1 := QX.cell 1 rfl; have q2 := QX.cell 2 rfl; have q3 := QX.cell 3 rfl; have f0 := QX.frozen 0; have f1 := QX.frozen 1; have f2 := QX.frozen 2; have f3 := QX.frozen 3; have hq := QX.lt; have np : pb ≠ w9.heap.size := (by have := hw9.size; omega); have nx : xb ≠ w9.heap.size := (by have := hw9.size; omega))))))
   all_goals (
    first
     | (
      have h1 := four_sets (v0 := .int .i64 R) (v1 := .int .i64 0) (v2 := .slice la Ls.length lc) (v3 := .slice ea Es.length ec) QX hw8 hw9.size
      have hle := h1.2.2 ho8 (by decide)
      have hee := h1.2.2 he8 (by decide)
      have hwe := h1.1
      have hbe := h1.2.1
      have hlo : wD.heap.size ≤ w9.heap.size := hw9.size
      obtain ⟨WE, hWE⟩ : ∃ WE, WE = (((w8.setCell ⟨w9.heap.size, 0, none⟩ (.int .i64 R)).setCell ⟨w9.heap.size, 1, none⟩ (.int .i64 0)).setCell ⟨w9.heap.size, 2, none⟩ (.slice la Ls.length lc)).setCell ⟨w9.heap.size, 3, none⟩ (.slice ea Es.length ec) := ⟨_, rfl⟩
      rw [← hWE] at hle hee hwe hbe ⊢
      obtain ⟨b12, hb12⟩ : ∃ b12, b12 = w9.heap.size := ⟨_, rfl⟩
      rw [← hb12] at hbe hlo ⊢
      clear hWE hb12 h1)
     | (
      have h1 := four_sets (v0 := .int .i64 R) (v1 := .int .i64 0) (v2 := .slice la Ls.length lc) (v3 := .slice ea Es.length ec) QY hw8 (Nat.le_refl _)
      have hle := h1.2.2 ho8 (by decide)
      have hee := h1.2.2 he8 (by decide)
      have hwe := h1.1
      have hbe := h1.2.1
      obtain ⟨WE, hWE⟩ : ∃ WE, WE = (((w8.setCell ⟨wD.heap.size, 0, none⟩ (.int .i64 R)).setCell ⟨wD.heap.size, 1, none⟩ (.int .i64 0)).setCell ⟨wD.heap.size, 2, none⟩ (.slice la Ls.length lc)).setCell ⟨wD.heap.size, 3, none⟩ (.slice ea Es.length ec) := ⟨_, rfl⟩
      rw [← hWE] at hle hee hwe hbe ⊢
      obtain ⟨b12, hb12⟩ : ∃ b12, b12 = wD.heap.size := ⟨_, rfl⟩
      have hlo : wD.heap.size ≤ b12 := Nat.le_of_eq hb12.symm
      rw [← hb12] at hbe ⊢
      clear hWE hb12 h1)
     | (
      have hle : (w8.alloc (.cells #[.int .i64 R, .int .i64 0, .slice la Ls.length lc, .slice ea Es.length ec] 32)).ownsRow wD.heap.size 9 1 (.slice la Ls.length lc) Ls.length (Ls.map .string) := ho8.alloc _
      have hee : (w8.alloc (.cells #[.int .i64 R, .int .i64 0, .slice la Ls.length lc, .slice ea Es.length ec] 32)).ownsRow wD.heap.size 78 3 (.slice ea Es.length ec) Es.length (Es.flatMap encE) := he8.alloc _
      have hwe : Below wD.heap.size wD (w8.alloc (.cells #[.int .i64 R, .int .i64 0, .slice la Ls.length lc, .slice ea Es.length ec] 32)) := hw8.alloc hw8.size _
      have hbe : Blk (w8.alloc (.cells #[.int .i64 R, .int .i64 0, .slice la Ls.length lc, .slice ea Es.length ec] 32)) w8.heap.size [.int .i64 R, .int .i64 0, .slice la Ls.length lc, .slice ea Es.length ec] 32 := Blk.new w8 _ _
      have hlo : wD.heap.size ≤ w8.heap.size := hw8.size
      obtain ⟨WE, hWE⟩ : ∃ WE, WE = w8.alloc (.cells #[.int .i64 R, .int .i64 0, .slice la Ls.length lc, .slice ea Es.length ec] 32) := ⟨_, rfl⟩
      rw [← hWE] at hle hee hwe hbe ⊢
      obtain ⟨b12, hb12⟩ : ∃ b12, b12 = w8.heap.size := ⟨_, rfl⟩
      rw [← hb12] at hbe hlo ⊢
      clear hWE hb12)
    have HLE := Lib.hid hle
    have HEE2 := Lib.hid hee
    have HWE := Lib.hid hwe
    have HBE := Lib.hid hbe
    clear hle hee hwe hbe
    have hWd : Below WE.heap.size WE WE.drew := (Below.refl _ _).drew
    have hDW : Below wD.heap.size wD WE.drew := HWE.out.trans (hWd.mono HWE.out.size)
    have hgl : Glob WE.drew := HG.out.below (by have h9 := HB4.out.trans (hDW.mono hszD); rw [HB.out] at h9; exact h9)
    obtain ⟨bv, hbv, HVL⟩ : ∃ bv : Bool, (bv = true ↔ DSmall (mNet S0)) ∧ Hid (Calls Tryz.prog 72 #[.agg #[.int .i64 R, .int .i64 0, .slice la Ls.length lc, .slice ea Es.length ec]] WE.drew fun e w' => e = .returned (.bool bv) ∧ Below WE.drew.heap.size WE.drew w') := by
     have h1 := ValidLts_any wD.heap.size (sysOf d (mNet S0)) (.slice la Ls.length lc) (.slice ea Es.length ec) WE.drew (sys_short HV.out HGN.out HSH.out)
      (by have h9 := (SliceK.of_owns (enc := encS) encS_len rfl (by rw [flat_encS]; exact HLE.out)).below hWd; rw [HLs.out] at h9 ⊢; exact h9)
      (by have h9 := (SliceK.of_owns (enc := encE) encE_len rfl HEE2.out).below hWd; rw [HEs.out] at h9 ⊢; exact h9) hgl
     have h2 : (sysOf d (mNet S0)).states = (R : Int) := by show (((S0.rows.map ([·])).length : Nat) : Int) = _; rw [List.length_map, HR.out]
     have h3 : (sysOf d (mNet S0)).initial = 0 := rfl
     rw [h2, h3] at h1
     have h4 := sys_valid HV.out HGN.out HUP.out
     by_cases hs : DSmall (mNet S0)
     ·exact ⟨true, by simp [hs], Decides.yes h1 (h4.2 hs)⟩
     ·exact ⟨false, by simp [hs], Decides.no h1 (fun h => hs (h4.1 h))⟩
    have HBV := Lib.hid hbv
    have hlb := HBE.out.lt
    have hpW : pb < WE.heap.size := by have := HWE.out.size; omega
    have hxW : xb < WE.heap.size := by have := HWE.out.size; omega
    have b0 := keeps hWd hlb (HBE.out.cell 0 rfl)
    have b1 := keeps hWd hlb (HBE.out.cell 1 rfl)
    have b2 := keeps hWd hlb (HBE.out.cell 2 rfl)
    have b3 := keeps hWd hlb (HBE.out.cell 3 rfl)
    have b4 := keeps hDW hpl p0
    have b5 := keeps hDW hxl x0
    have hrl := HX4.out.res.lt
    have hnb : b12 ≠ rb := by omega
    have hnp : pb ≠ rb := blk_blk_ne HX4.out.ptr HX4.out.res (by decide)
    have hnx : xb ≠ rb := blk_blk_ne HX4.out.box HX4.out.res (by decide)
    have HDWW := Lib.hid hDW
    clear hbv hWd hDW hgl k0 k1 k2 k4 k5 k6
    go_wp2
    go_region_held3 (fun w' => w'.cell? ⟨b12, 0, none⟩ = some (.int .i64 R) ∧ w'.cell? ⟨b12, 1, none⟩ = some (.int .i64 0) ∧ w'.cell? ⟨b12, 2, none⟩ = some (.slice la Ls.length lc) ∧ w'.cell? ⟨b12, 3, none⟩ = some (.slice ea Es.length ec) ∧ w'.cell? ⟨pb, 0, none⟩ = some (.pointer (some ⟨xb, 0, none⟩)) ∧ w'.cell? ⟨xb, 0, none⟩ = some (.slice sa R cs))
     (first
      | (refine ⟨?_, ?_, ?_, ?_, ?_, ?_⟩ <;> with_reducible assumption)
      | (refine ⟨?_, ?_, ?_, ?_, ?_, ?_⟩ <;> (rw [World.cell?_setCell_far _ _ _ _ (by first | exact fun e => hnb e.symm | exact fun e => hnp e.symm | exact fun e => hnx e.symm), World.cell?_setCell_far _ _ _ _ (by first | exact fun e => hnb e.symm | exact fun e => hnp e.symm | exact fun e => hnx e.symm), World.cell?_setCell_far _ _ _ _ (by first | exact fun e => hnb e.symm | exact fun e => hnp e.symm | exact fun e => hnx e.symm), World.cell?_setCell_far _ _ _ _ (by first | exact fun e => hnb e.symm | exact fun e => hnp e.symm | exact fun e => hnx e.symm)]; with_reducible assumption))
      | go_keep)
     (first
      | (go_at_call 72; refine Calls.mono HVL.out ?_; rintro e wV ⟨rfl, hbV⟩; have c0 := keeps hbV (by simp; omega) b0; have c1 := keeps hbV (by simp; omega) b1; have c2 := keeps hbV (by simp; omega) b2; have c3 := keeps hbV (by simp; omega) b3; have c4 := keeps hbV (by simp; omega) b4; have c5 := keeps hbV (by simp; omega) b5; have HDV := Lib.hid (HDWW.out.trans (hbV.mono HDWW.out.size)); have HRV := Lib.hid (HX4.out.res.below HDV.out); have r0 := HRV.out.cell 0 rfl; have r1 := HRV.out.cell 1 rfl; have r2 := HRV.out.cell 2 rfl; have r3 := HRV.out.cell 3 rfl; have s0 := HRV.out.frozen 0; have s1 := HRV.out.frozen 1; have s2 := HRV.out.frozen 2; have s3 := HRV.out.frozen 3; have HBVV := Lib.hid hbV))
    all_goals (
     have hBV := HB4.out.trans (HDV.out.mono hszD)
     have hrB := HX4.out.rbase
     have hLV := own_lower (owns_below (owns_below HLE.out (Below.drew (Below.refl _ _))) HBVV.out) hszD
     have hEV := own_lower (owns_below (owns_below HEE2.out (Below.drew (Below.refl _ _))) HBVV.out) hszD
     have HA1 := Lib.hid hBV
     have HA2 := Lib.hid hLV
     have HA3 := Lib.hid hEV
     have HRW := Lib.hid (owns_below HX4.out.rows HDV.out)
     clear hBV hLV hEV
     go_wp2
     refine bodyPost_ret (explM_results rfl ((((HRV.out.set 0 _).set 1 _).set 2 _).set 3 _)) rfl ?_
     refine ⟨(((HA1.out.setCell hrB _).setCell hrB _).setCell hrB _).setCell hrB _, ?_⟩
     refine ⟨S0, .slice la Ls.length lc, .slice ea Es.length ec, .slice sa R cs, bv, HDN.out, by rw [← HR.out]; rfl, ?_, ?_, ?_⟩
     ·rw [← HLs.out]; exact own4 HRV.out HA2.out (by decide)
     ·rw [← HEs.out]; exact own4 HRV.out HA3.out (by decide)
     ·exact own4 HRV.out HRW.out (by decide)))

end Go.Proofs.YtjghfgaincnegaaGreatDoor
