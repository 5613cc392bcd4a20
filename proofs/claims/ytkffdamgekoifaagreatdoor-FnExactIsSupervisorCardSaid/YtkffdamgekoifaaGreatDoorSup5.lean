/-
  What the implementation's reach computes.
-/
import Derived.Test.YtkffdamgekoifaaGreatDoorSup4
namespace Go.Proofs.YtkffdamgekoifaaGreatDoor
open Go Go.RowKit

def ReachPost (B xb mb : Nat) (p : Plant) (r s : Lts) (w0 : World) (e : Ending) (w' : World) : Prop :=
  Below B w0 w' ∧ ((e = .returned (.bool false) ∧ ∃ n, FailAt p.sys s r (ctlOf p) n)
    ∨ (e = .returned (.bool true) ∧ ∃ st lv bv vs, FoundAll p.sys s r (ctlOf p) st ∧ NetOk p.sys s r st ∧ st.edges.length ≤ 19200000 ∧ SupAt B xb mb st lv bv vs w'))

/-- The triple's number, and what holds behind find. -/
def FoundTri (B xb mb nb b1 B9 n k : Nat) (p : Plant) (r s : Lts) (cur : Tri) (c1 c2 c3 cn : List Value) (al9 : Option Addr) (cl9 : Nat) (L : List Edge) (w0 : World) (e0 : Ending) (w' : World) : Prop :=
  ∃ (pn : Nat) (st1 : Net) (lv1 bv1 : Value) (vs1 : List Value), e0 = .returned (.int .i64 pn) ∧ pn < st1.rows.length ∧ Mid p.sys s r (ctlOf p) n cur (k + 1) ⟨st1.rows, st1.edges ++ [(n, pn)]⟩ ∧ Below B w0 w' ∧ SupAt B xb mb st1 lv1 bv1 vs1 w'
    ∧ Box3 b1 c1 c2 c3 w' ∧ Blk w' nb cn 62 ∧ lv1.ownBlock ≠ some nb ∧ w'.ownsRow B9 73 3 (.slice al9 L.length cl9) L.length (L.flatMap encE)

theorem find_tri {B xb mb nb b1 B9 n k : Nat} {p : Plant} {r s : Lts} {cur : Tri} {c1 c2 c3 cn : List Value} {al9 : Option Addr} {cl9 : Nat} {L : List Edge} {w0 wC : World} {st : Net} {lv bv : Value} {vs : List Value} {e : Edge} {l : ByteArray} {y z : Int}
    (vp : Valid p.sys) (vs' : Valid s) (vr : Valid r) (hB : B ≤ wC.heap.size) (hb : Below B w0 wC) (hs : SupAt B xb mb st lv bv vs wC) (hx : Box3 b1 c1 c2 c3 wC) (hn : Blk wC nb cn 62) (hnl : lv.ownBlock ≠ some nb)
    (ho : wC.ownsRow B9 73 3 (.slice al9 L.length cl9) L.length (L.flatMap encE)) (hm : Mid p.sys s r (ctlOf p) n cur k st) (hL : L = outOf p.sys cur.x) (hk : k < L.length) (he : e = L[k]) (hl : l = labAt p.sys e)
    (h1 : alongB s cur.y l = true) (h2 : alongB r cur.z l = true) (hy : y = alongV s cur.y l) (hz : z = alongV r cur.z l) :
    Calls Tryz.prog 44 #[.pointer (some ⟨xb, 0, none⟩), .agg #[.int .i64 e.dst, .int .i64 y, .int .i64 z]] wC (FoundTri B xb mb nb b1 B9 n k p r s cur c1 c2 c3 cn al9 cl9 L w0) := by
  have hfew := hm.ok.few vp vs' vr
  by_cases hq : (⟨e.dst, y, z⟩ : Tri) ∈ st.rows
  · have hst := edgeStep_old (p := p.sys) (ctl := ctlOf p) (n := n) hl h1 h2 hy hz (place_lt.2 hq)
    have hmid := mid_next hL hm vp vs' vr hk (by rw [← he]; exact hst)
    refine (find_old B xb mb st ⟨e.dst, y, z⟩ lv bv vs wC hs hm.ok.nodup (net_inbox hm.ok vp vs' vr) hq).mono ?_
    rintro e0 w' ⟨rfl, hb1⟩
    exact ⟨place st.rows ⟨e.dst, y, z⟩, st, lv, bv, vs, rfl, place_lt.2 hq, hmid, hb.trans (hb1.mono hB), hs.below hb1, hx.below hb1, hn.below hb1, hnl, owns_below ho hb1⟩
  · have hst := edgeStep_new (p := p.sys) (ctl := ctlOf p) (n := n) hl h1 h2 hy hz (fun h => hq (place_lt.1 h))
    have hmid := mid_next hL hm vp vs' vr hk (by rw [← he]; exact hst)
    refine (find_new B xb mb st ⟨e.dst, y, z⟩ lv bv vs wC hB hs (net_inbox hm.ok vp vs' vr) (net_inbox hmid.ok vp vs' vr _ (by simp)) hq hfew (fun e' he' => (hm.ok.ends e' he').2)).mono ?_
    rintro e0 w' ⟨rfl, hb1, lv1, bv1, vs1, hs1, ho1, hn1, -⟩
    refine ⟨st.rows.length, ⟨st.rows ++ [⟨e.dst, y, z⟩], st.edges⟩, lv1, bv1, vs1, rfl, by simp, hmid, hb.trans hb1, hs1, hx.sup hs ho1, hn.only ho1 (sup_apart hs hn (by decide) (.inr hnl) (by decide)), ?_, owns_only ho ho1 (sup_row hs ho)⟩
    rcases hn1 with h | ⟨k1, h, h9⟩
    · rw [h]; exact hnl
    · rw [h]
      have := hn.lt
      simp
      omega

set_option maxRecDepth 100000 in
set_option maxHeartbeats 8000000 in
theorem reach_any (lo xb mb : Nat) (p : Plant) (r s : Lts) (lvp evp mvp nvp lr er ls es lv bv : Value) (vs : List Value) (w0 w : World) (hb0 : Below w0.heap.size w0 w) (hS : SupAt w0.heap.size xb mb ⟨[], []⟩ lv bv vs w)
    (hp : PlantIn lo w0 lvp evp mvp nvp p) (hr : LtsIn lo w0 lr er r) (hs : LtsIn lo w0 ls es s) (fp : Free p.sys) (fr : Free r) (fs : Free s) (hsh : Short20 p.sys.labels) (g : Glob w0) :
    Calls Tryz.prog 22 #[.pointer (some ⟨xb, 0, none⟩), .agg #[.int .i64 p.sys.states, .int .i64 p.sys.initial, lvp, evp, mvp, nvp], .agg #[.int .i64 s.states, .int .i64 s.initial, ls, es], .agg #[.int .i64 r.states, .int .i64 r.initial, lr, er]] w (ReachPost w0.heap.size xb mb p r s w0) := by
  obtain ⟨B, hB⟩ : ∃ B, B = w0.heap.size := ⟨_, rfl⟩
  rw [← hB] at hS ⊢
  have hBw : B ≤ w.heap.size := by rw [hB]; exact hb0.size
  obtain ⟨W, hW⟩ : ∃ W, W = ((w.alloc (.cells #[.int .i64 p.sys.states, .int .i64 p.sys.initial, lvp, evp, mvp, nvp] 36)).alloc (.cells #[.int .i64 s.states, .int .i64 s.initial, ls, es] 34)).alloc (.cells #[.int .i64 r.states, .int .i64 r.initial, lr, er] 34) := ⟨_, rfl⟩
  have hbW : Below w.heap.size w W := by rw [hW]; exact (((Below.refl _ _).alloc (Nat.le_refl _) _).alloc (by simp) _).alloc (by simp; omega) _
  obtain ⟨b1, hb1⟩ : ∃ b1, b1 = w.heap.size := ⟨_, rfl⟩
  have hbox : Box3 b1 [.int .i64 p.sys.states, .int .i64 p.sys.initial, lvp, evp, mvp, nvp] [.int .i64 s.states, .int .i64 s.initial, ls, es] [.int .i64 r.states, .int .i64 r.initial, lr, er] W := by
    rw [hW, hb1]
    refine ⟨((Blk.new w _ _).alloc _).alloc _, ?_, ?_⟩
    · have := Blk.new (w.alloc (.cells #[.int .i64 p.sys.states, .int .i64 p.sys.initial, lvp, evp, mvp, nvp] 36)) [.int .i64 s.states, .int .i64 s.initial, ls, es] 34
      rw [World.size_alloc] at this
      exact this.alloc _
    · have := Blk.new ((w.alloc (.cells #[.int .i64 p.sys.states, .int .i64 p.sys.initial, lvp, evp, mvp, nvp] 36)).alloc (.cells #[.int .i64 s.states, .int .i64 s.initial, ls, es] 34)) [.int .i64 r.states, .int .i64 r.initial, lr, er] 34
      rw [World.size_alloc, World.size_alloc] at this
      exact this
  have hA0 := At.zero (ctl := ctlOf p) fp.valid fs.valid fr.valid
  have HB0 := Lib.hid (show Below B w0 W by rw [hB]; exact hb0.trans (hbW.mono hb0.size))
  have hsW : B ≤ W.heap.size := Nat.le_trans hBw hbW.size
  have HFIND := Lib.hid (find_new B xb mb ⟨[], []⟩ ⟨p.sys.initial, s.initial, r.initial⟩ lv bv vs W hsW (hS.below hbW) (by simp) (net_inbox hA0.ok fp.valid fs.valid fr.valid _ (by simp)) (by simp) (by simp) (by simp))
  have HS0 := Lib.hid (hS.below hbW)
  have HBOX := Lib.hid hbox
  have HA0 := Lib.hid hA0
  have HW := Lib.hid hW
  have HP := Lib.hid hp
  have HR := Lib.hid hr
  have HSS := Lib.hid hs
  have VP := Lib.hid fp
  have VR := Lib.hid fr
  have VS := Lib.hid fs
  have HSH := Lib.hid hsh
  have G := Lib.hid g
  have HBB := Lib.hid hB
  have HZ1 := Lib.hid hb1
  have x0 := hbox.one.cell 1 rfl
  have x1 := hbox.two.cell 1 rfl
  have x2 := hbox.three.cell 1 rfl
  have hmostp := fp.valid.most
  obtain ⟨⟨alp, clp, rfl, hlnp, hlcp, hlrp⟩, ⟨aep, cep, rfl, -⟩, ⟨amp, cmp, rfl, -⟩, ⟨anp, cnp, rfl, -⟩⟩ := hp
  obtain ⟨⟨alr, clr, rfl, -⟩, ⟨aer, cer, rfl, -⟩⟩ := hr
  obtain ⟨⟨als, cls, rfl, -⟩, ⟨aes, ces, rfl, -⟩⟩ := hs
  have HLR := Lib.hid hlrp
  clear hS hbW hbox hA0 hW fp fr fs hsh g hb0 hB hb1 hlrp
  go_enter Tryz.func22, Tryz.ntmps22
  go_wp2_with fail
  rw [← HW.out]
  refine Calls.mono HFIND.out ?_
  rintro e w1 ⟨rfl, hb1', lv1, bv1, vs1, hs1, ho1, -, -⟩
  have HB1 := Lib.hid (HB0.out.trans hb1')
  have HS1 := Lib.hid hs1
  have HBX1 := Lib.hid (HBOX.out.sup HS0.out ho1)
  clear hb1' hs1 ho1 x0 x1 x2 HFIND
  rw [← HZ1.out]
  go_wp2_with fail
  go_loopw [9] (fun i wr => ∃ (n : Nat) (st : Net) (lv bv : Value) (vs : List Value), i = .int .i64 n ∧ At p.sys s r (ctlOf p) n st ∧ Below B w0 wr ∧ SupAt B xb mb st lv bv vs wr
    ∧ Box3 b1 [.int .i64 p.sys.states, .int .i64 p.sys.initial, .slice alp p.sys.labels.length clp, .slice aep p.sys.edges.length cep, .slice amp p.marks.length cmp, .slice anp p.names.length cnp] [.int .i64 s.states, .int .i64 s.initial, .slice als s.labels.length cls, .slice aes s.edges.length ces] [.int .i64 r.states, .int .i64 r.initial, .slice alr r.labels.length clr, .slice aer r.edges.length cer] wr) (fun i _ => 64000 - (intOf i).toNat)
  case atStart => exact ⟨0, _, lv1, bv1, vs1, rfl, HA0.out, HB1.out, HS1.out, HBX1.out⟩
  case round =>
    clear HB1 HS1 HBX1 HS0
    obtain ⟨n, st, lv, bv, vs, rfl, hat, hbl, hsup, hbox⟩ := hrel
    have HAT := Lib.hid hat
    have HBL := Lib.hid hbl
    have HSU := Lib.hid hsup
    have HBX := Lib.hid hbox
    have hfew := hat.ok.few VP.out.valid VS.out.valid VR.out.valid
    have hsz : B ≤ wr.heap.size := by rw [HBB.out]; exact hbl.size
    obtain ⟨al, cl, rfl, -, -⟩ := owns_slice hsup.list
    have x0 := hsup.box.cell 0 rfl
    clear hat hbl hbox
    by_cases hlt : n < st.rows.length
    · obtain ⟨lb, rfl, hlb, k1, k2, k3⟩ := own_tri hsup.list hlt
      obtain ⟨cur, hcur⟩ : ∃ cur, cur = st.rows[n] := ⟨_, rfl⟩
      have HMID := Lib.hid (HAT.out.mid hlt)
      rw [← hcur] at k1 k2 k3 HMID
      have p0 := HBX.out.one.cell 0 rfl
      have p1 := HBX.out.one.cell 1 rfl
      have p2 := HBX.out.one.cell 2 rfl
      have p3 := HBX.out.one.cell 3 rfl
      have hpl := HBX.out.one.lt
      obtain ⟨wA, hwA⟩ : ∃ wA, wA = wr.alloc (.cells #[.int .i64 cur.x, .int .i64 cur.y, .int .i64 cur.z] 62) := ⟨_, rfl⟩
      have hbA : Below wr.heap.size wr wA := by rw [hwA]; exact box_below _ _ _
      have hnow : Blk wA wr.heap.size [.int .i64 cur.x, .int .i64 cur.y, .int .i64 cur.z] 62 := by rw [hwA]; exact Blk.new wr _ _
      have hnl : (Value.slice (some ⟨lb, 0, none⟩) st.rows.length cl).ownBlock ≠ some wr.heap.size := by simp [Value.ownBlock]; omega
      obtain ⟨nb, hnb⟩ : ∃ nb, nb = wr.heap.size := ⟨_, rfl⟩
      rw [← hnb] at hnow hnl
      have HBA := Lib.hid (HBL.out.trans (hbA.mono hsz))
      have HSA := Lib.hid (HSU.out.below hbA)
      have HBXA := Lib.hid (HBX.out.below hbA)
      have HNOW := Lib.hid hnow
      have HNL := Lib.hid hnl
      have HWA := Lib.hid hwA
      have HNB := Lib.hid hnb
      clear hcur hsup hbA hnow hnl hwA hnb
      go_wp2_with fail
      rw [← HWA.out, ← HNB.out]
      refine (out_any 0 p.sys _ _ cur.x _ (by omega) ((HP.out.edges.below (by rw [← HBB.out]; exact HBA.out)).mono (Nat.zero_le _))).mono ?_
      rintro e w9 ⟨lv9, rfl, hb9, hol⟩
      have hszA : B ≤ wA.heap.size := by rw [HBB.out]; exact HBA.out.size
      have HB9 := Lib.hid (HBA.out.trans (hb9.mono hszA))
      have HS9 := Lib.hid (HSA.out.below hb9)
      have HBX9 := Lib.hid (HBXA.out.below hb9)
      have HNOW9 := Lib.hid (HNOW.out.below hb9)
      have hL300 : (outOf p.sys cur.x).length ≤ 300 := Nat.le_trans (List.length_filter_le _ _) hmostp
      obtain ⟨al9, cl9, rfl, hc9, hm9⟩ := owns_slice hol
      obtain ⟨B9, hB9⟩ : ∃ B9, B9 = wA.heap.size := ⟨_, rfl⟩
      rw [← hB9] at hol
      obtain ⟨L, hLL⟩ : ∃ L, L = outOf p.sys cur.x := ⟨_, rfl⟩
      rw [← hLL] at hol hL300 ⊢
      have HOL := Lib.hid hol
      have HL := Lib.hid hLL
      clear hb9 hol hB9 hLL HBL HSU HBX HBA HSA HBXA HNOW HAT x0 p0 p1 p2 p3 k1 k2 k3
      go_wp2_with fail
      go_loopw [50] (fun j wr => ∃ (k : Nat) (st : Net) (lv bv : Value) (vs : List Value), j = .int .i64 k ∧ k ≤ L.length ∧ Mid p.sys s r (ctlOf p) n cur k st ∧ Below B w0 wr ∧ SupAt B xb mb st lv bv vs wr
        ∧ Box3 b1 [.int .i64 p.sys.states, .int .i64 p.sys.initial, .slice alp p.sys.labels.length clp, .slice aep p.sys.edges.length cep, .slice amp p.marks.length cmp, .slice anp p.names.length cnp] [.int .i64 s.states, .int .i64 s.initial, .slice als s.labels.length cls, .slice aes s.edges.length ces] [.int .i64 r.states, .int .i64 r.initial, .slice alr r.labels.length clr, .slice aer r.edges.length cer] wr
        ∧ Blk wr nb [.int .i64 cur.x, .int .i64 cur.y, .int .i64 cur.z] 62 ∧ lv.ownBlock ≠ some nb ∧ wr.ownsRow B9 73 3 (.slice al9 L.length cl9) L.length (L.flatMap encE)) (fun j _ => L.length - (intOf j).toNat)
      case atStart => exact ⟨0, st, _, _, vs, rfl, Nat.zero_le _, HMID.out, HB9.out, HS9.out, HBX9.out, HNOW9.out, HNL.out, HOL.out⟩
      case round =>
        clear HB9 HS9 HBX9 HNOW9 HNL HOL HMID
        obtain ⟨k, st, lv, bv, vs, rfl, hk, hmid, hbl, hsup, hbox, hnow, hnl, hol⟩ := hrel
        have HMID := Lib.hid hmid
        have HBL := Lib.hid hbl
        have HSU := Lib.hid hsup
        have HBX := Lib.hid hbox
        have HNOW := Lib.hid hnow
        have HNL := Lib.hid hnl
        have HOL := Lib.hid hol
        have hszr : B ≤ wr.heap.size := by rw [HBB.out]; exact hbl.size
        have hfew2 := hmid.ok.few VP.out.valid VS.out.valid VR.out.valid
        have hlt2 := hmid.lt
        by_cases hkl : k < L.length
        · obtain ⟨bl, rfl, hbl9, e1, e2, e3⟩ := own_edge hol hkl
          have hek : EdgeOk p.sys L[k] := outOf_ok VP.out.valid cur.x _ (by rw [← HL.out]; exact List.getElem_mem _)
          obtain ⟨hll, hla⟩ := labAt_idx hek
          obtain ⟨bt, ot, rfl, -, hbt, t1⟩ := (HLR.out.below (by rw [← HBB.out]; exact hbl)).one hll
          simp only [encS, List.getElem?_cons_zero] at t1
          rw [← hla] at t1
          have hl0 : ((L[k].lab.toNat : Nat) : Int) = L[k].lab := by have := hek.l0; omega
          have hl1 := hek.l1
          have hlz : (labAt p.sys L[k]).size ≤ 1048576 := by rw [hla]; exact HSH.out _ hll
          have hlok : labelOk (labAt p.sys L[k]).data.toList = true := by rw [hla]; exact VP.out.valid.labels.all _ hll
          have hin := HMID.out.ok.inside cur (List.mem_of_getElem? HMID.out.here)
          obtain ⟨e, hee⟩ : ∃ e, e = L[k] := ⟨_, rfl⟩
          obtain ⟨m, hm⟩ : ∃ m, m = L[k].lab.toNat := ⟨_, rfl⟩
          rw [← hm] at t1 hl0 hll
          rw [← hee] at e1 e2 e3 t1 hl0 hl1 hlz hlok
          rw [← hl0] at e2
          have hml : (m : Int) < (p.sys.labels.length : Int) := by omega
          obtain ⟨l, hl⟩ : ∃ l, l = labAt p.sys e := ⟨_, rfl⟩
          rw [← hl] at t1 hlz hlok
          have HEE := Lib.hid hee
          have HLB := Lib.hid hl
          have HLZ := Lib.hid (show labelOk l.data.toList = true ∧ l.size ≤ 1048576 from ⟨hlok, hlz⟩)
          obtain ⟨wE, hwE⟩ : ∃ wE, wE = wr.alloc (.cells #[.int .i64 e.src, .int .i64 m, .int .i64 e.dst] 73) := ⟨_, rfl⟩
          have hbE : Below wr.heap.size wr wE := by rw [hwE]; exact box_below _ _ _
          have heb : Blk wE wr.heap.size [.int .i64 e.src, .int .i64 m, .int .i64 e.dst] 73 := by rw [hwE]; exact Blk.new wr _ _
          obtain ⟨eb, hebn⟩ : ∃ eb, eb = wr.heap.size := ⟨_, rfl⟩
          rw [← hebn] at heb
          have HEB := Lib.hid heb
          have HEBN := Lib.hid hebn
          have HWE := Lib.hid hwE
          have HBE := Lib.hid (HBL.out.trans (hbE.mono hszr))
          have HSE := Lib.hid (HSU.out.below hbE)
          have HBXE := Lib.hid (HBX.out.below hbE)
          have HNOWE := Lib.hid (HNOW.out.below hbE)
          have HOLE := Lib.hid (owns_below HOL.out hbE)
          have p2 := HBX.out.one.cell 2 rfl
          have s0 := HBX.out.two.cell 0 rfl
          have s1 := HBX.out.two.cell 1 rfl
          have s2 := HBX.out.two.cell 2 rfl
          have s3 := HBX.out.two.cell 3 rfl
          have n1 := HNOW.out.cell 1 rfl
          have hb1l := HBX.out.one.lt
          have hb2l := HBX.out.two.lt
          have hnbl := HNOW.out.lt
          have hszE : B ≤ wE.heap.size := by rw [HBB.out]; exact HBE.out.size
          clear hmid hbl hsup hbox hnow hnl hol hek hla hl0 hl1 hee hm hl hlok hlz hwE hbE heb hebn hll hin
          clear HBL HSU HBX HNOW HOL
          go_wp2_with fail
          rw [← HWE.out]
          refine (along_any lo s cur.y l _ _ wE VS.out.valid VS.out.single (HSS.out.below (by rw [← HBB.out]; exact HBE.out))).mono ?_
          rintro e0 wB ⟨y, rfl, hbB, hyv⟩
          have HYV := Lib.hid hyv
          have HBB2 := Lib.hid (HBE.out.trans (hbB.mono hszE))
          have HSB := Lib.hid (HSE.out.below hbB)
          have HBXB := Lib.hid (HBXE.out.below hbB)
          have HNOWB := Lib.hid (HNOWE.out.below hbB)
          have HOLB := Lib.hid (owns_below HOLE.out hbB)
          have HEBB := Lib.hid (HEB.out.below hbB)
          have hszB2 : B ≤ wB.heap.size := by rw [HBB.out]; exact HBB2.out.size
          clear hbB hyv HBE HSE HBXE HNOWE HOLE HEB p2 s0 s1 s2 s3 n1 e1 e2 e3 t1
          rw [← HEBN.out]
          cases hys : alongB s cur.y l
          · have HYS := Lib.hid hys
            clear hys
            have p0 := HBXB.out.one.cell 0 rfl
            have p1 := HBXB.out.one.cell 1 rfl
            have p2 := HBXB.out.one.cell 2 rfl
            have p3 := HBXB.out.one.cell 3 rfl
            have p4 := HBXB.out.one.cell 4 rfl
            have p5 := HBXB.out.one.cell 5 rfl
            have HCC := Lib.hid (controlled_any lo p l _ _ _ _ wB HLZ.out.1 HLZ.out.2 (HP.out.below (by rw [← HBB.out]; exact HBB2.out)) (G.out.below (by rw [← HBB.out]; exact HBB2.out)))
            cases hct : ctlOf p l
            · rw [hct] at HCC
              have HCT := Lib.hid hct
              clear hct
              go_wp2_with fail
              refine Calls.mono HCC.out ?_
              rintro e0 wC ⟨rfl, hbC⟩
              have HBC := Lib.hid (HBB2.out.trans (hbC.mono hszB2))
              clear hbC p0 p1 p2 p3 p4 p5
              go_wp2_with fail
              go_ret
              refine ⟨HBC.out, .inl ⟨rfl, n, mid_fail HL.out HMID.out hkl ?_⟩⟩
              rw [← HEE.out]
              exact edgeStep_free (by rw [← HLB.out]; exact HYS.out) (by rw [← HLB.out]; exact HCT.out)
            · rw [hct] at HCC
              have HCT := Lib.hid hct
              clear hct
              go_wp2_with fail
              refine Calls.mono HCC.out ?_
              rintro e0 wC ⟨rfl, hbC⟩
              have HBC := Lib.hid (HBB2.out.trans (hbC.mono hszB2))
              have HSC := Lib.hid (HSB.out.below hbC)
              have HBXC := Lib.hid (HBXB.out.below hbC)
              have HNOWC := Lib.hid (HNOWB.out.below hbC)
              have HOLC := Lib.hid (owns_below HOLB.out hbC)
              clear hbC p0 p1 p2 p3 p4 p5
              go_wp2_with fail
              go_roundw
              case rel =>
                refine ⟨k + 1, st, lv, bv, vs, by go_num, by omega, mid_next HL.out HMID.out VP.out.valid VS.out.valid VR.out.valid hkl ?_, HBC.out, HSC.out, HBXC.out, HNOWC.out, HNL.out, HOLC.out⟩
                rw [← HEE.out]
                exact edgeStep_ctl (by rw [← HLB.out]; exact HYS.out) (by rw [← HLB.out]; exact HCT.out)
              case measure => simp [intOf]; omega
          · have HYS := Lib.hid hys
            have HY := Lib.hid (HYV.out hys)
            have r0 := HBXB.out.three.cell 0 rfl
            have r1 := HBXB.out.three.cell 1 rfl
            have r2 := HBXB.out.three.cell 2 rfl
            have r3 := HBXB.out.three.cell 3 rfl
            have n2 := HNOWB.out.cell 2 rfl
            clear hys HYV
            go_wp2_with fail
            refine (along_any lo r cur.z l _ _ wB VR.out.valid VR.out.single (HR.out.below (by rw [← HBB.out]; exact HBB2.out))).mono ?_
            rintro e0 wC ⟨z, rfl, hbC, hzv⟩
            have HZV := Lib.hid hzv
            have HBC := Lib.hid (HBB2.out.trans (hbC.mono hszB2))
            have HSC := Lib.hid (HSB.out.below hbC)
            have HBXC := Lib.hid (HBXB.out.below hbC)
            have HNOWC := Lib.hid (HNOWB.out.below hbC)
            have HOLC := Lib.hid (owns_below HOLB.out hbC)
            have HEBC := Lib.hid (HEBB.out.below hbC)
            have hszC : B ≤ wC.heap.size := by rw [HBB.out]; exact HBC.out.size
            clear hbC hzv HBB2 HSB HBXB HNOWB HOLB HEBB r0 r1 r2 r3 n2
            cases hzs : alongB r cur.z l
            · have HZS := Lib.hid hzs
              clear hzs
              go_wp2_with fail
              go_ret
              refine ⟨HBC.out, .inl ⟨rfl, n, mid_fail HL.out HMID.out hkl ?_⟩⟩
              rw [← HEE.out]
              exact edgeStep_may (by rw [← HLB.out]; exact HYS.out) (by rw [← HLB.out]; exact HZS.out)
            · have HZS := Lib.hid hzs
              have HZ := Lib.hid (HZV.out hzs)
              clear hzs HZV
              have HCALL := Lib.hid (find_tri VP.out.valid VS.out.valid VR.out.valid hszC HBC.out HSC.out HBXC.out HNOWC.out HNL.out HOLC.out HMID.out HL.out hkl HEE.out HLB.out HYS.out HZS.out HY.out HZ.out)
              have c2 := HEBC.out.cell 2 rfl
              go_wp2_with fail
              refine Calls.mono HCALL.out ?_
              rintro e0 wD ⟨pn, st1, lv1, bv1, vs1, rfl, hpn, hmid1, hbD, hsD, hxD, hnD, hnlD, hoD⟩
              have HBD := Lib.hid hbD
              have HSD := Lib.hid hsD
              have HXD := Lib.hid hxD
              have HND := Lib.hid hnD
              have HNLD := Lib.hid hnlD
              have HOD := Lib.hid hoD
              have HMID1 := Lib.hid hmid1
              have hszD : B ≤ wD.heap.size := by rw [HBB.out]; exact hbD.size
              have hef := hmid1.few
              have hvl1 : vs1.length = st1.rows.length := by rw [hsD.back.1, backs_len]
              have hpv : pn < vs1.length := by omega
              have hrow := hsD.back.2.2.1 pn hpv (by rw [backs_len]; exact hpn)
              have hbk : (backs st1)[pn]'(by rw [backs_len]; exact hpn) = (backOf st1.edges pn).map fun (a : Nat) => Value.int .i64 (a : Int) := by simp [backs]
              rw [hbk, List.length_map] at hrow
              have hbl1 : (backOf st1.edges pn).length ≤ st1.edges.length := by unfold backOf; rw [List.length_map]; exact List.length_filter_le _ _
              simp only [List.length_append, List.length_singleton] at hef
              obtain ⟨bb, cbb, hbv1, hbbB, hbbl⟩ := hsD.back.2.1.form (by omega)
              subst hbv1
              have y2 := hsD.box.cell 2 rfl
              have z0 := hsD.back.2.1.cellAt pn (by omega)
              rw [List.getElem?_eq_getElem hpv] at z0
              have f0 := hsD.back.2.1.frozenAt pn
              have nebb : some bb ≠ vs1[pn].ownBlock := fun e9 => by
                rcases own_types hsD.back.2.1 hrow (by decide) with h | h
                · cases h
                · exact h e9
              obtain ⟨rv, hrv⟩ : ∃ rv, rv = vs1[pn] := ⟨_, rfl⟩
              rw [← hrv] at hrow z0 nebb
              obtain ⟨arv, crv, hrv2, -, -⟩ := owns_slice hrow
              obtain ⟨mm, hmm⟩ : ∃ mm, mm = (backOf st1.edges pn).length := ⟨_, rfl⟩
              rw [← hmm] at hrow hbl1 hrv2
              subst hrv2
              have HROW := Lib.hid hrow
              have HRV := Lib.hid hrv
              have HMM := Lib.hid hmm
              have hxbl := hsD.box.lt
              have hpi : (pn : Int) < (vs1.length : Int) := by omega
              clear hbD hsD hxD hnD hnlD hoD hmid1 hrow hbk hrv hmm c2 HCALL
              obtain ⟨ij, hij, hijz, hij1, hij2⟩ := info_parts info_int
              go_wp2_with fail
              have HZD : Hid (∀ o, ((wD.alloc o).drew).frozen? ⟨bb, pn, none⟩ = false ∧ ((wD.alloc o).drew).cell? ⟨bb, pn, none⟩ = some (.slice arv mm crv) ∧ ((wD.alloc o).drew).cell? ⟨xb, 2, none⟩ = some (.slice (some ⟨bb, 0, none⟩) vs1.length cbb)) := fun o => by
                have hb : Below wD.heap.size wD ((wD.alloc o).drew) := ((Below.refl _ _).alloc (Nat.le_refl _) _).drew
                exact ⟨(hb.frozen (p := ⟨bb, pn, none⟩) hbbl).trans f0, keeps hb hbbl z0, keeps hb hxbl y2⟩
              have nexb : some xb ≠ (Value.slice arv mm crv).ownBlock := blk_own_ne HSD.out.box HROW.out (by decide)
              go_region_law
                ((refine step_append_lies _ (by rfl) _ _ _ (by rfl) B 3 ij _ 1 8 Tryz.underlying61 hij hijz hij1 hij2 rfl (by omega) (.slice arv mm crv) mm _ (by rfl) ((HROW.out.alloc _).drew)
                    ⟨wD.heap.size, 0, none⟩ 1 1 [.int .i64 n] (by rfl) (by rfl) (World.news_of_block (cs := #[.int .i64 n]) (t := 3) (fr := (0, 0)) (heap_alloc_new _ _)) (by simp [Value.oneCell'])
                    (by omega) (by simp [maxLen]; omega) (by omega) (by simp; omega) (wD.heap.size + 1) (by simp) ?_; intro gg cap w5 hown5 hgrow5 hat5 hlt5; have z1 := (hgrow5.frozen_far ⟨bb, pn, none⟩ (by simp; omega) nebb).trans (HZD.out _).1; have z2 := (hgrow5.cell_far ⟨bb, pn, none⟩ (by simp; omega) nebb).trans (HZD.out _).2.1; have z3 := (hgrow5.cell_far ⟨xb, 2, none⟩ (by simp; omega) nexb).trans (HZD.out _).2.2))
              all_goals (
                have hX : Below wD.heap.size wD ((wD.alloc (.cells #[.int .i64 n] 3)).drew) := ((Below.refl _ _).alloc (Nat.le_refl _) _).drew
                have H5 := Lib.hid (sup_edge (a := n) (b := pn) (rv := .slice (some ⟨gg, 0, none⟩) (mm + 1) cap) HSD.out hpn hpv hX (by rw [← HRV.out]; exact hgrow5) (by rw [← HMM.out]; exact hown5) (by rw [← HRV.out]; exact hat5) (by simp) rfl hszD)
                have HB6 := Lib.hid (HBD.out.trans H5.out.2.2.1)
                have HX6 : Hid (Box3 b1 _ _ _ _) := ⟨H5.out.2.2.2.1 _ _ _ HXD.out.one (by decide) (by decide), H5.out.2.2.2.1 _ _ _ HXD.out.two (by decide) (by decide), H5.out.2.2.2.1 _ _ _ HXD.out.three (by decide) (by decide)⟩
                have HN6 := Lib.hid (H5.out.2.2.2.1 _ _ _ HND.out (by decide) (by decide))
                have HO6 := Lib.hid (H5.out.2.2.2.2 _ _ _ _ HOD.out)
                clear hX hown5 hgrow5 hat5 hlt5 z1 z2 z3
                go_wp2_with fail
                go_roundw
                case rel => exact ⟨k + 1, ⟨st1.rows, st1.edges ++ [(n, pn)]⟩, lv1, _, _, by go_num, by omega, HMID1.out, HB6.out, H5.out.1, HX6.out, HN6.out, HNLD.out, HO6.out⟩
                case measure => simp [intOf]; omega)
        · obtain rfl : k = L.length := by omega
          have HMD := Lib.hid (mid_done HL.out hmid VP.out.valid)
          clear hmid hbl hsup hbox hnow hnl hol
          go_wp2_with fail
          go_roundw
          case rel => exact ⟨n + 1, st, lv, bv, vs, by go_num, HMD.out, HBL.out, HSU.out, HBX.out⟩
          case measure => simp [intOf]; omega
    · have HF := Lib.hid (HAT.out.found hlt)
      have hew : st.edges.length ≤ 19200000 := by have h1 := HAT.out.few; have h2 := HAT.out.le; omega
      clear hsup
      go_wp2_with fail
      go_ret
      exact ⟨HBL.out, .inr ⟨rfl, st, _, bv, vs, HF.out, HAT.out.ok, hew, HSU.out⟩⟩

end Go.Proofs.YtkffdamgekoifaaGreatDoor
