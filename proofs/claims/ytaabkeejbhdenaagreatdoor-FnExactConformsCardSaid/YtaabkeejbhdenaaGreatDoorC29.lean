/-
  The implementation's Conforms.
-/
import Derived.Test.YtaabkeejbhdenaaGreatDoorC24
import Derived.Test.YtaabkeejbhdenaaGreatDoorC26
import Derived.Test.YtaabkeejbhdenaaGreatDoorC27
import Derived.Test.YtaabkeejbhdenaaGreatDoorC16
import Derived.Test.YtaabkeejbhdenaaGreatDoorC28
import Derived.Deep.RegionHeld3
import Derived.Deep.CutRange
namespace Go.Proofs.YtaabkeejbhdenaaGreatDoor
open Go Go.RowKit

/-- What a suspension automaton leaves, with its rows. -/
def SetsC (lo : Nat) (w : World) (t : Lts) (ins : List ByteArray) (code n0 : Int) (c2 c3 vr : Value) : Prop :=
 (code = 5 ∧ NoAuto t ins) ∨ (code = 0 ∧ Valid (susT t ins) ∧ ∃ st vs, DOk (susT t ins) st ∧ n0 = (dSys (susT t ins) st).states ∧ OwnLts lo w c2 c3 (dSys (susT t ins) st) ∧ OwnIntss 66 2 lo w vr vs st.rows)
theorem SetsC.below {lo : Nat} {w w' : World} {t : Lts} {ins : List ByteArray} {code n0 : Int} {c2 c3 vr : Value} (h : SetsC lo w t ins code n0 c2 c3 vr) (hb : Below w.heap.size w w') : SetsC lo w' t ins code n0 c2 c3 vr := by
 rcases h with h | ⟨h, hv, st, vs, h1, h2, h3, h4⟩
 ·exact .inl h
 ·exact .inr ⟨h, hv, st, vs, h1, h2, h3.below hb, h4.below hb⟩
theorem SetsC.lower {lo lo' : Nat} {w : World} {t : Lts} {ins : List ByteArray} {code n0 : Int} {c2 c3 vr : Value} (h : SetsC lo w t ins code n0 c2 c3 vr) (hl : lo' ≤ lo) : SetsC lo' w t ins code n0 c2 c3 vr := by
 rcases h with h | ⟨h, hv, st, vs, h1, h2, h3, h4⟩
 ·exact .inl h
 ·exact .inr ⟨h, hv, st, vs, h1, h2, h3.lower hl, h4.lower hl⟩
/-- How SuspensionAutomaton ends for an interface. -/
theorem sa_cases {t : Lts} {ins : List ByteArray} {w w' : World} {e : Ending} (hif : IfOk t ins) (h : RetSa t ins w e w') : Below w.heap.size w w' ∧ ((NoAuto t ins ∧ ∃ la lc ea ec va vc, e = .returned (.tuple #[.agg #[.int .i64 0, .int .i64 0, .slice la 0 lc, .slice ea 0 ec], .slice va 0 vc, .int .i64 5]))
  ∨ (Valid (susT t ins) ∧ ∃ st la lc ea ec va vc vs, DOk (susT t ins) st ∧ e = .returned (.tuple #[.agg #[.int .i64 (dSys (susT t ins) st).states, .int .i64 0, .slice la (susT t ins).labels.length lc, .slice ea st.edges.length ec], .slice va st.rows.length vc, .int .i64 0])
   ∧ OwnLts w.heap.size w' (.slice la (susT t ins).labels.length lc) (.slice ea st.edges.length ec) (dSys (susT t ins) st) ∧ OwnIntss 66 2 w.heap.size w' (.slice va st.rows.length vc) vs st.rows)) := by
 obtain ⟨hb, d, xss, code, lv, ev, v, vs, rfl, hsa, hol, hiv⟩ := h
 refine ⟨hb, ?_⟩
 obtain ⟨la, lc, rfl, -, -⟩ := owns_slice hol.1
 obtain ⟨ea, ec, rfl, -, -⟩ := owns_slice hol.2
 have hvl := hiv.1
 obtain ⟨va, vc, rfl, -, -⟩ := owns_slice hiv.2.1
 rcases hsa with ⟨h1, -⟩ | ⟨-, h1, rfl, rfl, rfl⟩ | ⟨-, h1, ⟨h2, -⟩ | ⟨-, h2, rfl, rfl, rfl⟩ | ⟨-, st, h2, rfl, rfl, rfl⟩⟩
 ·exact absurd hif h1
 ·exact .inl ⟨.inl h1, la, lc, ea, ec, va, vc, by rw [hvl]; rfl⟩
 ·exact absurd h1 h2
 ·exact .inl ⟨.inr ⟨h1, h2⟩, la, lc, ea, ec, va, vc, by rw [hvl]; rfl⟩
 ·rw [hvl] at hiv ⊢
  exact .inr ⟨h1, st, la, lc, ea, ec, va, vc, vs, h2, rfl, hol, hiv⟩

theorem setsC_of {t : Lts} {ins : List ByteArray} {w w' : World} {e : Ending} (hif : IfOk t ins) (h : RetSa t ins w e w') : Below w.heap.size w w' ∧ ∃ (n0 : Int) (s2 : Option Addr) (m2 k2 : Nat) (s3 : Option Addr) (m3 k3 : Nat) (s4 : Option Addr) (m4 k4 : Nat) (code : Int),
  e = .returned (.tuple #[.agg #[.int .i64 n0, .int .i64 0, .slice s2 m2 k2, .slice s3 m3 k3], .slice s4 m4 k4, .int .i64 code]) ∧ SetsC w.heap.size w' t ins code n0 (.slice s2 m2 k2) (.slice s3 m3 k3) (.slice s4 m4 k4) := by
 obtain ⟨hb, ⟨hn, la, lc, ea, ec, va, vc, rfl⟩ | ⟨hv, st, la, lc, ea, ec, va, vc, vs, hok, rfl, hol, hiv⟩⟩ := sa_cases hif h
 ·exact ⟨hb, _, _, _, _, _, _, _, _, _, _, 5, rfl, .inl ⟨rfl, hn⟩⟩
 ·exact ⟨hb, _, _, _, _, _, _, _, _, _, _, 0, rfl, .inr ⟨rfl, hv, st, vs, hok, rfl, hol, hiv⟩⟩

set_option maxRecDepth 100000 in
set_option maxHeartbeats 2000000 in
theorem con1_any (lo lo9 xb yb ib pb sb : Nat) (a b : Lts) (sa sbn : DNet) (la ea lb eb iv vr ur : Value) (ins : List ByteArray) (vs us : List Value) (p q : Int) (w : World) (hva : Valid a) (hvb : Valid b) (hp1 : p < (sa.rows.length : Int)) (hq1 : q < (sbn.rows.length : Int)) (hsa : Short20 a.labels) (hsb' : Short20 b.labels)
  (hal : SliceK 1 encS lo w la a.labels) (hae : SliceK 3 encE lo w ea a.edges) (hbl : SliceK 1 encS lo w lb b.labels) (hbe : SliceK 3 encE lo w eb b.edges) (hi : SliceK 1 encS lo w iv ins) (hX : Blk w xb [.int .i64 a.states, .int .i64 a.initial, la, ea] 29) (hY : Blk w yb [.int .i64 b.states, .int .i64 b.initial, lb, eb] 29)
  (hib : Blk w ib [iv] 22) (hpb : Blk w pb [vr] 45) (hsb : Blk w sb [ur] 45) (hr : OwnIntss 66 2 lo9 w vr vs sa.rows) (hu : OwnIntss 66 2 lo9 w ur us sbn.rows) (g : Glob w) :
  Calls Tryz.prog 37 #[.int .i64 p, .int .i64 q, .pointer (some ⟨xb, 0, none⟩), .pointer (some ⟨yb, 0, none⟩), .pointer (some ⟨ib, 0, none⟩), .pointer (some ⟨pb, 0, none⟩), .pointer (some ⟨sb, 0, none⟩)] w (Decides (badC a b ins sa sbn (p, q)) w) := by
 by_cases hp : p < 0
 ·have HN : Hid (¬ badC a b ins sa sbn (p, q)) := fun h => by have h1 : 0 ≤ p := h.1; omega
  have hd : decide (0 ≤ p) = false := decide_eq_false (by omega)
  have hd2 : ¬ 0 ≤ p := by omega
  clear hva hvb hp1 hq1 hal hae hbl hbe hi hX hY hib hpb hsb hr hu hp g hsa hsb'
  go_enter Tryz.func37, Tryz.ntmps37
  go_wp2
  refine wp_region_later (by kernel_rfl) (by kernel_rfl) ?_
  repeat (go_big_quiet_step ((fail)))
  refine wpQuiet_nil ?_
  intro _ hw9
  obtain ⟨nl, hw8⟩ := hw9
  subst hw8
  go_wp2
  go_ret
  exact ⟨false, rfl, ⟨(fun h => by cases h), fun h => absurd h HN.out⟩, nl.h⟩
 ·by_cases hq : q < 0
  ·have HN : Hid (¬ badC a b ins sa sbn (p, q)) := fun h => by have h1 : 0 ≤ q := h.2.1; omega
   have hd : decide (0 ≤ p) = true := decide_eq_true (by omega)
   have hd2 : 0 ≤ p := by omega
   have hd3 : decide (0 ≤ q) = false := decide_eq_false (by omega)
   have hd4 : ¬ 0 ≤ q := by omega
   clear hva hvb hp1 hq1 hal hae hbl hbe hi hX hY hib hpb hsb hr hu hp hq g hsa hsb'
   go_enter Tryz.func37, Tryz.ntmps37
   go_wp2
   refine wp_region_later (by kernel_rfl) (by kernel_rfl) ?_
   repeat (go_big_quiet_step ((fail)))
   refine wpQuiet_nil ?_
   intro _ hw9
   obtain ⟨nl, hw8⟩ := hw9
   subst hw8
   go_wp2
   go_ret
   exact ⟨false, rfl, ⟨(fun h => by cases h), fun h => absurd h HN.out⟩, nl.h⟩
  ·obtain ⟨n, hn⟩ : ∃ n : Nat, (n : Int) = p := ⟨p.toNat, by omega⟩
   obtain ⟨m, hm⟩ : ∃ m : Nat, (m : Int) = q := ⟨q.toNat, by omega⟩
   have hnl : n < sa.rows.length := by omega
   have hml : m < sbn.rows.length := by omega
   have hsn : setOf sa p = sa.rows[n] := by rw [← hn]; exact setOf_at (List.getElem?_eq_getElem hnl)
   have hsm : setOf sbn q = sbn.rows[m] := by rw [← hm]; exact setOf_at (List.getElem?_eq_getElem hml)
   obtain ⟨b1, c1, u1, rfl, hb1, hc1, -, hsu1⟩ := hr.rowAt hnl
   obtain ⟨b2, c2, u2, rfl, hb2, hc2, -, hsu2⟩ := hu.rowAt hml
   obtain ⟨S, hS⟩ : ∃ S, S = sa.rows[n] := ⟨_, rfl⟩
   obtain ⟨T, hT⟩ : ∃ T, T = sbn.rows[m] := ⟨_, rfl⟩
   rw [← hS] at hsu1 hsn
   rw [← hT] at hsu2 hsm
   obtain ⟨K, hK⟩ : ∃ K, K = lackL (outsL b ins T) (outsL a ins S) := ⟨_, rfl⟩
   have hBP : badC a b ins sa sbn (p, q) ↔ 0 < K.length := by
    unfold badC wrongL
    simp only
    rw [hsn, hsm, ← hK, List.length_pos_iff]
    exact ⟨fun h => h.2.2, fun h => ⟨by omega, by omega, h⟩⟩
   have hKl : K.length ≤ 12 := by
    rw [hK]
    exact Nat.le_trans (List.length_filter_le _ _) (Nat.le_trans (outs_len b ins T) hvb.labels.most)
   obtain ⟨R1, hR1⟩ : ∃ R, R = sa.rows.length := ⟨_, rfl⟩
   obtain ⟨R2, hR2⟩ : ∃ R, R = sbn.rows.length := ⟨_, rfl⟩
   rw [← hR1] at hpb hnl
   rw [← hR2] at hsb hml
   obtain ⟨KN, hKN⟩ : ∃ KN, KN = K.length := ⟨_, rfl⟩
   rw [← hKN] at hBP hKl
   have HBP := Lib.hid hBP
   have HUX : Hid (∀ w', Below w.heap.size w w' → Calls Tryz.prog 38 #[.agg #[.int .i64 a.states, .int .i64 a.initial, la, ea], .agg #[.int .i64 b.states, .int .i64 b.initial, lb, eb], iv, u1, u2] w' (MadeTxI K w')) := fun w' hb => by
    rw [hK]
    exact unexpected_any lo _ _ a b la ea lb eb iv u1 u2 ins S T w' hva hvb hsa hsb' (hal.below hb) (hae.below hb) (hbl.below hb) (hbe.below hb) (hi.below hb) (hsu1.below hb) (hsu2.below hb) (g.below hb)
   have HKN := Lib.hid hKN
   have HD : Hid (Below w.heap.size w w.drew) := (Below.refl _ _).drew
   have HSW : Hid (∀ w', Below w.heap.size w w' → w'.cell? ⟨xb, 0, none⟩ = some (.int .i64 a.states) ∧ w'.cell? ⟨xb, 1, none⟩ = some (.int .i64 a.initial) ∧ w'.cell? ⟨xb, 2, none⟩ = some la ∧ w'.cell? ⟨xb, 3, none⟩ = some ea
    ∧ w'.cell? ⟨yb, 0, none⟩ = some (.int .i64 b.states) ∧ w'.cell? ⟨yb, 1, none⟩ = some (.int .i64 b.initial) ∧ w'.cell? ⟨yb, 2, none⟩ = some lb ∧ w'.cell? ⟨yb, 3, none⟩ = some eb ∧ w'.cell? ⟨ib, 0, none⟩ = some iv
    ∧ w'.cell? ⟨pb, 0, none⟩ = some (.slice (some ⟨b1, 0, none⟩) R1 c1) ∧ w'.cell? ⟨sb, 0, none⟩ = some (.slice (some ⟨b2, 0, none⟩) R2 c2) ∧ w'.cell? ⟨b1, n, none⟩ = some u1 ∧ w'.cell? ⟨b2, m, none⟩ = some u2) := fun w' hb =>
    ⟨(hX.below hb).cell 0 rfl, (hX.below hb).cell 1 rfl, (hX.below hb).cell 2 rfl, (hX.below hb).cell 3 rfl, (hY.below hb).cell 0 rfl, (hY.below hb).cell 1 rfl, (hY.below hb).cell 2 rfl, (hY.below hb).cell 3 rfl, (hib.below hb).cell 0 rfl, (hpb.below hb).cell 0 rfl, (hsb.below hb).cell 0 rfl, keeps hb hb1 hc1, keeps hb hb2 hc2⟩
   have hd : decide (0 ≤ (n : Int)) = true := decide_eq_true (by omega)
   have hd2 : 0 ≤ (n : Int) := by omega
   have hd3 : decide (0 ≤ (m : Int)) = true := decide_eq_true (by omega)
   have hd4 : 0 ≤ (m : Int) := by omega
   rw [← hn, ← hm] at HBP ⊢
   clear hva hvb hp1 hq1 hal hae hbl hbe hi hX hY hib hpb hsb hr hu hq hp hsn hsm hBP hb1 hc1 hsu1 hb2 hc2 hsu2 hS hT hR1 hR2 hn hm hK hKN g hsa hsb'
   go_enter Tryz.func37, Tryz.ntmps37
   go_wp2
   go_region_held3 (fun w' => w'.cell? ⟨xb, 0, none⟩ = some (.int .i64 a.states) ∧ w'.cell? ⟨xb, 1, none⟩ = some (.int .i64 a.initial) ∧ w'.cell? ⟨xb, 2, none⟩ = some la ∧ w'.cell? ⟨xb, 3, none⟩ = some ea
    ∧ w'.cell? ⟨yb, 0, none⟩ = some (.int .i64 b.states) ∧ w'.cell? ⟨yb, 1, none⟩ = some (.int .i64 b.initial) ∧ w'.cell? ⟨yb, 2, none⟩ = some lb ∧ w'.cell? ⟨yb, 3, none⟩ = some eb ∧ w'.cell? ⟨ib, 0, none⟩ = some iv
    ∧ w'.cell? ⟨pb, 0, none⟩ = some (.slice (some ⟨b1, 0, none⟩) R1 c1) ∧ w'.cell? ⟨sb, 0, none⟩ = some (.slice (some ⟨b2, 0, none⟩) R2 c2) ∧ w'.cell? ⟨b1, n, none⟩ = some u1 ∧ w'.cell? ⟨b2, m, none⟩ = some u2)
    (first
     | exact HSW.out _ HD.out
     | exact HSW.out _ (Below.refl _ _)
     | exact HSW.out _ hq1
     | go_keep)
    (first
     | (go_at_call 38; refine Calls.mono (HUX.out _ HD.out) ?_; rintro e w1 ⟨v1, rfl, hb1, ho1⟩; obtain ⟨a1, c1', rfl, -, -⟩ := owns_slice ho1; rw [← HKN.out]; have hq1 : Below w.heap.size w w1 := HD.out.trans (hb1.mono (by simp)))
     | fail)
   all_goals (
    have HQ := Lib.hid hq1
    clear hb1 ho1 hq1
    go_wp2
    go_ret
    exact ⟨decide (0 < KN), ret_bool (by first | rfl | simp), by rw [decide_eq_true_eq]; exact HBP.out.symm, HQ.out⟩)


theorem suspensionC_any (lo : Nat) (t : Lts) (lv ev v : Value) (ins : List ByteArray) (w : World) (h : IfOk t ins) (hl : SliceK 1 encS lo w lv t.labels) (he : SliceK 3 encE lo w ev t.edges) (hi : SliceK 1 encS lo w v ins) (hsh : Short20 t.labels) (g : Glob w) :
  Calls Tryz.prog 35 #[.agg #[.int .i64 t.states, .int .i64 t.initial, lv, ev], v] w fun e w' => ∃ (la : Option Addr) (lc : Nat) (ea : Option Addr) (ec : Nat), e = .returned (.agg #[.int .i64 (susT t ins).states, .int .i64 (susT t ins).initial, .slice la (susT t ins).labels.length lc, .slice ea (susT t ins).edges.length ec]) ∧ Below w.heap.size w w' ∧ OwnLts w.heap.size w' (.slice la (susT t ins).labels.length lc) (.slice ea (susT t ins).edges.length ec) (susT t ins) := by
 refine (suspension_any lo t lv ev v ins w h hl he hi hsh g).mono ?_
 rintro e w' ⟨lv2, ev2, rfl, hb, hl2, he2⟩
 obtain ⟨la, lc, rfl, -, -⟩ := owns_slice hl2
 obtain ⟨ea, ec, rfl, -, -⟩ := owns_slice he2
 exact ⟨la, lc, ea, ec, rfl, hb, hl2, he2⟩

theorem Blk.newAt {w : World} {cs : List Value} {t : TypeId} {b : Nat} (h : b = w.heap.size) : Blk (w.alloc (.cells cs.toArray t)) b cs t := by rw [h]; exact Blk.new w cs t
theorem Blk.set4 {w : World} {b : Nat} {c0 c1 c2 c3 v0 v1 v2 v3 : Value} {t : TypeId} (h : Blk w b [c0, c1, c2, c3] t) :
  Blk ((((w.setCell ⟨b, 0, none⟩ v0).setCell ⟨b, 1, none⟩ v1).setCell ⟨b, 2, none⟩ v2).setCell ⟨b, 3, none⟩ v3) b [v0, v1, v2, v3] t := (((h.set 0 v0).set 1 v1).set 2 v2).set 3 v3
theorem Only.put {Ts : List TypeId} {w w' : World} (h : Only Ts w w') {b : Nat} {cs : List Value} {t : TypeId} (hb : Blk w' b cs t) (ht : t ∈ Ts) (i : Nat) (v : Value) : Only Ts w (w'.setCell ⟨b, i, none⟩ v) := fun x a T fr hx hT => by
 have h1 := h x a T fr hx hT
 by_cases e : x = b
 ·subst e
  rw [show w'.heap[x]? = _ from hb] at h1
  cases h1
  exact absurd ht hT
 ·exact (heap_setCell_other w' ⟨b, i, none⟩ x v e).trans h1
theorem OwnLts.set4 {lo : Nat} {w : World} {lv ev : Value} {s : Lts} {b : Nat} {c0 c1 c2 c3 v0 v1 v2 v3 : Value} (h : OwnLts lo w lv ev s) (hb : Blk w b [c0, c1, c2, c3] 29) :
  OwnLts lo ((((w.setCell ⟨b, 0, none⟩ v0).setCell ⟨b, 1, none⟩ v1).setCell ⟨b, 2, none⟩ v2).setCell ⟨b, 3, none⟩ v3) lv ev s := by
 have o := ((((Only.refl [29] w).put hb (by simp) 0 v0).put (hb.set 0 v0) (by simp) 1 v1).put ((hb.set 0 v0).set 1 v1) (by simp) 2 v2).put (((hb.set 0 v0).set 1 v1).set 2 v2) (by simp) 3 v3
 exact ⟨o.own h.1 (by decide), o.own h.2 (by decide)⟩
theorem OwnLts.newCell {lo : Nat} {w : World} {lv ev : Value} {s : Lts} (h : OwnLts lo w lv ev s) (o : Obj) : OwnLts lo (w.alloc o) lv ev s := h.below ((Below.refl _ _).alloc (Nat.le_refl _) _)

set_option maxRecDepth 100000 in
set_option maxHeartbeats 8000000 in
theorem implConforms_any (lo : Nat) (a : Lts) (la ea : Value) (b : Lts) (lb eb iv : Value) (ins : List ByteArray) (w : World) (hsa : Short20 a.labels) (hsb : Short20 b.labels) (hsi : Short20 ins) (hal : SliceK 1 encS lo w la a.labels) (hae : SliceK 3 encE lo w ea a.edges)
  (hbl : SliceK 1 encS lo w lb b.labels) (hbe : SliceK 3 encE lo w eb b.edges) (hi : SliceK 1 encS lo w iv ins) (g : Glob w) :
  Calls Tryz.prog 15 #[.agg #[.int .i64 a.states, .int .i64 a.initial, la, ea], .agg #[.int .i64 b.states, .int .i64 b.initial, lb, eb], iv] w (RetCon a b ins w) := by
 obtain ⟨ia, ic, hiv, -⟩ := id hi
 obtain ⟨n1, hn1⟩ : ∃ n1, n1 = ins.length := ⟨_, rfl⟩
 rw [← hn1] at hiv
 clear hn1
 obtain ⟨p, hp⟩ : ∃ p, p = w.heap.size := ⟨_, rfl⟩
 obtain ⟨W, hW⟩ : ∃ W, W = ((w.alloc (.cells #[.int .i64 a.states, .int .i64 a.initial, la, ea] 29)).alloc (.cells #[.int .i64 b.states, .int .i64 b.initial, lb, eb] 29)).alloc (.cells #[iv] 22) := ⟨_, rfl⟩
 have hB0 : Below w.heap.size w W := by rw [hW]; exact (((Below.refl _ _).alloc (Nat.le_refl _) _).alloc (by simp) _).alloc (by simp; omega) _
 have hX : Blk W p [.int .i64 a.states, .int .i64 a.initial, la, ea] 29 := by rw [hW, hp]; exact ((Blk.new w _ _).alloc _).alloc _
 have hY : Blk W (p + 1) [.int .i64 b.states, .int .i64 b.initial, lb, eb] 29 := by
  have h := (Blk.new (w.alloc (.cells #[.int .i64 a.states, .int .i64 a.initial, la, ea] 29)) [.int .i64 b.states, .int .i64 b.initial, lb, eb] 29).alloc (.cells #[iv] 22)
  rw [World.size_alloc, ← hp] at h
  rw [hW]
  exact h
 have hI : Blk W (p + 1 + 1) [iv] 22 := by
  have h := Blk.new ((w.alloc (.cells #[.int .i64 a.states, .int .i64 a.initial, la, ea] 29)).alloc (.cells #[.int .i64 b.states, .int .i64 b.initial, lb, eb] 29)) [iv] 22
  rw [World.size_alloc, World.size_alloc, ← hp] at h
  rw [hW]
  exact h
 have HVA := Lib.hid (ValidInterface_any lo a la ea iv ins W hsa hsi (hal.below hB0) (hae.below hB0) (hi.below hB0) (g.below hB0))
 have HVB := Lib.hid (fun w' (hb : Below W.heap.size W w') => ValidInterface_any lo b lb eb iv ins w' hsb hsi ((hbl.below hB0).below hb) ((hbe.below hB0).below hb) ((hi.below hB0).below hb) ((g.below hB0).below hb))
 have HSA := Lib.hid (fun w' (hb : Below W.heap.size W w') => implSuspensionAutomaton_any lo a la ea iv ins w' hsa hsi ((hal.below hB0).below hb) ((hae.below hB0).below hb) ((hi.below hB0).below hb) ((g.below hB0).below hb))
 have HSB := Lib.hid (fun w' (hb : Below W.heap.size W w') => implSuspensionAutomaton_any lo b lb eb iv ins w' hsb hsi ((hbl.below hB0).below hb) ((hbe.below hB0).below hb) ((hi.below hB0).below hb) ((g.below hB0).below hb))
 have HPA := Lib.hid (fun w' (hb : Below W.heap.size W w') (h : IfOk a ins) => suspensionC_any lo a la ea iv ins w' h ((hal.below hB0).below hb) ((hae.below hB0).below hb) ((hi.below hB0).below hb) hsa ((g.below hB0).below hb))
 have HPB := Lib.hid (fun w' (hb : Below W.heap.size W w') (h : IfOk b ins) => suspensionC_any lo b lb eb iv ins w' h ((hbl.below hB0).below hb) ((hbe.below hB0).below hb) ((hi.below hB0).below hb) hsb ((g.below hB0).below hb))
 have HSHA := Lib.hid hsa
 have HSHB := Lib.hid hsb
 have HII := Lib.hid (hi.below hB0)
 have HG := Lib.hid (g.below hB0)
 have HX := Lib.hid hX
 have HY := Lib.hid hY
 have HI := Lib.hid hI
 have HB0 := Lib.hid hB0
 have HW := Lib.hid hW
 have HP := Lib.hid hp
 clear hsa hsb hsi hal hae hbl hbe hi g hB0 hX hY hI hp
 subst hiv
 have HW := Lib.hid hW
 clear hW
 by_cases hva : IfOk a ins
 ·have HV1 := Lib.hid hva
  by_cases hvb : IfOk b ins
  ·have HV2 := Lib.hid hvb
   have HVA1 := Lib.hid (Decides.yes HVA.out hva)
   clear hva hvb HVA
   go_enter Tryz.func15, Tryz.ntmps15
   go_wp2_with fail
   rw [← HW.out]
   refine Calls.mono HVA1.out ?_
   rintro e w1 ⟨rfl, hb1⟩
   have HD1 := Lib.hid hb1
   have x0 := (HY.out.below hb1).cell 0 rfl
   have x1 := (HY.out.below hb1).cell 1 rfl
   have x2 := (HY.out.below hb1).cell 2 rfl
   have x3 := (HY.out.below hb1).cell 3 rfl
   have x4 := (HI.out.below hb1).cell 0 rfl
   have HVB1 := Lib.hid (Decides.yes (HVB.out _ hb1) HV2.out)
   clear hb1 HVA1 HVB
   rw [← HP.out]
   go_wp2_with fail
   refine Calls.mono HVB1.out ?_
   rintro e w2 ⟨rfl, hb2⟩
   have hd2 := HD1.out.trans (hb2.mono HD1.out.size)
   have HD2 := Lib.hid hd2
   clear x0 x1 x2 x3 x4
   have x0 := (HX.out.below hd2).cell 0 rfl
   have x1 := (HX.out.below hd2).cell 1 rfl
   have x2 := (HX.out.below hd2).cell 2 rfl
   have x3 := (HX.out.below hd2).cell 3 rfl
   have x4 := (HI.out.below hd2).cell 0 rfl
   have HSA2 := Lib.hid (HSA.out _ hd2)
   clear hb2 hd2 HVB1 HSA
   go_wp2_with fail
   refine Calls.mono HSA2.out ?_
   rintro e w3 hret
   obtain ⟨hb3, n0, s2, m2, k2, s3, m3, k3, s4, m4, k4, c1, rfl, hsA⟩ := setsC_of HV1.out hret
   obtain ⟨p2, hp2⟩ : ∃ p2, p2 = w3.heap.size := ⟨_, rfl⟩
   obtain ⟨W2, hW2⟩ : ∃ W2, W2 = (w3.alloc (.cells #[.int .i64 n0, .int .i64 0, .slice s2 m2 k2, .slice s3 m3 k3] 29)).alloc (.cells #[.slice s4 m4 k4] 45) := ⟨_, rfl⟩
   have hb2 : Below w3.heap.size w3 W2 := by rw [hW2]; exact ((Below.refl _ _).alloc (Nat.le_refl _) _).alloc (by simp) _
   have hX2 : Blk W2 p2 [.int .i64 n0, .int .i64 0, .slice s2 m2 k2, .slice s3 m3 k3] 29 := by rw [hW2, hp2]; exact (Blk.new w3 _ _).alloc _
   have hR2 : Blk W2 (p2 + 1) [.slice s4 m4 k4] 45 := by
    have h := Blk.new (w3.alloc (.cells #[.int .i64 n0, .int .i64 0, .slice s2 m2 k2, .slice s3 m3 k3] 29)) [.slice s4 m4 k4] 45
    rw [World.size_alloc, ← hp2] at h
    rw [hW2]
    exact h
   have hd2 : Below W.heap.size W W2 := HD2.out.trans ((hb3.trans (hb2.mono hb3.size)).mono HD2.out.size)
   have HDD2 := Lib.hid hd2
   have HSA3 := Lib.hid ((hsA.below hb2).lower HD2.out.size)
   have HX2 := Lib.hid hX2
   have HR2 := Lib.hid hR2
   have HSB2 := Lib.hid (HSB.out W2 hd2)
   clear x0 x1 x2 x3 x4
   have y0 := (HY.out.below hd2).cell 0 rfl
   have y1 := (HY.out.below hd2).cell 1 rfl
   have y2 := (HY.out.below hd2).cell 2 rfl
   have y3 := (HY.out.below hd2).cell 3 rfl
   have y4 := (HI.out.below hd2).cell 0 rfl
   have hyl := (HY.out.below hd2).lt
   have hil := (HI.out.below hd2).lt
   have HW2 := Lib.hid hW2
   have HP2 := Lib.hid hp2
   rw [hW2] at y0 y1 y2 y3 y4 hyl hil
   clear hret hb3 hsA hb2 hX2 hR2 hd2 hW2 hp2 HSA2 HSB
   go_wp2_with fail
   rw [← HW2.out]
   try rw [← HP2.out]
   refine Calls.mono HSB2.out ?_
   rintro e w4 hret
   obtain ⟨hb4', q0, t2, i2, j2, t3, i3, j3, t4, i4, j4, c2, rfl, hsB⟩ := setsC_of HV2.out hret
   obtain ⟨p4, hp4⟩ : ∃ p4, p4 = w4.heap.size := ⟨_, rfl⟩
   obtain ⟨W4, hW4⟩ : ∃ W4, W4 = (w4.alloc (.cells #[.int .i64 q0, .int .i64 0, .slice t2 i2 j2, .slice t3 i3 j3] 29)).alloc (.cells #[.slice t4 i4 j4] 45) := ⟨_, rfl⟩
   have hb4 : Below w4.heap.size w4 W4 := by rw [hW4]; exact ((Below.refl _ _).alloc (Nat.le_refl _) _).alloc (by simp) _
   have hX4 : Blk W4 p4 [.int .i64 q0, .int .i64 0, .slice t2 i2 j2, .slice t3 i3 j3] 29 := by rw [hW4, hp4]; exact (Blk.new w4 _ _).alloc _
   have hR4 : Blk W4 (p4 + 1) [.slice t4 i4 j4] 45 := by
    have h := Blk.new (w4.alloc (.cells #[.int .i64 q0, .int .i64 0, .slice t2 i2 j2, .slice t3 i3 j3] 29)) [.slice t4 i4 j4] 45
    rw [World.size_alloc, ← hp4] at h
    rw [hW4]
    exact h
   have hb24 : Below W2.heap.size W2 W4 := hb4'.trans (hb4.mono hb4'.size)
   have hd4 : Below W.heap.size W W4 := HDD2.out.trans (hb24.mono HDD2.out.size)
   have HD4 := Lib.hid hd4
   have HSA4 := Lib.hid (HSA3.out.below hb24)
   have HSB4 := Lib.hid ((hsB.below hb4).lower HDD2.out.size)
   have HX24 := Lib.hid (HX2.out.below hb24)
   have HR24 := Lib.hid (HR2.out.below hb24)
   have HX4 := Lib.hid hX4
   have HR4 := Lib.hid hR4
   have HBW := Lib.hid (HB0.out.trans (hd4.mono HB0.out.size))
   have HW4 := Lib.hid hW4
   have HP4 := Lib.hid hp4
   clear y0 y1 y2 y3 y4 hyl hil hret hb4' hsB hb4 hX4 hR4 hb24 hW4 hp4 HSB2
   obtain ⟨hc1, hca⟩ | ⟨rfl, hVA, sa, vs, hoka, rfl, hoa, hra⟩ := HSA4.out
   ·have HF := Lib.hid hca
    have hne : (c1 == 0) = false := by rw [hc1]; rfl
    subst hc1
    clear hd4 hca
    go_wp2
    rw [← HW4.out]
    ((try simp only [Exit.inBlock, Exit.then]); refine bodyPost_ret (results_tmp4 rfl _ _ _) rfl ?_)
    exact con_none HBW.out (.inr (.inl ⟨⟨HV1.out, HV2.out⟩, .inl HF.out, rfl, rfl, rfl, rfl⟩))
   ·obtain ⟨rfl, hcb⟩ | ⟨rfl, hVB, sb, us, hokb, rfl, hob, hrb⟩ := HSB4.out
    ·have HF := Lib.hid hcb
     clear hd4 hcb hVA hoka hoa hra
     go_wp2
     rw [← HW4.out]
     ((try simp only [Exit.inBlock, Exit.then]); refine bodyPost_ret (results_tmp4 rfl _ _ _) rfl ?_)
     exact con_none HBW.out (.inr (.inl ⟨⟨HV1.out, HV2.out⟩, .inr HF.out, rfl, rfl, rfl, rfl⟩))
    ·have HVSA := Lib.hid hVA
     have HVSB := Lib.hid hVB
     have HOKA := Lib.hid hoka
     have HOKB := Lib.hid hokb
     have HOA := Lib.hid hoa
     have HRA := Lib.hid hra
     have HOB := Lib.hid hob
     have HRB := Lib.hid hrb
     obtain ⟨f0, hf0⟩ : ∃ f0, f0 = (dSys (susT a ins) sa).states := ⟨_, rfl⟩
     obtain ⟨f1, hf1⟩ : ∃ f1, f1 = (dSys (susT b ins) sb).states := ⟨_, rfl⟩
     have hW4 := HW4.out
     rw [← hf1] at hW4
     have HW4' := Lib.hid hW4
     rw [← hf1]
     try rw [← hf0]
     have HF0 := Lib.hid hf0
     have HF1 := Lib.hid hf1
     have hw4s : W.heap.size ≤ W4.heap.size := hd4.size
     clear hVA hVB hoka hokb hoa hra hob hrb hf0 hf1 hW4 HSA4 HSB4 HW4 hd4
     go_wp2
     rw [← HW4'.out]
     have HD9 : Hid (Below W4.heap.size W4 W4.drew) := (Below.refl _ _).drew
     have hdD : ∀ w', Below W4.heap.size W4 w' → Below W.heap.size W w' := fun w' hb => HD4.out.trans (hb.mono HD4.out.size)
     have HDW := Lib.hid hdD
     have HSW : Hid (∀ w', Below W4.heap.size W4 w' → w'.cell? ⟨p, 0, none⟩ = some (.int .i64 a.states) ∧ w'.cell? ⟨p, 1, none⟩ = some (.int .i64 a.initial) ∧ w'.cell? ⟨p, 2, none⟩ = some la ∧ w'.cell? ⟨p, 3, none⟩ = some ea ∧ w'.cell? ⟨p + 1, 0, none⟩ = some (.int .i64 b.states) ∧ w'.cell? ⟨p + 1, 1, none⟩ = some (.int .i64 b.initial) ∧ w'.cell? ⟨p + 1, 2, none⟩ = some lb ∧ w'.cell? ⟨p + 1, 3, none⟩ = some eb ∧ w'.cell? ⟨p + 1 + 1, 0, none⟩ = some (.slice ia n1 ic)) := fun w' hb =>
      ⟨(HX.out.below (hdD w' hb)).cell 0 rfl, (HX.out.below (hdD w' hb)).cell 1 rfl, (HX.out.below (hdD w' hb)).cell 2 rfl, (HX.out.below (hdD w' hb)).cell 3 rfl, (HY.out.below (hdD w' hb)).cell 0 rfl, (HY.out.below (hdD w' hb)).cell 1 rfl, (HY.out.below (hdD w' hb)).cell 2 rfl, (HY.out.below (hdD w' hb)).cell 3 rfl, (HI.out.below (hdD w' hb)).cell 0 rfl⟩
     have HCA : Hid (∀ w', Below W4.heap.size W4 w' → _) := fun w' hb => HPA.out w' (hdD w' hb) HV1.out
     have HCB : Hid (∀ w', Below W4.heap.size W4 w' → _) := fun w' hb => HPB.out w' (hdD w' hb) HV2.out
     clear hdD
     go_cut [16, 17] from 50 (fun v16 v17 wx => ∃ (A B : Nat) (xa : Option Addr) (xc : Nat) (xe : Option Addr) (xf : Nat) (ya : Option Addr) (yc : Nat) (ye : Option Addr) (yf : Nat), v16 = .pointer (some ⟨A, 0, none⟩) ∧ v17 = .pointer (some ⟨B, 0, none⟩) ∧ Below W4.heap.size W4 wx
      ∧ Blk wx A [.int .i64 (susT a ins).states, .int .i64 (susT a ins).initial, .slice xa (susT a ins).labels.length xc, .slice xe (susT a ins).edges.length xf] 29 ∧ Blk wx B [.int .i64 (susT b ins).states, .int .i64 (susT b ins).initial, .slice ya (susT b ins).labels.length yc, .slice ye (susT b ins).edges.length yf] 29
      ∧ OwnLts W4.heap.size wx (.slice xa (susT a ins).labels.length xc) (.slice xe (susT a ins).edges.length xf) (susT a ins) ∧ OwnLts W4.heap.size wx (.slice ya (susT b ins).labels.length yc) (.slice ye (susT b ins).edges.length yf) (susT b ins))
     case first =>
      go_region_held3 (fun w' => w'.cell? ⟨p, 0, none⟩ = some (.int .i64 a.states) ∧ w'.cell? ⟨p, 1, none⟩ = some (.int .i64 a.initial) ∧ w'.cell? ⟨p, 2, none⟩ = some la ∧ w'.cell? ⟨p, 3, none⟩ = some ea ∧ w'.cell? ⟨p + 1, 0, none⟩ = some (.int .i64 b.states) ∧ w'.cell? ⟨p + 1, 1, none⟩ = some (.int .i64 b.initial) ∧ w'.cell? ⟨p + 1, 2, none⟩ = some lb ∧ w'.cell? ⟨p + 1, 3, none⟩ = some eb ∧ w'.cell? ⟨p + 1 + 1, 0, none⟩ = some (.slice ia n1 ic))
       ((refine HSW.out _ ?_; repeat (first | with_reducible exact hq2 | with_reducible exact hq1 | with_reducible exact HD9.out | with_reducible exact Below.refl _ _ | with_reducible refine Below.drew ?_ | ((with_reducible refine Below.setCell ?_ ?hp _); (case hp => first | exact Nat.le_refl _ | ((try dsimp only); omega))) | ((with_reducible refine Below.alloc ?_ ?hp _); (case hp => first | (simp; done) | (simp; omega) | omega)))))
       (first
        | (go_at_call_of 35 (Value.agg #[Value.int .i64 a.states, Value.int .i64 a.initial, la, ea]); first | (with_reducible refine Calls.mono (HCA.out _ ((Below.refl W4.heap.size W4).drew)) ?_; rintro e w5 ⟨xa, xc, xe, xf, rfl, hb5, ho5⟩; have hq1 : Below W4.heap.size W4 w5 := Below.trans ((Below.refl W4.heap.size W4).drew) (hb5.mono (by first | exact Nat.le_refl _ | (simp; done) | (simp; omega))); have hz5 := hq1.size; have ho7 := ho5.lower (lo' := W4.heap.size) (by first | exact Nat.le_refl _ | (simp; done) | (simp; omega))) | (with_reducible refine Calls.mono (HCA.out _ (((Below.refl W4.heap.size W4).alloc (by first | exact Nat.le_refl _ | (simp; done) | (simp; omega)) _).drew)) ?_; rintro e w5 ⟨xa, xc, xe, xf, rfl, hb5, ho5⟩; have hq1 : Below W4.heap.size W4 w5 := Below.trans (((Below.refl W4.heap.size W4).alloc (by first | exact Nat.le_refl _ | (simp; done) | (simp; omega)) _).drew) (hb5.mono (by first | exact Nat.le_refl _ | (simp; done) | (simp; omega))); have hz5 := hq1.size; have ho7 := ho5.lower (lo' := W4.heap.size) (by first | exact Nat.le_refl _ | (simp; done) | (simp; omega)); have k1 : Blk w5 W4.heap.size [.int .i64 0, .int .i64 0, .slice none 0 0, .slice none 0 0] 29 := ((Blk.new W4 [.int .i64 0, .int .i64 0, .slice none 0 0, .slice none 0 0] 29).below (Below.refl _ _).drew).below hb5) | (with_reducible refine Calls.mono (HCA.out _ ((((Below.refl W4.heap.size W4).alloc (by first | exact Nat.le_refl _ | (simp; done) | (simp; omega)) _).alloc (by first | exact Nat.le_refl _ | (simp; done) | (simp; omega)) _).drew)) ?_; rintro e w5 ⟨xa, xc, xe, xf, rfl, hb5, ho5⟩; have hq1 : Below W4.heap.size W4 w5 := Below.trans ((((Below.refl W4.heap.size W4).alloc (by first | exact Nat.le_refl _ | (simp; done) | (simp; omega)) _).alloc (by first | exact Nat.le_refl _ | (simp; done) | (simp; omega)) _).drew) (hb5.mono (by first | exact Nat.le_refl _ | (simp; done) | (simp; omega))); have hz5 := hq1.size; have ho7 := ho5.lower (lo' := W4.heap.size) (by first | exact Nat.le_refl _ | (simp; done) | (simp; omega)); have k1 : Blk w5 W4.heap.size [.int .i64 0, .int .i64 0, .slice none 0 0, .slice none 0 0] 29 := (((Blk.new W4 [.int .i64 0, .int .i64 0, .slice none 0 0, .slice none 0 0] 29).alloc _).below (Below.refl _ _).drew).below hb5; have k2 : Blk w5 (W4.heap.size + 1) [.int .i64 0, .int .i64 0, .slice none 0 0, .slice none 0 0] 29 := (Blk.below (by { have h := Blk.new (W4.alloc (.cells #[.int .i64 0, .int .i64 0, .slice none 0 0, .slice none 0 0] 29)) [.int .i64 0, .int .i64 0, .slice none 0 0, .slice none 0 0] 29; rw [World.size_alloc] at h; exact h }) (Below.refl _ _).drew).below hb5))
        | (go_at_call_of 35 (Value.agg #[Value.int .i64 b.states, Value.int .i64 b.initial, lb, eb]); first | (with_reducible refine Calls.mono (HCB.out _ hq1) ?_; rintro e w6 ⟨ya, yc, ye, yf, rfl, hb6, ho6⟩; have hq2 : Below W4.heap.size W4 w6 := Below.trans hq1 (hb6.mono (by first | exact hq1.size | exact Nat.le_trans hq1.size (by first | (simp; done) | (simp; omega)))); (try (have l1 := k1.below hb6; have l1_lt := l1.lt; have l1_c0 := l1.cell 0 rfl; have l1_f0 := l1.frozen 0; have l1_c1 := l1.cell 1 rfl; have l1_f1 := l1.frozen 1; have l1_c2 := l1.cell 2 rfl; have l1_f2 := l1.frozen 2; have l1_c3 := l1.cell 3 rfl; have l1_f3 := l1.frozen 3; have Hl1 := Lib.hid l1)); (try (have l2 := k2.below hb6; have l2_lt := l2.lt; have l2_c0 := l2.cell 0 rfl; have l2_f0 := l2.frozen 0; have l2_c1 := l2.cell 1 rfl; have l2_f1 := l2.frozen 1; have l2_c2 := l2.cell 2 rfl; have l2_f2 := l2.frozen 2; have l2_c3 := l2.cell 3 rfl; have l2_f3 := l2.frozen 3; have Hl2 := Lib.hid l2)); have hoA := OwnLts.below (OwnLts.below ho7 (Below.refl _ _)) hb6; have hoB := ho6.lower (lo' := W4.heap.size) (by first | exact hz5 | (simp; omega)); have hz6 := hq2.size; have hz7 := hb6.size; (try simp only [World.size_alloc] at hz7); (try (have hz8 := k1.lt)); (try (have hz9 := k2.lt)); (try (have n1 : W4.heap.size ≠ w5.heap.size := by omega)); (try (have n2 : w5.heap.size ≠ W4.heap.size := by omega)); (try (have n3 : W4.heap.size ≠ w6.heap.size := by omega)); (try (have n4 : w6.heap.size ≠ W4.heap.size := by omega)); (try (have n5 : w5.heap.size ≠ w6.heap.size := by omega)); (try (have n6 : w6.heap.size ≠ w5.heap.size := by omega)); (try (have n7 : W4.heap.size + 1 ≠ w5.heap.size := by omega)); (try (have n8 : w5.heap.size ≠ W4.heap.size + 1 := by omega)); (try (have n9 : W4.heap.size + 1 ≠ w6.heap.size := by omega)); (try (have n10 : w6.heap.size ≠ W4.heap.size + 1 := by omega)); (try (have n11 : w5.heap.size + 1 ≠ w6.heap.size := by omega)); (try (have n12 : w6.heap.size ≠ w5.heap.size + 1 := by omega))) | (with_reducible refine Calls.mono (HCB.out _ (hq1.alloc hq1.size _)) ?_; rintro e w6 ⟨ya, yc, ye, yf, rfl, hb6, ho6⟩; have hq2 : Below W4.heap.size W4 w6 := Below.trans (hq1.alloc hq1.size _) (hb6.mono (by first | exact hq1.size | exact Nat.le_trans hq1.size (by first | (simp; done) | (simp; omega)))); (try (have l1 := (k1.alloc _).below hb6; have l1_lt := l1.lt; have l1_c0 := l1.cell 0 rfl; have l1_f0 := l1.frozen 0; have l1_c1 := l1.cell 1 rfl; have l1_f1 := l1.frozen 1; have l1_c2 := l1.cell 2 rfl; have l1_f2 := l1.frozen 2; have l1_c3 := l1.cell 3 rfl; have l1_f3 := l1.frozen 3; have Hl1 := Lib.hid l1)); (try (have l2 := (k2.alloc _).below hb6; have l2_lt := l2.lt; have l2_c0 := l2.cell 0 rfl; have l2_f0 := l2.frozen 0; have l2_c1 := l2.cell 1 rfl; have l2_f1 := l2.frozen 1; have l2_c2 := l2.cell 2 rfl; have l2_f2 := l2.frozen 2; have l2_c3 := l2.cell 3 rfl; have l2_f3 := l2.frozen 3; have Hl2 := Lib.hid l2)); have m1 : Blk w6 w5.heap.size [.int .i64 0, .int .i64 0, .slice none 0 0, .slice none 0 0] 29 := (Blk.new w5 [.int .i64 0, .int .i64 0, .slice none 0 0, .slice none 0 0] 29).below hb6; have m1_lt := m1.lt; have m1_c0 := m1.cell 0 rfl; have m1_f0 := m1.frozen 0; have m1_c1 := m1.cell 1 rfl; have m1_f1 := m1.frozen 1; have m1_c2 := m1.cell 2 rfl; have m1_f2 := m1.frozen 2; have m1_c3 := m1.cell 3 rfl; have m1_f3 := m1.frozen 3; have Hm1 := Lib.hid m1; have hoA := OwnLts.below (OwnLts.below ho7 ((Below.refl _ _).alloc (Nat.le_refl _) _)) hb6; have hoB := ho6.lower (lo' := W4.heap.size) (by first | exact hz5 | (simp; omega)); have hz6 := hq2.size; have hz7 := hb6.size; (try simp only [World.size_alloc] at hz7); (try (have hz8 := k1.lt)); (try (have hz9 := k2.lt)); (try (have n1 : W4.heap.size ≠ w5.heap.size := by omega)); (try (have n2 : w5.heap.size ≠ W4.heap.size := by omega)); (try (have n3 : W4.heap.size ≠ w6.heap.size := by omega)); (try (have n4 : w6.heap.size ≠ W4.heap.size := by omega)); (try (have n5 : w5.heap.size ≠ w6.heap.size := by omega)); (try (have n6 : w6.heap.size ≠ w5.heap.size := by omega)); (try (have n7 : W4.heap.size + 1 ≠ w5.heap.size := by omega)); (try (have n8 : w5.heap.size ≠ W4.heap.size + 1 := by omega)); (try (have n9 : W4.heap.size + 1 ≠ w6.heap.size := by omega)); (try (have n10 : w6.heap.size ≠ W4.heap.size + 1 := by omega)); (try (have n11 : w5.heap.size + 1 ≠ w6.heap.size := by omega)); (try (have n12 : w6.heap.size ≠ w5.heap.size + 1 := by omega))) | (with_reducible refine Calls.mono (HCB.out _ ((hq1.alloc hq1.size _).alloc (Nat.le_trans hq1.size (by first | (simp; done) | (simp; omega))) _)) ?_; rintro e w6 ⟨ya, yc, ye, yf, rfl, hb6, ho6⟩; have hq2 : Below W4.heap.size W4 w6 := Below.trans ((hq1.alloc hq1.size _).alloc (Nat.le_trans hq1.size (by first | (simp; done) | (simp; omega))) _) (hb6.mono (by first | exact hq1.size | exact Nat.le_trans hq1.size (by first | (simp; done) | (simp; omega)))); (try (have l1 := ((k1.alloc _).alloc _).below hb6; have l1_lt := l1.lt; have l1_c0 := l1.cell 0 rfl; have l1_f0 := l1.frozen 0; have l1_c1 := l1.cell 1 rfl; have l1_f1 := l1.frozen 1; have l1_c2 := l1.cell 2 rfl; have l1_f2 := l1.frozen 2; have l1_c3 := l1.cell 3 rfl; have l1_f3 := l1.frozen 3; have Hl1 := Lib.hid l1)); (try (have l2 := ((k2.alloc _).alloc _).below hb6; have l2_lt := l2.lt; have l2_c0 := l2.cell 0 rfl; have l2_f0 := l2.frozen 0; have l2_c1 := l2.cell 1 rfl; have l2_f1 := l2.frozen 1; have l2_c2 := l2.cell 2 rfl; have l2_f2 := l2.frozen 2; have l2_c3 := l2.cell 3 rfl; have l2_f3 := l2.frozen 3; have Hl2 := Lib.hid l2)); have m1 : Blk w6 w5.heap.size [.int .i64 0, .int .i64 0, .slice none 0 0, .slice none 0 0] 29 := ((Blk.new w5 [.int .i64 0, .int .i64 0, .slice none 0 0, .slice none 0 0] 29).alloc _).below hb6; have m1_lt := m1.lt; have m1_c0 := m1.cell 0 rfl; have m1_f0 := m1.frozen 0; have m1_c1 := m1.cell 1 rfl; have m1_f1 := m1.frozen 1; have m1_c2 := m1.cell 2 rfl; have m1_f2 := m1.frozen 2; have m1_c3 := m1.cell 3 rfl; have m1_f3 := m1.frozen 3; have Hm1 := Lib.hid m1; have m2 : Blk w6 (w5.heap.size + 1) [.int .i64 0, .int .i64 0, .slice none 0 0, .slice none 0 0] 29 := by { have h := (Blk.new (w5.alloc (.cells #[.int .i64 0, .int .i64 0, .slice none 0 0, .slice none 0 0] 29)) [.int .i64 0, .int .i64 0, .slice none 0 0, .slice none 0 0] 29).below hb6; rw [World.size_alloc] at h; exact h }; have m2_lt := m2.lt; have m2_c0 := m2.cell 0 rfl; have m2_f0 := m2.frozen 0; have m2_c1 := m2.cell 1 rfl; have m2_f1 := m2.frozen 1; have m2_c2 := m2.cell 2 rfl; have m2_f2 := m2.frozen 2; have m2_c3 := m2.cell 3 rfl; have m2_f3 := m2.frozen 3; have Hm2 := Lib.hid m2; have hoA := OwnLts.below (OwnLts.below ho7 (((Below.refl _ _).alloc (Nat.le_refl _) _).alloc (by simp) _)) hb6; have hoB := ho6.lower (lo' := W4.heap.size) (by first | exact hz5 | (simp; omega)); have hz6 := hq2.size; have hz7 := hb6.size; (try simp only [World.size_alloc] at hz7); (try (have hz8 := k1.lt)); (try (have hz9 := k2.lt)); (try (have n1 : W4.heap.size ≠ w5.heap.size := by omega)); (try (have n2 : w5.heap.size ≠ W4.heap.size := by omega)); (try (have n3 : W4.heap.size ≠ w6.heap.size := by omega)); (try (have n4 : w6.heap.size ≠ W4.heap.size := by omega)); (try (have n5 : w5.heap.size ≠ w6.heap.size := by omega)); (try (have n6 : w6.heap.size ≠ w5.heap.size := by omega)); (try (have n7 : W4.heap.size + 1 ≠ w5.heap.size := by omega)); (try (have n8 : w5.heap.size ≠ W4.heap.size + 1 := by omega)); (try (have n9 : W4.heap.size + 1 ≠ w6.heap.size := by omega)); (try (have n10 : w6.heap.size ≠ W4.heap.size + 1 := by omega)); (try (have n11 : w5.heap.size + 1 ≠ w6.heap.size := by omega)); (try (have n12 : w6.heap.size ≠ w5.heap.size + 1 := by omega))))
        | fail)
      all_goals (go_wp2; go_meet; (case rel => (refine ⟨_, _, xa, xc, xe, xf, ya, yc, ye, yf, rfl, rfl, ?_, ?_, ?_, ?_, ?_⟩; (· (repeat (first | with_reducible exact hq2 | ((with_reducible refine Below.setCell ?_ ?hn _); (case hn => first | with_reducible exact Nat.le_refl _ | ((try dsimp only); omega))) | ((with_reducible refine Below.alloc ?_ ?hn _); (case hn => first | (simp; done) | (simp; omega) | omega))))); (· (repeat (first | with_reducible exact l1 | with_reducible exact l2 | with_reducible exact m1 | with_reducible exact m2 | ((with_reducible refine Blk.newAt ?hn); (case hn => first | with_reducible rfl | (simp; done))) | with_reducible refine Blk.set4 (c0 := .int .i64 0) (c1 := .int .i64 0) (c2 := .slice none 0 0) (c3 := .slice none 0 0) ?_ | ((with_reducible refine Blk.setOther ?_ _ _ ?hn); (case hn => (try dsimp only); omega)) | with_reducible refine Blk.alloc ?_ _))); (· (repeat (first | with_reducible exact l1 | with_reducible exact l2 | with_reducible exact m1 | with_reducible exact m2 | ((with_reducible refine Blk.newAt ?hn); (case hn => first | with_reducible rfl | (simp; done))) | with_reducible refine Blk.set4 (c0 := .int .i64 0) (c1 := .int .i64 0) (c2 := .slice none 0 0) (c3 := .slice none 0 0) ?_ | ((with_reducible refine Blk.setOther ?_ _ _ ?hn); (case hn => (try dsimp only); omega)) | with_reducible refine Blk.alloc ?_ _))); (· (repeat (first | with_reducible exact hoA | with_reducible exact hoB | ((with_reducible refine OwnLts.set4 (c0 := .int .i64 0) (c1 := .int .i64 0) (c2 := .slice none 0 0) (c3 := .slice none 0 0) ?_ ?hn); (case hn => (repeat (first | with_reducible exact l1 | with_reducible exact l2 | with_reducible exact m1 | with_reducible exact m2 | ((with_reducible refine Blk.newAt ?hn); (case hn => first | with_reducible rfl | (simp; done))) | with_reducible refine Blk.set4 (c0 := .int .i64 0) (c1 := .int .i64 0) (c2 := .slice none 0 0) (c3 := .slice none 0 0) ?_ | ((with_reducible refine Blk.setOther ?_ _ _ ?hn); (case hn => (try dsimp only); omega)) | with_reducible refine Blk.alloc ?_ _)))) | with_reducible refine OwnLts.newCell ?_ _))); (· (repeat (first | with_reducible exact hoA | with_reducible exact hoB | ((with_reducible refine OwnLts.set4 (c0 := .int .i64 0) (c1 := .int .i64 0) (c2 := .slice none 0 0) (c3 := .slice none 0 0) ?_ ?hn); (case hn => (repeat (first | with_reducible exact l1 | with_reducible exact l2 | with_reducible exact m1 | with_reducible exact m2 | ((with_reducible refine Blk.newAt ?hn); (case hn => first | with_reducible rfl | (simp; done))) | with_reducible refine Blk.set4 (c0 := .int .i64 0) (c1 := .int .i64 0) (c2 := .slice none 0 0) (c3 := .slice none 0 0) ?_ | ((with_reducible refine Blk.setOther ?_ _ _ ?hn); (case hn => (try dsimp only); omega)) | with_reducible refine Blk.alloc ?_ _)))) | with_reducible refine OwnLts.newCell ?_ _))))))
     case rest =>
      obtain ⟨A, B, xa, xc, xe, xf, ya, yc, ye, yf, rfl, rfl, hbc, hbA, hbB, hoA, hoB⟩ := hcut
      rename World => wc
      have hdc := HDW.out _ hbc
      have HDC := Lib.hid hdc
      have HBC := Lib.hid hbc
      have HA := Lib.hid hbA
      have HB := Lib.hid hbB
      have HLA : Hid (SliceK 1 encS 0 wc (.slice xa (susT a ins).labels.length xc) (susT a ins).labels) := SliceK.of_owns (e := 9) encS_len rfl (by rw [flat_encS]; exact own_lower hoA.1 (Nat.zero_le _))
      have HEA : Hid (SliceK 3 encE 0 wc (.slice xe (susT a ins).edges.length xf) (susT a ins).edges) := SliceK.of_owns (e := 73) encE_len rfl (own_lower hoA.2 (Nat.zero_le _))
      have HLB : Hid (SliceK 1 encS 0 wc (.slice ya (susT b ins).labels.length yc) (susT b ins).labels) := SliceK.of_owns (e := 9) encS_len rfl (by rw [flat_encS]; exact own_lower hoB.1 (Nat.zero_le _))
      have HEB : Hid (SliceK 3 encE 0 wc (.slice ye (susT b ins).edges.length yf) (susT b ins).edges) := SliceK.of_owns (e := 73) encE_len rfl (own_lower hoB.2 (Nat.zero_le _))
      have HIC : Hid (SliceK 1 encS 0 wc (.slice ia n1 ic) ins) := (HII.out.below hdc).mono (Nat.zero_le _)
      have HGC := Lib.hid (HG.out.below hdc)
      have LA : LtsIn 0 wc (.slice s2 m2 k2) (.slice s3 m3 k3) (dSys (susT a ins) sa) := ⟨SliceK.of_owns (e := 9) encS_len rfl (by rw [flat_encS]; exact own_lower (OwnLts.below HOA.out hbc).1 (Nat.zero_le _)), SliceK.of_owns (e := 73) encE_len rfl (own_lower (OwnLts.below HOA.out hbc).2 (Nat.zero_le _))⟩
      have LB : LtsIn 0 wc (.slice t2 i2 j2) (.slice t3 i3 j3) (dSys (susT b ins) sb) := ⟨SliceK.of_owns (e := 9) encS_len rfl (by rw [flat_encS]; exact own_lower (OwnLts.below HOB.out hbc).1 (Nat.zero_le _)), SliceK.of_owns (e := 73) encE_len rfl (own_lower (OwnLts.below HOB.out hbc).2 (Nat.zero_le _))⟩
      have hask : Asks 37 #[.pointer (some ⟨A, 0, none⟩), .pointer (some ⟨B, 0, none⟩), .pointer (some ⟨p + 1 + 1, 0, none⟩), .pointer (some ⟨p2 + 1, 0, none⟩), .pointer (some ⟨p4 + 1, 0, none⟩)] (dSys (susT a ins) sa) (dSys (susT b ins) sb) (badC (susT a ins) (susT b ins) ins sa sb) wc := by
       intro w' hb' x y hx hy hnd _
       exact con1_any 0 W.heap.size A B (p + 1 + 1) (p2 + 1) (p4 + 1) (susT a ins) (susT b ins) sa sb (.slice xa (susT a ins).labels.length xc) (.slice xe (susT a ins).edges.length xf) (.slice ya (susT b ins).labels.length yc) (.slice ye (susT b ins).edges.length yf) (.slice ia n1 ic) (.slice s4 m4 k4) (.slice t4 i4 j4) ins vs us x y w' HVSA.out HVSB.out hx.2 hy.2 (susL_short HSHA.out) (susL_short HSHB.out)
        (HLA.out.below hb') (HEA.out.below hb') (HLB.out.below hb') (HEB.out.below hb') (HIC.out.below hb') (HA.out.below hb') (HB.out.below hb') ((HI.out.below HDC.out).below hb') ((HR24.out.below HBC.out).below hb') ((HR4.out.below HBC.out).below hb') ((OwnIntss.below HRA.out HBC.out).below hb') ((OwnIntss.below HRB.out HBC.out).below hb') (HGC.out.below hb')
      have HFI := Lib.hid (firstTrace_any 0 (dSys (susT a ins) sa) (dSys (susT b ins) sb) (.slice s2 m2 k2) (.slice s3 m3 k3) (.slice t2 i2 j2) (.slice t3 i3 j3) 37 #[.pointer (some ⟨A, 0, none⟩), .pointer (some ⟨B, 0, none⟩), .pointer (some ⟨p + 1 + 1, 0, none⟩), .pointer (some ⟨p2 + 1, 0, none⟩), .pointer (some ⟨p4 + 1, 0, none⟩)] (badC (susT a ins) (susT b ins) ins sa sb) wc (dSys_valid HVSA.out HOKA.out) (dSys_valid HVSB.out HOKB.out) (dSys_single HVSA.out HOKA.out) (dSys_single HVSB.out HOKB.out) rfl rfl LA LB (fun args w => by kernel_rfl) hask)
      rw [show (dSys (susT a ins) sa).initial = 0 from rfl, show (dSys (susT b ins) sb).initial = 0 from rfl] at HFI
      rw [← HF0.out, ← HF1.out] at HFI
      have y0 := (HX24.out.below hbc).cell 0 rfl
      have y1 := (HX24.out.below hbc).cell 1 rfl
      have y2 := (HX24.out.below hbc).cell 2 rfl
      have y3 := (HX24.out.below hbc).cell 3 rfl
      have z0 := (HX4.out.below hbc).cell 0 rfl
      have z1 := (HX4.out.below hbc).cell 1 rfl
      have z2 := (HX4.out.below hbc).cell 2 rfl
      have z3 := (HX4.out.below hbc).cell 3 rfl
      rw [← HF0.out] at y0
      rw [← HF1.out] at z0
      try rw [← HP4.out]
      clear hdc hbc hbA hbB hoA hoB LA LB hask
      go_wp2_with fail
      try rw [← HP4.out]
      refine Calls.mono HFI.out ?_
      rintro e w7 ⟨hb7, r, xs, v, rfl, hfi, hown⟩
      obtain ⟨av, cv, rfl, -, -⟩ := owns_slice hown
      have hbw := HBW.out.trans (HBC.out.mono HBW.out.size)
      have HC7 := Lib.hid hb7
      have HE7 := Lib.hid (HDC.out.trans (hb7.mono HDC.out.size))
      have HB7 := Lib.hid (hbw.trans (hb7.mono hbw.size))
      have HO7 : Hid (OwnStrs w.heap.size w7 (.slice av xs.length cv) xs) := own_lower hown hbw.size
      have HXL := Lib.hid hfi.1
      have HFB : Hid ((NoWord ((0 : Int), (0 : Int)) (goBoth (dSys (susT a ins) sa) (dSys (susT b ins) sb) (bothL (susT a ins) (susT b ins))) ((bothL (susT a ins) (susT b ins)).length - 1) (badC (susT a ins) (susT b ins) ins sa sb) ∧ r = false ∧ xs = [])
        ∨ ∃ u, Least ((0 : Int), (0 : Int)) (goBoth (dSys (susT a ins) sa) (dSys (susT b ins) sb) (bothL (susT a ins) (susT b ins))) ((bothL (susT a ins) (susT b ins)).length - 1) (badC (susT a ins) (susT b ins) ins sa sb) u ∧ r = true ∧ xs = txtsOf (bothL (susT a ins) (susT b ins)) u) := by
       rcases hfi.2 with ⟨h1, h2, h3⟩ | ⟨u, h1, h2, h3⟩
       ·exact .inl ⟨h1.congr fun v _ => badC_alive _, h2, h3⟩
       ·exact .inr ⟨u, h1.congr fun v _ => badC_alive _, h2, h3⟩
      clear y0 y1 y2 y3 z0 z1 z2 z3 hfi hown hb7 hbw HFI
      cases r with
      | false =>
       have HN : Hid (ConB (susT a ins) (susT b ins) ins sa sb true [] ByteArray.empty) := by
        rcases HFB.out with ⟨h1, -, -⟩ | ⟨u, -, h, -⟩
        ·exact .inl ⟨h1, rfl, rfl, rfl⟩
        ·cases h
       go_wp2
       ((try simp only [Exit.inBlock, Exit.then]); refine bodyPost_ret (results_tmp4 rfl _ _ _) rfl ?_)
       exact con_none HB7.out (.inr (.inr ⟨⟨HV1.out, HV2.out⟩, ⟨HVSA.out, HVSB.out⟩, sa, sb, HOKA.out, HOKB.out, rfl, HN.out⟩))
      | true =>
       obtain ⟨u, hle, hxs⟩ : ∃ u, Least ((0 : Int), (0 : Int)) (goBoth (dSys (susT a ins) sa) (dSys (susT b ins) sb) (bothL (susT a ins) (susT b ins))) ((bothL (susT a ins) (susT b ins)).length - 1) (badC (susT a ins) (susT b ins) ins sa sb) u ∧ xs = txtsOf (bothL (susT a ins) (susT b ins)) u := by
        rcases HFB.out with ⟨-, h, -⟩ | ⟨u, h1, -, h2⟩
        ·cases h
        ·exact ⟨u, h1, h2⟩
       have haw := aft_word HVSA.out HVSB.out HOKA.out HOKB.out (InOrd.set _) u hle.1
       obtain ⟨P, hP⟩ : ∃ P, P = difS (dSys (susT a ins) sa) (dSys (susT b ins) sb) (bothL (susT a ins) (susT b ins)) u := ⟨_, rfl⟩
       have hbp : badC (susT a ins) (susT b ins) ins sa sb P := by rw [hP]; exact hle.2.1
       have haw1 : aftL (susT a ins) xs = setOf sa P.1 := by rw [hxs, hP]; exact haw.1
       have haw2 : aftL (susT b ins) xs = setOf sb P.2 := by rw [hxs, hP]; exact haw.2
       obtain ⟨K, hK⟩ : ∃ K, K = wrongL (susT a ins) (susT b ins) ins sa sb P := ⟨_, rfl⟩
       have hKp : 0 < K.length := by rw [hK]; exact List.length_pos_iff.2 hbp.2.2
       have hK0 : K[0] = headT K := by
        cases K with
        | nil => exact absurd hKp (Nat.lt_irrefl _)
        | cons x l => rfl
       have HAN : Hid (ConB (susT a ins) (susT b ins) ins sa sb false xs (headT K)) := .inr ⟨u, hle, rfl, hxs, by rw [hK, hP]⟩
       have HXN : Hid (xs.length ≤ 2000) := HXL.out
       have hDD : Below w7.heap.size w7 w7.drew := (Below.refl _ _).drew
       have HDD := Lib.hid hDD
       have HAF := Lib.hid (after_any 0 w.heap.size (susT a ins) (.slice xa (susT a ins).labels.length xc) (.slice xe (susT a ins).edges.length xf) (.slice av xs.length cv) xs w7.drew HVSA.out ((HLA.out.below HC7.out).below hDD) ((HEA.out.below HC7.out).below hDD) (HO7.out.below hDD).at (by have := HXL.out; omega))
       have HAG : Hid (∀ w', Below w7.heap.size w7 w' → Calls Tryz.prog 39 #[.agg #[.int .i64 (susT b ins).states, .int .i64 (susT b ins).initial, .slice ya (susT b ins).labels.length yc, .slice ye (susT b ins).edges.length yf], .slice av xs.length cv] w' (MadeNums (setOf sb P.2) w')) := fun w' hb => by
        rw [← haw2]
        exact after_any 0 w.heap.size (susT b ins) _ _ _ xs w' HVSB.out ((HLB.out.below HC7.out).below hb) ((HEB.out.below HC7.out).below hb) (HO7.out.below hb).at (by have := HXL.out; omega)
       rw [haw1] at HAF
       have HUX : Hid (∀ w' v1 v2 l1 l2, Below w7.heap.size w7 w' → SliceK 1 encI l1 w' v1 (setOf sa P.1) → SliceK 1 encI l2 w' v2 (setOf sb P.2) → Calls Tryz.prog 38 #[.agg #[.int .i64 (susT a ins).states, .int .i64 (susT a ins).initial, .slice xa (susT a ins).labels.length xc, .slice xe (susT a ins).edges.length xf], .agg #[.int .i64 (susT b ins).states, .int .i64 (susT b ins).initial, .slice ya (susT b ins).labels.length yc, .slice ye (susT b ins).edges.length yf], .slice ia n1 ic, v1, v2] w' fun e w'' => ∃ (g c : Nat), e = .returned (.slice (some ⟨g, 0, none⟩) K.length c) ∧ Below w'.heap.size w' w'' ∧ g < w''.heap.size ∧ w''.cell? ⟨g, 0, none⟩ = some (.string (headT K))) := fun w' v1 v2 l1 l2 hb h1 h2 => by
        refine (unexpected_any 0 l1 l2 (susT a ins) (susT b ins) _ _ _ _ _ v1 v2 ins (setOf sa P.1) (setOf sb P.2) w' HVSA.out HVSB.out (susL_short HSHA.out) (susL_short HSHB.out) ((HLA.out.below HC7.out).below hb) ((HEA.out.below HC7.out).below hb) ((HLB.out.below HC7.out).below hb) ((HEB.out.below HC7.out).below hb) ((HIC.out.below HC7.out).below hb) h1 h2 ((HGC.out.below HC7.out).below hb)).mono ?_
        rintro e w'' ⟨v9, rfl, hb9, ho9⟩
        have ho9 : OwnStrs w'.heap.size w'' v9 K := by rw [hK]; exact ho9
        obtain ⟨g, c, rfl, hg⟩ : ∃ g c, v9 = .slice (some ⟨g, 0, none⟩) K.length c ∧ g < w''.heap.size := by
         rcases ho9.2 with ⟨-, h0⟩ | ⟨g, cap, cur, h1, -, hg, -⟩
         ·omega
         ·exact ⟨g, cap, h1, (Array.getElem?_eq_some_iff.1 hg).1⟩
        refine ⟨g, c, rfl, hb9, hg, ?_⟩
        have h9 := ho9.cellAt 0 (by omega)
        unfold txts at h9
        rw [List.getElem?_map, List.getElem?_eq_getElem hKp, hK0] at h9
        exact h9
       have HSW : Hid (∀ w', Below w7.heap.size w7 w' → w'.cell? ⟨A, 0, none⟩ = some (.int .i64 (susT a ins).states) ∧ w'.cell? ⟨A, 1, none⟩ = some (.int .i64 (susT a ins).initial) ∧ w'.cell? ⟨A, 2, none⟩ = some (.slice xa (susT a ins).labels.length xc) ∧ w'.cell? ⟨A, 3, none⟩ = some (.slice xe (susT a ins).edges.length xf)
         ∧ w'.cell? ⟨B, 0, none⟩ = some (.int .i64 (susT b ins).states) ∧ w'.cell? ⟨B, 1, none⟩ = some (.int .i64 (susT b ins).initial) ∧ w'.cell? ⟨B, 2, none⟩ = some (.slice ya (susT b ins).labels.length yc) ∧ w'.cell? ⟨B, 3, none⟩ = some (.slice ye (susT b ins).edges.length yf) ∧ w'.cell? ⟨p + 1 + 1, 0, none⟩ = some (.slice ia n1 ic)) := fun w' hb =>
        ⟨((HA.out.below HC7.out).below hb).cell 0 rfl, ((HA.out.below HC7.out).below hb).cell 1 rfl, ((HA.out.below HC7.out).below hb).cell 2 rfl, ((HA.out.below HC7.out).below hb).cell 3 rfl, ((HB.out.below HC7.out).below hb).cell 0 rfl, ((HB.out.below HC7.out).below hb).cell 1 rfl, ((HB.out.below HC7.out).below hb).cell 2 rfl, ((HB.out.below HC7.out).below hb).cell 3 rfl, ((HI.out.below HE7.out).below hb).cell 0 rfl⟩
       obtain ⟨XN, hXN⟩ : ∃ XN, XN = xs.length := ⟨_, rfl⟩
       rw [← hXN] at HAF HAG HO7 ⊢
       have HXNN := Lib.hid hXN
       obtain ⟨KN, hKN⟩ : ∃ KN, KN = K.length := ⟨_, rfl⟩
       rw [← hKN] at HUX hKp
       clear haw hle hxs hP hbp haw1 haw2 hK hK0 hDD hXN hKN HFB
       go_wp2
       refine wp_region_noPanic ?_
       refine wp_region_held_drew (S := fun w' => w'.cell? ⟨A, 0, none⟩ = some (.int .i64 (susT a ins).states) ∧ w'.cell? ⟨A, 1, none⟩ = some (.int .i64 (susT a ins).initial) ∧ w'.cell? ⟨A, 2, none⟩ = some (.slice xa (susT a ins).labels.length xc) ∧ w'.cell? ⟨A, 3, none⟩ = some (.slice xe (susT a ins).edges.length xf)
         ∧ w'.cell? ⟨B, 0, none⟩ = some (.int .i64 (susT b ins).states) ∧ w'.cell? ⟨B, 1, none⟩ = some (.int .i64 (susT b ins).initial) ∧ w'.cell? ⟨B, 2, none⟩ = some (.slice ya (susT b ins).labels.length yc) ∧ w'.cell? ⟨B, 3, none⟩ = some (.slice ye (susT b ins).edges.length yf) ∧ w'.cell? ⟨p + 1 + 1, 0, none⟩ = some (.slice ia n1 ic)) (by kernel_rfl) ?hS (fun hHeld => ?goon)
       case hS =>
        try dsimp only
        first
                 | with_reducible exact HSW.out _ HDD.out
                 | with_reducible exact HSW.out _ (Below.refl _ _)
                 | with_reducible exact HSW.out _ hq1
                 | with_reducible exact HSW.out _ hq2
                 | with_reducible exact HSW.out _ hq3
                 | go_keep
       case goon =>
        refine wpAnyH_take (i := 0) (oi := ?oi1) (v := ?v1) ?ho1 ?ka1 ?kb1 ?kc1 (fun _ _ _ h => h) (Or.inl ⟨?wn1, ?hy1⟩) (by assumption) ?rest1
        case ho1 => (simp only [List.getElem?_toArray, List.getElem?_cons_zero]; rfl)
        case ka1 => kernel_rfl
        case kb1 => kernel_rfl
        case kc1 => kernel_rfl
        case wn1 => rfl
        case hy1 => (intro w hSw; (try dsimp only at hSw); first | (go_simp; done) | (go_simp; with_reducible rfl))
        case rest1 =>
         try simp only [Act.put, List.setIfInBounds_toArray, List.set_cons_zero, List.set_cons_succ]
         refine wpAnyH_take (i := 1) (oi := ?oi2) (v := ?v2) ?ho2 ?ka2 ?kb2 ?kc2 (fun _ _ _ h => h) (Or.inl ⟨?wn2, ?hy2⟩) (by assumption) ?rest2
         case ho2 => (simp only [List.getElem?_toArray, List.getElem?_cons_succ, List.getElem?_cons_zero]; rfl)
         case ka2 => kernel_rfl
         case kb2 => kernel_rfl
         case kc2 => kernel_rfl
         case wn2 => rfl
         case hy2 => (intro w hSw; (try dsimp only at hSw); first | (go_simp; done) | (go_simp; with_reducible rfl))
         case rest2 =>
          try simp only [Act.put, List.setIfInBounds_toArray, List.set_cons_zero, List.set_cons_succ]
          refine wpAnyH_take (i := 2) (oi := ?oi3) (v := ?v3) ?ho3 ?ka3 ?kb3 ?kc3 (fun _ _ _ h => h) (Or.inl ⟨?wn3, ?hy3⟩) (by assumption) ?rest3
          case ho3 => (simp only [List.getElem?_toArray, List.getElem?_cons_succ, List.getElem?_cons_zero]; rfl)
          case ka3 => kernel_rfl
          case kb3 => kernel_rfl
          case kc3 => kernel_rfl
          case wn3 => rfl
          case hy3 => (intro w hSw; (try dsimp only at hSw); first | (go_simp; done) | (go_simp; with_reducible rfl))
          case rest3 =>
           try simp only [Act.put, List.setIfInBounds_toArray, List.set_cons_zero, List.set_cons_succ]
           refine wpAnyH_take (i := 3) (oi := ?oi4) (v := ?v4) ?ho4 ?ka4 ?kb4 ?kc4 (fun _ _ _ h => h) (Or.inl ⟨?wn4, ?hy4⟩) (by assumption) ?rest4
           case ho4 => (simp only [List.getElem?_toArray, List.getElem?_cons_succ, List.getElem?_cons_zero]; rfl)
           case ka4 => kernel_rfl
           case kb4 => kernel_rfl
           case kc4 => kernel_rfl
           case wn4 => rfl
           case hy4 => (intro w hSw; (try dsimp only at hSw); first | (go_simp; done) | (go_simp; with_reducible rfl))
           case rest4 =>
            try simp only [Act.put, List.setIfInBounds_toArray, List.set_cons_zero, List.set_cons_succ]
            refine wpAnyH_take (i := 4) (oi := ?oi5) (v := ?v5) ?ho5 ?ka5 ?kb5 ?kc5 (fun _ _ _ h => h) (Or.inl ⟨?wn5, ?hy5⟩) (by assumption) ?rest5
            case ho5 => (simp only [List.getElem?_toArray, List.getElem?_cons_succ, List.getElem?_cons_zero]; rfl)
            case ka5 => kernel_rfl
            case kb5 => kernel_rfl
            case kc5 => kernel_rfl
            case wn5 => rfl
            case hy5 => (intro w hSw; (try dsimp only at hSw); first | (go_simp; done) | (go_simp; with_reducible rfl))
            case rest5 =>
             try simp only [Act.put, List.setIfInBounds_toArray, List.set_cons_zero, List.set_cons_succ]
             refine wpAnyH_take (i := 5) (oi := ?oi6) (v := ?v6) ?ho6 ?ka6 ?kb6 ?kc6 (fun _ _ _ h => h) (Or.inl ⟨?wn6, ?hy6⟩) (by assumption) ?rest6
             case ho6 => (simp only [List.getElem?_toArray, List.getElem?_cons_succ, List.getElem?_cons_zero]; rfl)
             case ka6 => kernel_rfl
             case kb6 => kernel_rfl
             case kc6 => kernel_rfl
             case wn6 => rfl
             case hy6 => (intro w hSw; (try dsimp only at hSw); first | (go_simp; done) | (go_simp; with_reducible rfl))
             case rest6 =>
              try simp only [Act.put, List.setIfInBounds_toArray, List.set_cons_zero, List.set_cons_succ]
              refine wpAnyH_take (i := 7) (oi := ?oi7) (v := ?v7) ?ho7 ?ka7 ?kb7 ?kc7 (fun _ _ _ h => h) (Or.inl ⟨?wn7, ?hy7⟩) (by assumption) ?rest7
              case ho7 => (simp only [List.getElem?_toArray, List.getElem?_cons_succ, List.getElem?_cons_zero]; rfl)
              case ka7 => kernel_rfl
              case kb7 => kernel_rfl
              case kc7 => kernel_rfl
              case wn7 => rfl
              case hy7 => (intro w hSw; (try dsimp only at hSw); first | (go_simp; done) | (go_simp; with_reducible rfl))
              case rest7 =>
               try simp only [Act.put, List.setIfInBounds_toArray, List.set_cons_zero, List.set_cons_succ]
               refine wpAnyH_take (i := 8) (oi := ?oi8) (v := ?v8) ?ho8 ?ka8 ?kb8 ?kc8 (fun _ _ _ h => h) (Or.inl ⟨?wn8, ?hy8⟩) (by assumption) ?rest8
               case ho8 => (simp only [List.getElem?_toArray, List.getElem?_cons_succ, List.getElem?_cons_zero]; rfl)
               case ka8 => kernel_rfl
               case kb8 => kernel_rfl
               case kc8 => kernel_rfl
               case wn8 => rfl
               case hy8 => (intro w hSw; (try dsimp only at hSw); first | (go_simp; done) | (go_simp; with_reducible rfl))
               case rest8 =>
                try simp only [Act.put, List.setIfInBounds_toArray, List.set_cons_zero, List.set_cons_succ]
                refine wpAnyH_ready (rs := [6]) (by kernel_rfl) (by simp) ?_
                refine AllReadyH.cons (o := ?o9) ?ho9 (fun K hK => ?st9) ?more9
                case ho9 => (simp only [List.getElem?_toArray, List.getElem?_cons_succ, List.getElem?_cons_zero]; rfl)
                case st9 =>
                 go_simp
                 first
                          | (go_at_call_of 39 (Value.agg #[Value.int .i64 (susT a ins).states, Value.int .i64 (susT a ins).initial, Value.slice xa (susT a ins).labels.length xc, Value.slice xe (susT a ins).edges.length xf]); refine Calls.mono HAF.out ?_; rintro e w9 ⟨v9, rfl, hb9, ho9⟩; have hq1 : Below w7.heap.size w7 w9 := HDD.out.trans (hb9.mono (by simp)))
                          | (go_at_call_of 39 (Value.agg #[Value.int .i64 (susT b ins).states, Value.int .i64 (susT b ins).initial, Value.slice ya (susT b ins).labels.length yc, Value.slice ye (susT b ins).edges.length yf]); refine Calls.mono (HAG.out _ hq1) ?_; rintro e w10 ⟨v10, rfl, hb10, ho10⟩; have hq2 : Below w7.heap.size w7 w10 := hq1.trans (hb10.mono hq1.size); have hs9 := (SliceK.of_owns (enc := encI) encI_len rfl (by rw [flat_encI]; exact owns_below ho9 hb10)); have hs10 := (SliceK.of_owns (enc := encI) encI_len rfl (by rw [flat_encI]; exact ho10)))
                          | (go_at_call 38; refine Calls.mono (HUX.out _ _ _ _ _ hq2 hs9 hs10) ?_; rintro e w11 ⟨g, c, rfl, hb11, hg, hcell⟩; have hq3 : Below w7.heap.size w7 w11 := hq2.trans (hb11.mono hq2.size))
                          | fail
                 try go_wp2_with fail
                 refine hK.out _ _ ?hS9 (fun hHeld => ?goon9)
                 case hS9 =>
                  try dsimp only
                  first
                           | with_reducible exact HSW.out _ HDD.out
                           | with_reducible exact HSW.out _ (Below.refl _ _)
                           | with_reducible exact HSW.out _ hq1
                           | with_reducible exact HSW.out _ hq2
                           | with_reducible exact HSW.out _ hq3
                           | go_keep
                 case goon9 =>
                  clear hK K
                  try simp only [Act.put, List.setIfInBounds_toArray, List.set_cons_zero, List.set_cons_succ]
                  refine wpAnyH_ready (rs := [9]) (by kernel_rfl) (by simp) ?_
                  refine AllReadyH.cons (o := ?o10) ?ho10 (fun K hK => ?st10) ?more10
                  case ho10 => (simp only [List.getElem?_toArray, List.getElem?_cons_succ, List.getElem?_cons_zero]; rfl)
                  case st10 =>
                   go_simp
                   first
                            | (go_at_call_of 39 (Value.agg #[Value.int .i64 (susT a ins).states, Value.int .i64 (susT a ins).initial, Value.slice xa (susT a ins).labels.length xc, Value.slice xe (susT a ins).edges.length xf]); refine Calls.mono HAF.out ?_; rintro e w9 ⟨v9, rfl, hb9, ho9⟩; have hq1 : Below w7.heap.size w7 w9 := HDD.out.trans (hb9.mono (by simp)))
                            | (go_at_call_of 39 (Value.agg #[Value.int .i64 (susT b ins).states, Value.int .i64 (susT b ins).initial, Value.slice ya (susT b ins).labels.length yc, Value.slice ye (susT b ins).edges.length yf]); refine Calls.mono (HAG.out _ hq1) ?_; rintro e w10 ⟨v10, rfl, hb10, ho10⟩; have hq2 : Below w7.heap.size w7 w10 := hq1.trans (hb10.mono hq1.size); have hs9 := (SliceK.of_owns (enc := encI) encI_len rfl (by rw [flat_encI]; exact owns_below ho9 hb10)); have hs10 := (SliceK.of_owns (enc := encI) encI_len rfl (by rw [flat_encI]; exact ho10)))
                            | (go_at_call 38; refine Calls.mono (HUX.out _ _ _ _ _ hq2 hs9 hs10) ?_; rintro e w11 ⟨g, c, rfl, hb11, hg, hcell⟩; have hq3 : Below w7.heap.size w7 w11 := hq2.trans (hb11.mono hq2.size))
                            | fail
                   try go_wp2_with fail
                   refine hK.out _ _ ?hS10 (fun hHeld => ?goon10)
                   case hS10 =>
                    try dsimp only
                    first
                             | with_reducible exact HSW.out _ HDD.out
                             | with_reducible exact HSW.out _ (Below.refl _ _)
                             | with_reducible exact HSW.out _ hq1
                             | with_reducible exact HSW.out _ hq2
                             | with_reducible exact HSW.out _ hq3
                             | go_keep
                   case goon10 =>
                    clear hK K
                    try simp only [Act.put, List.setIfInBounds_toArray, List.set_cons_zero, List.set_cons_succ]
                    refine wpAnyH_ready (rs := [10]) (by kernel_rfl) (by simp) ?_
                    refine AllReadyH.cons (o := ?o11) ?ho11 (fun K hK => ?st11) ?more11
                    case ho11 => (simp only [List.getElem?_toArray, List.getElem?_cons_succ, List.getElem?_cons_zero]; rfl)
                    case st11 =>
                     go_simp
                     first
                              | (go_at_call_of 39 (Value.agg #[Value.int .i64 (susT a ins).states, Value.int .i64 (susT a ins).initial, Value.slice xa (susT a ins).labels.length xc, Value.slice xe (susT a ins).edges.length xf]); refine Calls.mono HAF.out ?_; rintro e w9 ⟨v9, rfl, hb9, ho9⟩; have hq1 : Below w7.heap.size w7 w9 := HDD.out.trans (hb9.mono (by simp)))
                              | (go_at_call_of 39 (Value.agg #[Value.int .i64 (susT b ins).states, Value.int .i64 (susT b ins).initial, Value.slice ya (susT b ins).labels.length yc, Value.slice ye (susT b ins).edges.length yf]); refine Calls.mono (HAG.out _ hq1) ?_; rintro e w10 ⟨v10, rfl, hb10, ho10⟩; have hq2 : Below w7.heap.size w7 w10 := hq1.trans (hb10.mono hq1.size); have hs9 := (SliceK.of_owns (enc := encI) encI_len rfl (by rw [flat_encI]; exact owns_below ho9 hb10)); have hs10 := (SliceK.of_owns (enc := encI) encI_len rfl (by rw [flat_encI]; exact ho10)))
                              | (go_at_call 38; refine Calls.mono (HUX.out _ _ _ _ _ hq2 hs9 hs10) ?_; rintro e w11 ⟨g, c, rfl, hb11, hg, hcell⟩; have hq3 : Below w7.heap.size w7 w11 := hq2.trans (hb11.mono hq2.size))
                              | fail
                     try go_wp2_with fail
                     refine hK.out _ _ ?hS11 (fun hHeld => ?goon11)
                     case hS11 =>
                      try dsimp only
                      first
                               | with_reducible exact HSW.out _ HDD.out
                               | with_reducible exact HSW.out _ (Below.refl _ _)
                               | with_reducible exact HSW.out _ hq1
                               | with_reducible exact HSW.out _ hq2
                               | with_reducible exact HSW.out _ hq3
                               | go_keep
                     case goon11 =>
                      clear hK K
                      try simp only [Act.put, List.setIfInBounds_toArray, List.set_cons_zero, List.set_cons_succ]
                      refine wpAnyH_take (i := 11) (oi := ?oi12) (v := ?v12) ?ho12 ?ka12 ?kb12 ?kc12 (fun _ _ _ h => h) (Or.inl ⟨?wn12, ?hy12⟩) (by assumption) ?rest12
                      case ho12 => (simp only [List.getElem?_toArray, List.getElem?_cons_succ, List.getElem?_cons_zero]; rfl)
                      case ka12 => kernel_rfl
                      case kb12 => kernel_rfl
                      case kc12 => kernel_rfl
                      case wn12 => rfl
                      case hy12 => (intro w hSw; (try dsimp only at hSw); first | (go_simp; done) | (go_simp; with_reducible rfl))
                      case rest12 =>
                       try simp only [Act.put, List.setIfInBounds_toArray, List.set_cons_zero, List.set_cons_succ]
                       refine wpAnyH_take (i := 13) (oi := ?oi13) (v := ?v13) ?ho13 ?ka13 ?kb13 ?kc13 (fun _ _ _ h => h) (Or.inl ⟨?wn13, ?hy13⟩) (by assumption) ?rest13
                       case ho13 => (simp only [List.getElem?_toArray, List.getElem?_cons_succ, List.getElem?_cons_zero]; rfl)
                       case ka13 => kernel_rfl
                       case kb13 => kernel_rfl
                       case kc13 => kernel_rfl
                       case wn13 => rfl
                       case hy13 => (intro w hSw; (try dsimp only at hSw); first | (go_simp; done) | (go_simp; with_reducible rfl))
                       case rest13 =>
                        try simp only [Act.put, List.setIfInBounds_toArray, List.set_cons_zero, List.set_cons_succ]
                        refine wpAnyH_take (i := 14) (oi := ?oi14) (v := ?v14) ?ho14 ?ka14 ?kb14 ?kc14 (fun _ _ _ h => h) (Or.inl ⟨?wn14, ?hy14⟩) (by assumption) ?rest14
                        case ho14 => (simp only [List.getElem?_toArray, List.getElem?_cons_succ, List.getElem?_cons_zero]; rfl)
                        case ka14 => kernel_rfl
                        case kb14 => kernel_rfl
                        case kc14 => kernel_rfl
                        case wn14 => rfl
                        case hy14 => (intro w hSw; (try dsimp only at hSw); first | (go_simp; done) | (go_simp; with_reducible rfl))
                        case rest14 =>
                         try simp only [Act.put, List.setIfInBounds_toArray, List.set_cons_zero, List.set_cons_succ]
                         refine wpAnyH_ready (rs := [12]) (by kernel_rfl) (by simp) ?_
                         refine AllReadyH.cons (o := ?o15) ?ho15 (fun K hK => ?st15) ?more15
                         case ho15 => (simp only [List.getElem?_toArray, List.getElem?_cons_succ, List.getElem?_cons_zero]; rfl)
                         case st15 =>
                          go_simp
                          refine hK.out _ _ ?hS15 (fun hHeld => ?goon15)
                          case hS15 =>
                           try dsimp only
                           first
                                    | with_reducible exact HSW.out _ HDD.out
                                    | with_reducible exact HSW.out _ (Below.refl _ _)
                                    | with_reducible exact HSW.out _ hq1
                                    | with_reducible exact HSW.out _ hq2
                                    | with_reducible exact HSW.out _ hq3
                                    | go_keep
                          case goon15 =>
                           clear hK K
                           try simp only [Act.put, List.setIfInBounds_toArray, List.set_cons_zero, List.set_cons_succ]
                           refine wpAnyH_take (i := 15) (oi := ?oi16) (v := ?v16) ?ho16 ?ka16 ?kb16 ?kc16 (fun _ _ _ h => h) (Or.inl ⟨?wn16, ?hy16⟩) (by assumption) ?rest16
                           case ho16 => (simp only [List.getElem?_toArray, List.getElem?_cons_succ, List.getElem?_cons_zero]; rfl)
                           case ka16 => kernel_rfl
                           case kb16 => kernel_rfl
                           case kc16 => kernel_rfl
                           case wn16 => rfl
                           case hy16 => (intro w hSw; (try dsimp only at hSw); first | (go_simp; done) | (go_simp; with_reducible rfl))
                           case rest16 =>
                            try simp only [Act.put, List.setIfInBounds_toArray, List.set_cons_zero, List.set_cons_succ]
                            refine wpAnyH_take (i := 16) (oi := ?oi17) (v := ?v17) ?ho17 ?ka17 ?kb17 ?kc17 (fun _ _ _ h => h) (Or.inl ⟨?wn17, ?hy17⟩) (by assumption) ?rest17
                            case ho17 => (simp only [List.getElem?_toArray, List.getElem?_cons_succ, List.getElem?_cons_zero]; rfl)
                            case ka17 => kernel_rfl
                            case kb17 => kernel_rfl
                            case kc17 => kernel_rfl
                            case wn17 => rfl
                            case hy17 => (intro w hSw; (try dsimp only at hSw); first | (go_simp; done) | (go_simp; with_reducible rfl))
                            case rest17 =>
                             try simp only [Act.put, List.setIfInBounds_toArray, List.set_cons_zero, List.set_cons_succ]
                             refine wpAnyH_done (by kernel_rfl) ?_ _
                             refine NoPanic.normal ?_
                             have HB11 := Lib.hid (HB7.out.trans (hq3.mono HB7.out.size))
                             have HO11 := Lib.hid (HO7.out.below hq3)
                             clear hb9 ho9 hq1 hb10 ho10 hq2 hs9 hs10 hb11 hg hq3 hcell
                             go_wp2
                             ((try simp only [Exit.inBlock, Exit.then]); refine bodyPost_ret (results_tmp4 rfl _ _ _) rfl ?_)
                             exact ⟨HB11.out, false, xs, headT K, 0, _, rfl, ⟨.inr (.inr ⟨⟨HV1.out, HV2.out⟩, ⟨HVSA.out, HVSB.out⟩, sa, sb, HOKA.out, HOKB.out, rfl, HAN.out⟩), HXN.out⟩, HO11.out⟩
                         exact AllReadyH.nil
                    exact AllReadyH.nil
                  exact AllReadyH.nil
                exact AllReadyH.nil
  ·have HV2 := Lib.hid hvb
   have HVA1 := Lib.hid (Decides.yes HVA.out hva)
   clear hva hvb HVA
   go_enter Tryz.func15, Tryz.ntmps15
   go_wp2_with fail
   rw [← HW.out]
   refine Calls.mono HVA1.out ?_
   rintro e w1 ⟨rfl, hb1⟩
   have HD1 := Lib.hid hb1
   have x0 := (HY.out.below hb1).cell 0 rfl
   have x1 := (HY.out.below hb1).cell 1 rfl
   have x2 := (HY.out.below hb1).cell 2 rfl
   have x3 := (HY.out.below hb1).cell 3 rfl
   have x4 := (HI.out.below hb1).cell 0 rfl
   have HVB1 := Lib.hid (Decides.no (HVB.out _ hb1) HV2.out)
   clear hb1 HVA1 HVB
   rw [← HP.out]
   go_wp2_with fail
   refine Calls.mono HVB1.out ?_
   rintro e w2 ⟨rfl, hb2⟩
   have HD2 := Lib.hid (HB0.out.trans ((HD1.out.trans (hb2.mono HD1.out.size)).mono HB0.out.size))
   clear hb2 x0 x1 x2 x3 x4
   go_wp2
   ((try simp only [Exit.inBlock, Exit.then]); refine bodyPost_ret (results_tmp4 rfl _ _ _) rfl ?_)
   exact con_none HD2.out (.inl ⟨fun h => HV2.out h.2, rfl, rfl, rfl, rfl⟩)
 ·have HV1 := Lib.hid hva
  have HVA1 := Lib.hid (Decides.no HVA.out hva)
  clear hva HVA
  go_enter Tryz.func15, Tryz.ntmps15
  go_wp2_with fail
  rw [← HW.out]
  refine Calls.mono HVA1.out ?_
  rintro e w1 ⟨rfl, hb1⟩
  have HD1 := Lib.hid (HB0.out.trans (hb1.mono HB0.out.size))
  clear hb1 HVA1
  go_wp2
  ((try simp only [Exit.inBlock, Exit.then]); refine bodyPost_ret (results_tmp4 rfl _ _ _) rfl ?_)
  exact con_none HD1.out (.inl ⟨fun h => HV1.out h.1, rfl, rfl, rfl, rfl⟩)

end Go.Proofs.YtaabkeejbhdenaaGreatDoor
