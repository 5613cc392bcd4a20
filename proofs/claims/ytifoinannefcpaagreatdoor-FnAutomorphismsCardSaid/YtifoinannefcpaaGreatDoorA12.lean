/-
  The reference's drawer of a system that mostly has automorphisms.
  The source of a drawer; the length of what is drawn from; two lists of texts.
  The reference's system that mostly has automorphisms: it is valid and small.
  The law's b10At: a number below n.
  What the reference says of a number in a list, and of two equal lists.
-/
import Derived.Test.YtifoinannefcpaaGreatDoorA11
import Derived.Test.YtifoinannefcpaaGreatDoorA7
import Derived.Test.YtifoinannefcpaaGreatDoorA1
import Derived.Test.YtifoinannefcpaaGreatDoorA3
import Derived.Test.YtifoinannefcpaaGreatDoorA6
namespace Go.Proofs.YtifoinannefcpaaGreatDoor
open Go Go.RowKit


theorem twin_results {w : World} {b : Nat} {v0 v1 v2 v3 : Value} {tmps : Array Value} (hc : tmps.getD 2 undef = .pointer (some ⟨b, 0, none⟩)) (hb : Blk w b [v0, v1, v2, v3] 27) :
  (results Tryz.f14 tmps).run Tryz.prog w = .ok (.agg #[v0, v1, v2, v3]) w := by
 have h0 := hb.cell 0 rfl
 have h1 := hb.cell 1 rfl
 have h2 := hb.cell 2 rfl
 have h3 := hb.cell 3 rfl
 simp only [Array.getD_eq_getD_getElem?] at hc
 simp [results, Tryz.results14, go_sem, hc, h0, h1, h2, h3, Result.andThen]
def nmTwin : List ByteArray := [nmT, nmA, nmB]
theorem loose_mk {n i : Int} {texts : List ByteArray} {es R : List Edge} (h : MkEdges (labSet (tauT :: texts)) texts es R) (ht : texts.length ≤ 8) (hnm : ∀ l ∈ texts, l ∈ nmAll) (hlen : es.length ≤ 100) : LooseOk ⟨n, i, labSet (tauT :: texts), R⟩ := by
 refine ⟨?_, fun l hl => ?_, Nat.le_trans h.2.1 (by omega)⟩
 ·have h1 := labSet_len (tauT :: texts)
  show (labSet (tauT :: texts)).length ≤ 10
  rw [List.length_cons] at h1
  omega
 ·refine nm_short l ?_
  rcases List.mem_cons.1 (((labSet_is _).2 l).1 hl) with rfl | hl
  ·rw [tauT_nm]
   exact List.mem_cons_self
  ·exact hnm l hl
theorem nmTwin_all : ∀ l ∈ nmTwin, l ∈ nmAll := by
 intro l hl
 simp only [nmTwin, List.mem_cons, List.not_mem_nil, or_false] at hl
 rcases hl with rfl | rfl | rfl <;> simp [nmAll, nmL]
theorem twin_fin {sb m rb : Nat} {w w5 : World} {lv ev : Value} {d : Lts} (hd : Drew sb m w w5) (hR : Blk w5 rb [.int .i64 0, .int .i64 0, .slice none 0 0, .slice none 0 0] 27) (hrb : w.heap.size ≤ rb) (hsb : sb < w.heap.size) (ho : OwnLts w.heap.size w5 lv ev d) (hl : LooseOk d) {n : Nat} (hm : m ≤ n + 1000) :
  RetLo sb (n + 1000) w (.returned (.agg #[.int .i64 d.states, .int .i64 d.initial, lv, ev])) ((((w5.setCell ⟨rb, 0, none⟩ (.int .i64 d.states)).setCell ⟨rb, 1, none⟩ (.int .i64 d.initial)).setCell ⟨rb, 2, none⟩ lv).setCell ⟨rb, 3, none⟩ ev) :=
 ⟨d, _, _, rfl, (drew_put4 hd hrb hsb).mono hm, ⟨own_put4D hR ho.1 (by decide), own_put4D hR ho.2 (by decide)⟩, hl⟩

set_option maxRecDepth 100000 in
set_option maxHeartbeats 8000000 in
theorem drawTwin_any (sb n : Nat) (w : World) (hs : Src sb n w) (hn : n ≤ 800000000) :
  Calls Tryz.prog 14 #[.pointer (some ⟨sb, 0, none⟩)] w (RetLo sb (n + 1000) w) := by
 obtain ⟨i2, hi2, hx0, hx1, hx2⟩ := info_parts info_edgeD
 have hsb := hs.lt
 obtain ⟨rb, hrb⟩ : ∃ rb, rb = w.heap.size := ⟨_, rfl⟩
 obtain ⟨W, hW⟩ : ∃ W, W = w.alloc (.cells #[.int .i64 0, .int .i64 0, .slice none 0 0, .slice none 0 0] 27) := ⟨_, rfl⟩
 have hD0 : Drew sb n w W := by rw [hW]; exact (Drew.refl hs).alloc _
 have hX0 : Blk W rb [.int .i64 0, .int .i64 0, .slice none 0 0, .slice none 0 0] 27 := by rw [hW, hrb]; exact Blk.new w _ _
 have HON := Lib.hid (one_any sb n 4 W hD0.2 (by omega) (by decide))
 have HD0 := Lib.hid hD0
 have HX0 := Lib.hid hX0
 have HW := Lib.hid hW
 have HRB := Lib.hid hrb
 have hrbl : w.heap.size ≤ rb := by rw [hrb]; exact Nat.le_refl _
 have hrs : rb ≠ sb := by omega
 clear hs hW hD0 hX0 hrb
 go_enter Tryz.func14, Tryz.ntmps14
 go_wp2_with fail
 rw [← HW.out, ← HRB.out]
 refine Calls.mono HON.out ?_
 rintro e w1 ⟨b, rfl, hd1⟩
 have HD1 := Lib.hid (HD0.out.trans hd1)
 have HX1 := Lib.hid (hd1.blk HX0.out hrs)
 have hs1 : w.heap.size ≤ w1.heap.size := HD1.out.size
 clear hd1 HON HD0 HX0
 cases b
 ·have HP1 := Lib.hid (pick_any sb (n + 2) 3 w1 HD1.out.2 (by omega) (by decide))
  go_wp2_with fail
  refine Calls.mono HP1.out ?_
  rintro e w2 ⟨x1, rfl, hx10, -, hx11, hd2⟩
  have hx12 := hx11 (by decide)
  obtain ⟨nn, hnn⟩ : ∃ nn : Nat, (nn : Int) = 1 + x1 := ⟨(1 + x1).toNat, by omega⟩
  have hnn1 : 1 ≤ nn := by omega
  have hnn3 : nn ≤ 3 := by omega
  obtain ⟨W3, hW3⟩ : ∃ W3, W3 = (w2.alloc (.cells #[.string nmT, .string nmA, .string nmB] 9)).alloc (.cells #[] 62) := ⟨_, rfl⟩
  have hb3 : Below w2.heap.size w2 W3 := by rw [hW3]; exact ((Below.refl _ _).alloc (Nat.le_refl _) _).alloc (by simp) _
  have hD2 := HD1.out.trans hd2
  have hs2 : w.heap.size ≤ w2.heap.size := hD2.size
  have HE3 : Hid (DEnv sb (n + 4) rb (.slice none 0 0) (.slice (some ⟨w2.heap.size, 0, none⟩) 3 3) [] nmTwin w W3) := by
   refine ⟨(hD2.below hb3).mono (by omega), hsb, ?_, World.ownsRow_nil _ _ _ _, (hd2.blk HX1.out hrs).below hb3, hrbl⟩
   have h := strs_lit (w := w2) (xs := nmTwin) (cs := #[.string nmT, .string nmA, .string nmB]) rfl (by decide)
   rw [hW3]
   exact (OwnStrs.lower h hs2).alloc _
  have HO3 : Hid (W3.ownsRow w.heap.size 62 3 (.slice (some ⟨w2.heap.size + 1, 0, none⟩) 0 0) 0 []) := by
   have h := edges_litD (w2.alloc (.cells #[.string nmT, .string nmA, .string nmB] 9)) w.heap.size (by simp; omega)
   unfold Hid
   rw [hW3]
   simpa using h
  have HW3 : Hid (W3 = (w2.alloc (.cells #[.string ⟨#[116, 97, 117]⟩, .string ⟨#[97]⟩, .string ⟨#[98]⟩] 9)).alloc (.cells #[] 62)) := hW3
  have HP2 := Lib.hid (pick_any sb (n + 4) 4 W3 HE3.out.drew.2 (by omega) (by decide))
  clear hd2 hb3 hD2 hW3 HP1 HD1 HX1 hx11 hx12
  go_wp2_with fail
  rw [← HW3.out]
  rw [← hnn]
  refine Calls.mono HP2.out ?_
  rintro e w4 ⟨x2, rfl, hx20, -, hx21, hd4⟩
  have hx22 := hx21 (by decide)
  obtain ⟨q0, hq0⟩ : ∃ q0 : Nat, (q0 : Int) = 1 + x2 := ⟨(1 + x2).toNat, by omega⟩
  have hq4 : q0 ≤ 4 := by omega
  have HE4 := Lib.hid (HE3.out.then hd4)
  have HO4 := Lib.hid (hd4.own HO3.out hsb)
  clear hd4 HP2 HE3 HO3 hx21 hx22 HW3 hnn hx10
  go_wp2_with fail
  rw [← hq0]
  clear hq0 hx20
  go_loopw [5, 6] (fun v5 v6 wr => ∃ (q : Nat) (es : List Edge) (p5 : Option Addr) (c5 : Nat), v5 = .slice p5 es.length c5 ∧ v6 = .int .i64 q ∧ q ≤ 4 ∧ es.length + 2 * q ≤ 8 ∧ DEnv sb (n + 6 + 6 * (4 - q)) rb (.slice none 0 0) (.slice (some ⟨w2.heap.size, 0, none⟩) 3 3) [] nmTwin w wr ∧ wr.ownsRow w.heap.size 62 3 (.slice p5 es.length c5) es.length (es.flatMap encE) ∧ ∀ e ∈ es, 0 ≤ e.lab ∧ e.lab < (3 : Int)) (fun _ v6 _ => (intOf v6).toNat)
  case atStart => exact ⟨q0, [], _, _, rfl, rfl, hq4, by simp; omega, HE4.out.mono (by omega), HO4.out, fun e h => by cases h⟩
  case round =>
   clear HE4 HO4
   obtain ⟨q, es, p5, c5, rfl, rfl, hq, hel, henv, ho, hgood⟩ := hrel
   obtain ⟨wD, rfl⟩ : ∃ wD : World, wD = wr := ⟨_, rfl⟩
   have HE := Lib.hid henv
   have HO := Lib.hid ho
   have HG := Lib.hid hgood
   have hszD : w.heap.size ≤ wD.heap.size := henv.drew.size
   clear henv ho hgood
   by_cases hq0 : 0 < q
   ·have HPa := Lib.hid (pick_any sb (n + 6 + 6 * (4 - q)) ((nn : Int) + 1) wD HE.out.drew.2 (by omega) (by omega))
    go_wp2_with fail
    refine Calls.mono HPa.out ?_
    rintro e w5 ⟨fr, rfl, hf0, -, hf1, hd5⟩
    have hf2 := hf1 (by omega)
    have HE5 := Lib.hid (HE.out.then hd5)
    have HO5 := Lib.hid (hd5.own HO.out hsb)
    have HPb := Lib.hid (pick_any sb (n + 6 + 6 * (4 - q) + 2) ((nn : Int) + 1) w5 hd5.2 (by omega) (by omega))
    clear hd5 HPa HE HO hf1
    go_wp2_with fail
    refine Calls.mono HPb.out ?_
    rintro e w6 ⟨tt, rfl, ht0, -, ht1, hd6⟩
    have ht2 := ht1 (by omega)
    have HE6 := Lib.hid (HE5.out.then hd6)
    have HO6 := Lib.hid (hd6.own HO5.out hsb)
    have HPc := Lib.hid (pick_any sb (n + 6 + 6 * (4 - q) + 2 + 2) 3 w6 hd6.2 (by omega) (by decide))
    clear hd6 HPb HE5 HO5 ht1
    go_wp2_with fail
    refine Calls.mono HPc.out ?_
    rintro e w7 ⟨lab, rfl, hb0, -, hb1, hd7⟩
    have hb2 := hb1 (by decide)
    have HE7 := Lib.hid (HE6.out.then hd7)
    have HO7 := Lib.hid (hd7.own HO6.out hsb)
    have hs7 : w.heap.size ≤ w7.heap.size := HE7.out.drew.size
    clear hd7 HPc HE6 HO6 hb1
    go_wp2_with (at_builtin; refine wpList_append_own _ rfl _ _ 25 rfl w.heap.size 62 i2 (.agg #[.int .i64 0, .int .i64 0, .int .i64 0]) 3 24 Tryz.underlying25 hi2 hx0 hx1 hx2 rfl (by decide) _ _ _ rfl (HO7.out.alloc _) ⟨w7.heap.size, 0, none⟩ 1 1 (encE ⟨fr, lab, tt⟩) rfl rfl ?c1 ?c2 ?c3 ?c4 ?c5 ?_)
    case c1 => exact World.news_of_block (cs := #[.int .i64 fr, .int .i64 lab, .int .i64 tt]) (t := 62) (fr := (0, 0)) (heap_alloc_new _ _)
    case c2 => intro u hu; simp [encE] at hu; rcases hu with rfl | rfl | rfl <;> rfl
    case c3 => simp [maxLen]; omega
    case c4 => omega
    case c5 => simp; omega
    intro v8 w8 ho8 hg8 _
    obtain ⟨p8, c8, rfl, -, -⟩ := owns_slice ho8
    have HE8 : Hid (DEnv sb (n + 6 + 6 * (4 - (q - 1))) rb (.slice none 0 0) (.slice (some ⟨w2.heap.size, 0, none⟩) 3 3) [] nmTwin w w8) := ((HE7.out.below ((Below.refl _ _).alloc (Nat.le_refl _) _)).edges (HO7.out.alloc _) hg8).mono (by omega)
    obtain ⟨fs, hfs⟩ : ∃ fs, fs = es ++ [(⟨fr, lab, tt⟩ : Edge)] := ⟨_, rfl⟩
    have hfl : fs.length = es.length + 1 := by rw [hfs]; simp
    have HO8 : Hid (w8.ownsRow w.heap.size 62 3 (.slice p8 (es.length + 1) c8) fs.length (fs.flatMap encE)) := by
     unfold Hid
     rw [hfl, hfs, flat_push]
     exact ho8
    have HG8 : Hid (∀ e ∈ fs, 0 ≤ e.lab ∧ e.lab < (3 : Int)) := fun e he => by
     rw [hfs] at he
     rcases List.mem_append.1 he with he | he
     ·exact HG.out e he
     ·rw [List.mem_singleton] at he; subst he; exact ⟨hb0, hb2⟩
    have hs8 : w.heap.size ≤ w8.heap.size := HE8.out.drew.size
    rw [← hfl] at HO8 ⊢
    have HFL := Lib.hid hfl
    have hf9 : fs.length ≤ 7 := by omega
    clear ho8 hg8 HE7 HO7 HG hfs hfl
    by_cases hfp : (0 : Int) < fr
    ·by_cases htp : (0 : Int) < tt
     ·go_wp2_with (at_builtin; refine wpList_append_own _ rfl _ _ 25 rfl w.heap.size 62 i2 (.agg #[.int .i64 0, .int .i64 0, .int .i64 0]) 3 24 Tryz.underlying25 hi2 hx0 hx1 hx2 rfl (by decide) _ _ _ rfl ((HO8.out.alloc _).alloc _) ⟨w8.heap.size + 1, 0, none⟩ 1 1 (encE ⟨fr + (nn : Int), lab, tt + (nn : Int)⟩) rfl rfl ?c1 ?c2 ?c3 ?c4 ?c5 ?_)
      case c1 =>
       first
        | (simp [encE]; done)
        | (have h := World.news_of_block (w := (w8.alloc (.cells #[.int .i64 (fr + (nn : Int)), .int .i64 lab, .int .i64 (tt + (nn : Int))] 62)).alloc (.cells #[.int .i64 (fr + (nn : Int)), .int .i64 lab, .int .i64 (tt + (nn : Int))] 62)) (cs := #[.int .i64 (fr + (nn : Int)), .int .i64 lab, .int .i64 (tt + (nn : Int))]) (t := 62) (fr := (0, 0)) (heap_alloc_new _ _); simpa [encE] using h)
      case c2 => intro u hu; simp [encE] at hu; rcases hu with rfl | rfl | rfl <;> rfl
      case c3 => simp [maxLen]; omega
      case c4 => omega
      case c5 => first | omega | (simp; omega)
      intro v9 w9 ho9 hg9 _
      obtain ⟨p9, c9, rfl, -, -⟩ := owns_slice ho9
      have HE9 : Hid (DEnv sb (n + 6 + 6 * (4 - (q - 1))) rb (.slice none 0 0) (.slice (some ⟨w2.heap.size, 0, none⟩) 3 3) [] nmTwin w w9) := (HE8.out.below (((Below.refl _ _).alloc (Nat.le_refl _) _).alloc (by simp) _)).edges ((HO8.out.alloc _).alloc _) hg9
      have HO9 : Hid (w9.ownsRow w.heap.size 62 3 (.slice p9 (fs ++ [(⟨fr + (nn : Int), lab, tt + (nn : Int)⟩ : Edge)]).length c9) (fs ++ [(⟨fr + (nn : Int), lab, tt + (nn : Int)⟩ : Edge)]).length ((fs ++ [(⟨fr + (nn : Int), lab, tt + (nn : Int)⟩ : Edge)]).flatMap encE)) := by
       unfold Hid
       rw [List.length_append, flat_push]
       exact ho9
      have HG9 : Hid (∀ e ∈ fs ++ [(⟨fr + (nn : Int), lab, tt + (nn : Int)⟩ : Edge)], 0 ≤ e.lab ∧ e.lab < (3 : Int)) := fun e he => by
       rcases List.mem_append.1 he with he | he
       ·exact HG8.out e he
       ·rw [List.mem_singleton] at he; subst he; exact ⟨hb0, hb2⟩
      have HL9 : Hid ((fs ++ [(⟨fr + (nn : Int), lab, tt + (nn : Int)⟩ : Edge)]).length = fs.length + 1) := by unfold Hid; simp
      clear ho9 hg9 HE8 HO8 HG8
      go_wp2
      go_roundw
      case rel => exact ⟨q - 1, fs ++ [(⟨fr + (nn : Int), lab, tt + (nn : Int)⟩ : Edge)], p9, c9, by rw [HL9.out], by congr 1; omega, by omega, by rw [HL9.out]; have := HFL.out; omega, HE9.out, HO9.out, HG9.out⟩
      case measure => simp [intOf]; omega
     ·go_wp2_with (at_builtin; refine wpList_append_own _ rfl _ _ 25 rfl w.heap.size 62 i2 (.agg #[.int .i64 0, .int .i64 0, .int .i64 0]) 3 24 Tryz.underlying25 hi2 hx0 hx1 hx2 rfl (by decide) _ _ _ rfl ((HO8.out.alloc _).alloc _) ⟨w8.heap.size + 1, 0, none⟩ 1 1 (encE ⟨fr + (nn : Int), lab, tt⟩) rfl rfl ?c1 ?c2 ?c3 ?c4 ?c5 ?_)
      case c1 =>
       first
        | (simp [encE]; done)
        | (have h := World.news_of_block (w := (w8.alloc (.cells #[.int .i64 (fr + (nn : Int)), .int .i64 lab, .int .i64 (tt)] 62)).alloc (.cells #[.int .i64 (fr + (nn : Int)), .int .i64 lab, .int .i64 (tt)] 62)) (cs := #[.int .i64 (fr + (nn : Int)), .int .i64 lab, .int .i64 (tt)]) (t := 62) (fr := (0, 0)) (heap_alloc_new _ _); simpa [encE] using h)
      case c2 => intro u hu; simp [encE] at hu; rcases hu with rfl | rfl | rfl <;> rfl
      case c3 => simp [maxLen]; omega
      case c4 => omega
      case c5 => first | omega | (simp; omega)
      intro v9 w9 ho9 hg9 _
      obtain ⟨p9, c9, rfl, -, -⟩ := owns_slice ho9
      have HE9 : Hid (DEnv sb (n + 6 + 6 * (4 - (q - 1))) rb (.slice none 0 0) (.slice (some ⟨w2.heap.size, 0, none⟩) 3 3) [] nmTwin w w9) := (HE8.out.below (((Below.refl _ _).alloc (Nat.le_refl _) _).alloc (by simp) _)).edges ((HO8.out.alloc _).alloc _) hg9
      have HO9 : Hid (w9.ownsRow w.heap.size 62 3 (.slice p9 (fs ++ [(⟨fr + (nn : Int), lab, tt⟩ : Edge)]).length c9) (fs ++ [(⟨fr + (nn : Int), lab, tt⟩ : Edge)]).length ((fs ++ [(⟨fr + (nn : Int), lab, tt⟩ : Edge)]).flatMap encE)) := by
       unfold Hid
       rw [List.length_append, flat_push]
       exact ho9
      have HG9 : Hid (∀ e ∈ fs ++ [(⟨fr + (nn : Int), lab, tt⟩ : Edge)], 0 ≤ e.lab ∧ e.lab < (3 : Int)) := fun e he => by
       rcases List.mem_append.1 he with he | he
       ·exact HG8.out e he
       ·rw [List.mem_singleton] at he; subst he; exact ⟨hb0, hb2⟩
      have HL9 : Hid ((fs ++ [(⟨fr + (nn : Int), lab, tt⟩ : Edge)]).length = fs.length + 1) := by unfold Hid; simp
      clear ho9 hg9 HE8 HO8 HG8
      go_wp2
      go_roundw
      case rel => exact ⟨q - 1, fs ++ [(⟨fr + (nn : Int), lab, tt⟩ : Edge)], p9, c9, by rw [HL9.out], by congr 1; omega, by omega, by rw [HL9.out]; have := HFL.out; omega, HE9.out, HO9.out, HG9.out⟩
      case measure => simp [intOf]; omega
    ·by_cases htp : (0 : Int) < tt
     ·go_wp2_with (at_builtin; refine wpList_append_own _ rfl _ _ 25 rfl w.heap.size 62 i2 (.agg #[.int .i64 0, .int .i64 0, .int .i64 0]) 3 24 Tryz.underlying25 hi2 hx0 hx1 hx2 rfl (by decide) _ _ _ rfl ((HO8.out.alloc _).alloc _) ⟨w8.heap.size + 1, 0, none⟩ 1 1 (encE ⟨fr, lab, tt + (nn : Int)⟩) rfl rfl ?c1 ?c2 ?c3 ?c4 ?c5 ?_)
      case c1 =>
       first
        | (simp [encE]; done)
        | (have h := World.news_of_block (w := (w8.alloc (.cells #[.int .i64 (fr), .int .i64 lab, .int .i64 (tt + (nn : Int))] 62)).alloc (.cells #[.int .i64 (fr), .int .i64 lab, .int .i64 (tt + (nn : Int))] 62)) (cs := #[.int .i64 (fr), .int .i64 lab, .int .i64 (tt + (nn : Int))]) (t := 62) (fr := (0, 0)) (heap_alloc_new _ _); simpa [encE] using h)
      case c2 => intro u hu; simp [encE] at hu; rcases hu with rfl | rfl | rfl <;> rfl
      case c3 => simp [maxLen]; omega
      case c4 => omega
      case c5 => first | omega | (simp; omega)
      intro v9 w9 ho9 hg9 _
      obtain ⟨p9, c9, rfl, -, -⟩ := owns_slice ho9
      have HE9 : Hid (DEnv sb (n + 6 + 6 * (4 - (q - 1))) rb (.slice none 0 0) (.slice (some ⟨w2.heap.size, 0, none⟩) 3 3) [] nmTwin w w9) := (HE8.out.below (((Below.refl _ _).alloc (Nat.le_refl _) _).alloc (by simp) _)).edges ((HO8.out.alloc _).alloc _) hg9
      have HO9 : Hid (w9.ownsRow w.heap.size 62 3 (.slice p9 (fs ++ [(⟨fr, lab, tt + (nn : Int)⟩ : Edge)]).length c9) (fs ++ [(⟨fr, lab, tt + (nn : Int)⟩ : Edge)]).length ((fs ++ [(⟨fr, lab, tt + (nn : Int)⟩ : Edge)]).flatMap encE)) := by
       unfold Hid
       rw [List.length_append, flat_push]
       exact ho9
      have HG9 : Hid (∀ e ∈ fs ++ [(⟨fr, lab, tt + (nn : Int)⟩ : Edge)], 0 ≤ e.lab ∧ e.lab < (3 : Int)) := fun e he => by
       rcases List.mem_append.1 he with he | he
       ·exact HG8.out e he
       ·rw [List.mem_singleton] at he; subst he; exact ⟨hb0, hb2⟩
      have HL9 : Hid ((fs ++ [(⟨fr, lab, tt + (nn : Int)⟩ : Edge)]).length = fs.length + 1) := by unfold Hid; simp
      clear ho9 hg9 HE8 HO8 HG8
      go_wp2
      go_roundw
      case rel => exact ⟨q - 1, fs ++ [(⟨fr, lab, tt + (nn : Int)⟩ : Edge)], p9, c9, by rw [HL9.out], by congr 1; omega, by omega, by rw [HL9.out]; have := HFL.out; omega, HE9.out, HO9.out, HG9.out⟩
      case measure => simp [intOf]; omega
     ·go_wp2_with (at_builtin; refine wpList_append_own _ rfl _ _ 25 rfl w.heap.size 62 i2 (.agg #[.int .i64 0, .int .i64 0, .int .i64 0]) 3 24 Tryz.underlying25 hi2 hx0 hx1 hx2 rfl (by decide) _ _ _ rfl ((HO8.out.alloc _).alloc _) ⟨w8.heap.size + 1, 0, none⟩ 1 1 (encE ⟨fr, lab, tt⟩) rfl rfl ?c1 ?c2 ?c3 ?c4 ?c5 ?_)
      case c1 =>
       first
        | (simp [encE]; done)
        | (have h := World.news_of_block (w := (w8.alloc (.cells #[.int .i64 (fr), .int .i64 lab, .int .i64 (tt)] 62)).alloc (.cells #[.int .i64 (fr), .int .i64 lab, .int .i64 (tt)] 62)) (cs := #[.int .i64 (fr), .int .i64 lab, .int .i64 (tt)]) (t := 62) (fr := (0, 0)) (heap_alloc_new _ _); simpa [encE] using h)
      case c2 => intro u hu; simp [encE] at hu; rcases hu with rfl | rfl | rfl <;> rfl
      case c3 => simp [maxLen]; omega
      case c4 => omega
      case c5 => first | omega | (simp; omega)
      intro v9 w9 ho9 hg9 _
      obtain ⟨p9, c9, rfl, -, -⟩ := owns_slice ho9
      have HE9 : Hid (DEnv sb (n + 6 + 6 * (4 - (q - 1))) rb (.slice none 0 0) (.slice (some ⟨w2.heap.size, 0, none⟩) 3 3) [] nmTwin w w9) := (HE8.out.below (((Below.refl _ _).alloc (Nat.le_refl _) _).alloc (by simp) _)).edges ((HO8.out.alloc _).alloc _) hg9
      have HO9 : Hid (w9.ownsRow w.heap.size 62 3 (.slice p9 (fs ++ [(⟨fr, lab, tt⟩ : Edge)]).length c9) (fs ++ [(⟨fr, lab, tt⟩ : Edge)]).length ((fs ++ [(⟨fr, lab, tt⟩ : Edge)]).flatMap encE)) := by
       unfold Hid
       rw [List.length_append, flat_push]
       exact ho9
      have HG9 : Hid (∀ e ∈ fs ++ [(⟨fr, lab, tt⟩ : Edge)], 0 ≤ e.lab ∧ e.lab < (3 : Int)) := fun e he => by
       rcases List.mem_append.1 he with he | he
       ·exact HG8.out e he
       ·rw [List.mem_singleton] at he; subst he; exact ⟨hb0, hb2⟩
      have HL9 : Hid ((fs ++ [(⟨fr, lab, tt⟩ : Edge)]).length = fs.length + 1) := by unfold Hid; simp
      clear ho9 hg9 HE8 HO8 HG8
      go_wp2
      go_roundw
      case rel => exact ⟨q - 1, fs ++ [(⟨fr, lab, tt⟩ : Edge)], p9, c9, by rw [HL9.out], by congr 1; omega, by omega, by rw [HL9.out]; have := HFL.out; omega, HE9.out, HO9.out, HG9.out⟩
      case measure => simp [intOf]; omega
   ·obtain rfl : q = 0 := by omega
    have hmkl : ∀ e ∈ es, 0 ≤ e.lab ∧ e.lab < (nmTwin.length : Int) := HG.out
    have HMK := Lib.hid (l11Make_any w.heap.size w.heap.size (2 * (nn : Int) + 1) 0 nmTwin es (.slice (some ⟨w2.heap.size, 0, none⟩) 3 3) (.slice p5 es.length c5) wD (SliceK.of_owns (enc := encS) (e := 9) encS_len rfl (by rw [flat_encS]; exact HE.out.names)) (SliceK.of_owns (e := 62) encE_len rfl HO.out) (by decide) (by omega) hmkl)
    clear hmkl
    go_wp2_with fail
    refine Calls.mono HMK.out ?_
    rintro e wx ⟨hbx, lv9, ev9, R, rfl, hol, hoe, hmk⟩
    obtain ⟨la9, lc9, rfl, -, -⟩ := owns_slice hol
    obtain ⟨ea9, ec9, rfl, -, -⟩ := owns_slice hoe
    obtain ⟨d, hd⟩ : ∃ d : Lts, d = ⟨2 * (nn : Int) + 1, 0, labSet (tauT :: nmTwin), R⟩ := ⟨_, rfl⟩
    have hdo : OwnLts w.heap.size wx (.slice la9 d.labels.length lc9) (.slice ea9 d.edges.length ec9) d := by
     rw [hd]
     exact ⟨own_lower hol hszD, own_lower hoe hszD⟩
    have hdl : LooseOk d := by rw [hd]; exact loose_mk hmk (by decide) nmTwin_all (by omega)
    have hd1 : d.states = 2 * (nn : Int) + 1 := by rw [hd]
    have hd2 : d.initial = 0 := by rw [hd]
    have hd3 : (labSet (tauT :: nmTwin)).length = d.labels.length := by rw [hd]
    have hd4 : R.length = d.edges.length := by rw [hd]
    obtain ⟨tb, htb⟩ : ∃ tb, tb = wx.heap.size := ⟨_, rfl⟩
    obtain ⟨W8, hW8⟩ : ∃ W8, W8 = wx.alloc (.cells #[.int .i64 (2 * (nn : Int) + 1), .int .i64 0, .slice la9 d.labels.length lc9, .slice ea9 d.edges.length ec9] 27) := ⟨_, rfl⟩
    have hb8 : Below wx.heap.size wx W8 := by rw [hW8]; exact (Below.refl _ _).alloc (Nat.le_refl _) _
    have hT8 : Blk W8 tb [.int .i64 (2 * (nn : Int) + 1), .int .i64 0, .slice la9 d.labels.length lc9, .slice ea9 d.edges.length ec9] 27 := by rw [hW8, htb]; exact Blk.new _ _ _
    have hbD : Below wD.heap.size wD W8 := hbx.trans (hb8.mono hbx.size)
    have HE8 := Lib.hid (HE.out.below hbD)
    have HO8 := Lib.hid (hdo.below hb8)
    have HT8 := Lib.hid hT8
    have HDL := Lib.hid hdl
    have HD1 := Lib.hid hd1
    have HD2 := Lib.hid hd2
    have HW8 := Lib.hid hW8
    have HTB := Lib.hid htb
    have hts : tb ≠ sb := by have := hbx.size; have := HE.out.drew.size; omega
    have htl : w.heap.size ≤ tb := by have := hbx.size; have := HE.out.drew.size; omega
    rw [hd3, hd4]
    clear hbx hol hoe hmk hd hdo hdl hd1 hd2 hd3 hd4 htb hW8 hb8 hT8 hbD HMK HE HO HG
    have y0 := HT8.out.cell 0 rfl
    have y1 := HT8.out.cell 1 rfl
    have y2 := HT8.out.cell 2 rfl
    have y3 := HT8.out.cell 3 rfl
    have hs8 : w.heap.size ≤ W8.heap.size := HE8.out.drew.size
    by_cases h6 : (6 : Int) < 2 * (nn : Int) + 1
    ·have HPz := Lib.hid (pick_any sb (n + 6 + 6 * (4 - 0)) 3 W8 HE8.out.drew.2 (by omega) (by decide))
     go_wp2_with fail
     rw [← HW8.out, ← HTB.out]
     refine Calls.mono HPz.out ?_
     rintro e w9 ⟨z, rfl, hz0, -, -, hd9⟩
     have HE9 := Lib.hid (HE8.out.then hd9)
     have HT9 := Lib.hid (hd9.blk HT8.out hts)
     have HO9 : Hid (OwnLts w.heap.size w9 (.slice la9 d.labels.length lc9) (.slice ea9 d.edges.length ec9) d) := ⟨hd9.own HO8.out.1 hsb, hd9.own HO8.out.2 hsb⟩
     have hs9 : w.heap.size ≤ w9.heap.size := HE9.out.drew.size
     clear hd9 HPz HE8 HT8 HO8 y0 y1 y2 y3
     by_cases hz : (0 : Int) < z
     ·obtain ⟨W9, hW9⟩ : ∃ W9, W9 = w9.alloc (.cells #[.int .i64 0, .int .i64 1, .int .i64 1, .int .i64 0, .int .i64 1, .int .i64 2, .int .i64 1, .int .i64 2, .int .i64 2, .int .i64 2, .int .i64 2, .int .i64 1] 62) := ⟨_, rfl⟩
      obtain ⟨four, hfour⟩ : ∃ four : List Edge, four = [⟨0, 1, 1⟩, ⟨0, 1, 2⟩, ⟨1, 2, 2⟩, ⟨2, 2, 1⟩] := ⟨_, rfl⟩
      have hb9 : Below w9.heap.size w9 W9 := by rw [hW9]; exact (Below.refl _ _).alloc (Nat.le_refl _) _
      have h4 : W9.ownsRow w9.heap.size 62 3 (.slice (some ⟨w9.heap.size, 0, none⟩) 4 4) four.length (four.flatMap encE) := by
       rw [hW9, hfour]
       exact World.ownsRow_lit (base := w9.heap.size) (size := 3) w9 #[.int .i64 0, .int .i64 1, .int .i64 1, .int .i64 0, .int .i64 1, .int .i64 2, .int .i64 1, .int .i64 2, .int .i64 2, .int .i64 2, .int .i64 2, .int .i64 1] (e := 62) 4 (Nat.le_refl _) (by simp [maxLen]) rfl
      have h4l : four.length = 4 := by rw [hfour]; rfl
      have h4g : ∀ e ∈ four, 0 ≤ e.lab ∧ e.lab < (nmTwin.length : Int) := by rw [hfour]; decide
      have HE10 := Lib.hid (HE9.out.below hb9)
      have HMK := Lib.hid (l11Make_any w.heap.size w9.heap.size 3 0 nmTwin four (.slice (some ⟨w2.heap.size, 0, none⟩) 3 3) (.slice (some ⟨w9.heap.size, 0, none⟩) 4 4) W9 (SliceK.of_owns (enc := encS) (e := 9) encS_len rfl (by rw [flat_encS]; exact HE10.out.names)) (SliceK.of_owns (e := 62) encE_len rfl h4) (by decide) (by omega) h4g)
      have HW9 := Lib.hid hW9
      have H4L := Lib.hid h4l
      have hs10 : w.heap.size ≤ W9.heap.size := HE10.out.drew.size
      clear hW9 hb9 h4 h4l h4g HE9 HT9 HO9 hfour
      go_wp2_with fail
      rw [← HW9.out]
      refine Calls.mono HMK.out ?_
      rintro e wy ⟨hby, lv7, ev7, R7, rfl, hol, hoe, hmk⟩
      obtain ⟨la7, lc7, rfl, -, -⟩ := owns_slice hol
      obtain ⟨ea7, ec7, rfl, -, -⟩ := owns_slice hoe
      have HEy := Lib.hid (HE10.out.below hby)
      have HOL := Lib.hid (own_lower hol hs10)
      have HOE := Lib.hid (own_lower hoe hs10)
      have HLO : Hid (LooseOk ⟨3, 0, labSet (tauT :: nmTwin), R7⟩) := loose_mk hmk (by decide) nmTwin_all (by rw [H4L.out]; decide)
      have r0 := HEy.out.box.cell 0 rfl
      have r1 := HEy.out.box.cell 1 rfl
      have r2 := HEy.out.box.cell 2 rfl
      have r3 := HEy.out.box.cell 3 rfl
      have s0 := HEy.out.box.frozen 0
      have s1 := HEy.out.box.frozen 1
      have s2 := HEy.out.box.frozen 2
      have s3 := HEy.out.box.frozen 3
      clear hby hol hoe hmk HMK HE10
      go_wp2
      refine bodyPost_ret (twin_results rfl (put4D HEy.out.box)) rfl ?_
      exact twin_fin (d := ⟨3, 0, labSet (tauT :: nmTwin), R7⟩) HEy.out.drew HEy.out.box hrbl hsb ⟨HOL.out, HOE.out⟩ HLO.out (by omega)
     ·have y0 := HT9.out.cell 0 rfl
      have y1 := HT9.out.cell 1 rfl
      have y2 := HT9.out.cell 2 rfl
      have y3 := HT9.out.cell 3 rfl
      have r0 := HE9.out.box.cell 0 rfl
      have r1 := HE9.out.box.cell 1 rfl
      have r2 := HE9.out.box.cell 2 rfl
      have r3 := HE9.out.box.cell 3 rfl
      have s0 := HE9.out.box.frozen 0
      have s1 := HE9.out.box.frozen 1
      have s2 := HE9.out.box.frozen 2
      have s3 := HE9.out.box.frozen 3
      have HF : Hid (RetLo sb (n + 1000) w (.returned (.agg #[.int .i64 (2 * (nn : Int) + 1), .int .i64 0, .slice la9 d.labels.length lc9, .slice ea9 d.edges.length ec9])) ((((w9.setCell ⟨rb, 0, none⟩ (.int .i64 (2 * (nn : Int) + 1))).setCell ⟨rb, 1, none⟩ (.int .i64 0)).setCell ⟨rb, 2, none⟩ (.slice la9 d.labels.length lc9)).setCell ⟨rb, 3, none⟩ (.slice ea9 d.edges.length ec9))) := by
       have h := twin_fin (n := n) HE9.out.drew HE9.out.box hrbl hsb HO9.out HDL.out (by omega)
       rw [HD1.out, HD2.out] at h
       exact h
      clear HO9 HT9
      go_wp2
      refine bodyPost_ret (twin_results rfl (put4D HE9.out.box)) rfl ?_
      exact HF.out
    ·have r0 := HE8.out.box.cell 0 rfl
     have r1 := HE8.out.box.cell 1 rfl
     have r2 := HE8.out.box.cell 2 rfl
     have r3 := HE8.out.box.cell 3 rfl
     have s0 := HE8.out.box.frozen 0
     have s1 := HE8.out.box.frozen 1
     have s2 := HE8.out.box.frozen 2
     have s3 := HE8.out.box.frozen 3
     have HF : Hid (RetLo sb (n + 1000) w (.returned (.agg #[.int .i64 (2 * (nn : Int) + 1), .int .i64 0, .slice la9 d.labels.length lc9, .slice ea9 d.edges.length ec9])) ((((W8.setCell ⟨rb, 0, none⟩ (.int .i64 (2 * (nn : Int) + 1))).setCell ⟨rb, 1, none⟩ (.int .i64 0)).setCell ⟨rb, 2, none⟩ (.slice la9 d.labels.length lc9)).setCell ⟨rb, 3, none⟩ (.slice ea9 d.edges.length ec9))) := by
      have h := twin_fin (n := n) HE8.out.drew HE8.out.box hrbl hsb HO8.out HDL.out (by omega)
      rw [HD1.out, HD2.out] at h
      exact h
     clear HO8
     go_upto_region 20 with fail
     rw [← HW8.out, ← HTB.out]
     go_wp2
     refine bodyPost_ret (twin_results rfl (put4D HE8.out.box)) rfl ?_
     exact HF.out
 ·have HK := Lib.hid (drawK_any sb (n + 2) w1 HD1.out.2 (by omega))
  go_wp2_with fail
  refine Calls.mono HK.out ?_
  rintro e w3 ⟨d, lv3, ev3, rfl, hd3, hown3, hlo⟩
  obtain ⟨la3, lc3, rfl, -, -⟩ := owns_slice hown3.1
  obtain ⟨ea3, ec3, rfl, -, -⟩ := owns_slice hown3.2
  have HD3 := Lib.hid (HD1.out.trans hd3)
  have HX3 := Lib.hid (hd3.blk HX1.out hrs)
  have HO3 := Lib.hid (hown3.lower hs1)
  have HLO := Lib.hid hlo
  have r0 := HX3.out.cell 0 rfl
  have r1 := HX3.out.cell 1 rfl
  have r2 := HX3.out.cell 2 rfl
  have r3 := HX3.out.cell 3 rfl
  have s0 := HX3.out.frozen 0
  have s1 := HX3.out.frozen 1
  have s2 := HX3.out.frozen 2
  have s3 := HX3.out.frozen 3
  clear hd3 hown3 hlo HK HD1 HX1
  go_wp2
  refine bodyPost_ret (twin_results rfl (put4D HX3.out)) rfl ?_
  exact twin_fin HD3.out HX3.out hrbl hsb HO3.out HLO.out (by omega)

end Go.Proofs.YtifoinannefcpaaGreatDoor

namespace Go.Proofs.YtifoinannefcpaaGreatDoor
open Go Go.RowKit


theorem bytes_up {w W : World} {v : Value} {bs : List UInt8} (h : BytesIn w.heap.size w v bs) (hb : Below w.heap.size w W) : BytesIn W.heap.size W v bs := by
 obtain ⟨a, c, e, hl, h0⟩ := h.grown (grown_below hb none) (fun k e => by cases e)
 refine ⟨a, c, e, hl, ?_⟩
 rcases h0 with h0 | ⟨b, o, e1, h1, h2, h3⟩
 ·exact .inl h0
 ·exact .inr ⟨b, o, e1, h2, h2, h3⟩

theorem from_any (cv : Value) (bs : List UInt8) (w : World) (hc : BytesIn w.heap.size w cv bs) :
  Calls Tryz.prog 13 #[cv] w fun e w' => e = .returned (.pointer (some ⟨w.heap.size, 0, none⟩)) ∧ Below w.heap.size w w' ∧ Src w.heap.size 0 w' := by
 obtain ⟨W, hW⟩ : ∃ W, W = w.alloc (.cells #[cv, .int .i64 0, .int .u64 0] 58) := ⟨_, rfl⟩
 have hb : Below w.heap.size w W := by rw [hW]; exact (Below.refl _ _).alloc (Nat.le_refl _) _
 have HS : Hid (Src w.heap.size 0 W) := ⟨cv, bs, 0, 0, hc.grown (grown_below hb none) (fun k e => by cases e), by rw [hW]; exact Blk.new w _ _, Nat.le_refl _, by decide, by decide⟩
 have HB := Lib.hid hb
 have HW := Lib.hid hW
 obtain ⟨a, c, rfl, -, -⟩ := hc
 clear hW hb
 go_enter Tryz.func13, Tryz.ntmps13
 go_wp2
 go_ret
 rw [← HW.out]
 exact ⟨rfl, HB.out, HS.out⟩

theorem b10Long_any (a : Option Addr) (N c : Nat) (w : World) : Calls Tryz.prog 4 #[.slice a N c] w fun e w' => e = .returned (.bool (decide (1048576 < N))) ∧ w = w' := by
 by_cases h : 1048576 < N
 ·have hi : (1048576 : Int) < (N : Int) := by omega
  have HF : Hid (decide (1048576 < N) = true) := decide_eq_true h
  go_enter Tryz.func4, Tryz.ntmps4
  go_wp2
  go_ret
  exact ⟨by rw [HF.out]; rfl, rfl⟩
 ·have hi : ¬ (1048576 : Int) < (N : Int) := by omega
  have HF : Hid (decide (1048576 < N) = false) := decide_eq_false h
  go_enter Tryz.func4, Tryz.ntmps4
  go_wp2
  go_ret
  exact ⟨rfl, rfl⟩

end Go.Proofs.YtifoinannefcpaaGreatDoor

namespace Go.Proofs.YtifoinannefcpaaGreatDoor
open Go Go.RowKit


theorem nm_okH : ∀ l ∈ nmAll, l ≠ tauT → labelOk l.data.toList = true := by
 intro l hl ht
 simp only [nmAll, nmL, List.mem_cons, List.not_mem_nil, or_false] at hl
 rcases hl with rfl | rfl | rfl | rfl | rfl | rfl
 ·exact absurd rfl ht
 ·decide
 ·decide
 ·decide
 ·decide
 ·decide
theorem drawn_validH {M : Nat} {t : Lts} (h : DrawnOk M t) (hM : M ≤ 300) : Valid t where
 st0 := h.st.1
 st1 := by have := h.st.2; omega
 in0 := h.init.1
 in1 := h.init.2
 labels := labelsOk_of h.asc h.tau (by have := h.few; omega) fun l hl ht => nm_okH l (h.names l hl) ht
 most := Nat.le_trans h.most hM
 edge := fun i hi => by
  obtain ⟨h1, h2, h3⟩ := h.edge _ (List.getElem_mem hi)
  exact ⟨h1.1, h1.2, h3.1, h3.2, h2.1, h2.2⟩
 rise := fun i hi => List.pairwise_iff_getElem.1 h.rise i (i + 1) (by omega) hi (by omega)

/-- What B10Twin hands back. -/
def RetTw (w : World) (e : Ending) (w' : World) : Prop :=
 Below w.heap.size w w' ∧ ∃ (t : Lts) (lv ev : Value), e = .returned (.agg #[.int .i64 t.states, .int .i64 t.initial, lv, ev]) ∧ OwnLts w.heap.size w' lv ev t ∧ Valid t ∧ t.states ≤ 6 ∧ ∀ l ∈ t.labels, l.size ≤ 6
theorem drew_belowH {B sb m : Nat} {w w1 w' : World} (h : Below B w w1) (hd : Drew sb m w1 w') (hB : B ≤ w1.heap.size) (hsb : B ≤ sb) : Below B w w' := h.grown hd.1 hB (fun b e => by cases e; exact hsb)
theorem twin10_results {w : World} {b : Nat} {v0 v1 v2 v3 : Value} {tmps : Array Value} (hc : tmps.getD 2 undef = .pointer (some ⟨b, 0, none⟩)) (hb : Blk w b [v0, v1, v2, v3] 27) :
  (results Tryz.f5 tmps).run Tryz.prog w = .ok (.agg #[v0, v1, v2, v3]) w := by
 have h0 := hb.cell 0 rfl
 have h1 := hb.cell 1 rfl
 have h2 := hb.cell 2 rfl
 have h3 := hb.cell 3 rfl
 simp only [Array.getD_eq_getD_getElem?] at hc
 simp [results, Tryz.results5, go_sem, hc, h0, h1, h2, h3, Result.andThen]
theorem tw_fin {rb : Nat} {w w5 : World} {lv ev : Value} {d : Lts} (hb : Below w.heap.size w w5) (hR : Blk w5 rb [.int .i64 0, .int .i64 0, .slice none 0 0, .slice none 0 0] 27) (hrb : w.heap.size ≤ rb) (ho : OwnLts w.heap.size w5 lv ev d) (hv : Valid d) (h6 : d.states ≤ 6) (hs : ∀ l ∈ d.labels, l.size ≤ 6) :
  RetTw w (.returned (.agg #[.int .i64 d.states, .int .i64 d.initial, lv, ev])) ((((w5.setCell ⟨rb, 0, none⟩ (.int .i64 d.states)).setCell ⟨rb, 1, none⟩ (.int .i64 d.initial)).setCell ⟨rb, 2, none⟩ lv).setCell ⟨rb, 3, none⟩ ev) :=
 ⟨(((hb.setCell hrb _).setCell hrb _).setCell hrb _).setCell hrb _, d, _, _, rfl, ⟨own_put4D hR ho.1 (by decide), own_put4D hR ho.2 (by decide)⟩, hv, h6, hs⟩

set_option maxRecDepth 100000 in
set_option maxHeartbeats 4000000 in
theorem b10Twin_any (cv : Value) (bs : List UInt8) (w : World) (hc : BytesIn w.heap.size w cv bs) : Calls Tryz.prog 5 #[cv] w (RetTw w) := by
 obtain ⟨rb, hrb⟩ : ∃ rb, rb = w.heap.size := ⟨_, rfl⟩
 obtain ⟨W, hW⟩ : ∃ W, W = w.alloc (.cells #[.int .i64 0, .int .i64 0, .slice none 0 0, .slice none 0 0] 27) := ⟨_, rfl⟩
 have hb : Below w.heap.size w W := by rw [hW]; exact (Below.refl _ _).alloc (Nat.le_refl _) _
 have hR : Blk W rb [.int .i64 0, .int .i64 0, .slice none 0 0, .slice none 0 0] 27 := by rw [hW, hrb]; exact Blk.new _ _ _
 obtain ⟨sb, hsb⟩ : ∃ sb, sb = W.heap.size := ⟨_, rfl⟩
 have HFR := Lib.hid (from_any cv bs W (bytes_up hc hb))
 rw [← hsb] at HFR
 have HB := Lib.hid hb
 have HR := Lib.hid hR
 have hsW : w.heap.size ≤ W.heap.size := hb.size
 have hrl : w.heap.size ≤ rb := by omega
 have hrW : rb < W.heap.size := hR.lt
 have hrs : rb ≠ sb := by omega
 have HW := Lib.hid hW
 have HRB := Lib.hid hrb
 have HSB := Lib.hid hsb
 obtain ⟨ca, cc, rfl, -⟩ := id hc
 clear hc hR hb hW hrb hsb
 go_enter Tryz.func5, Tryz.ntmps5
 go_wp2_with fail
 rw [← HW.out]
 try rw [← HRB.out]
 refine Calls.mono HFR.out ?_
 rintro e w1 ⟨rfl, hb1, hs1⟩
 have hb1' : Below W.heap.size W w1 := by rw [← HSB.out]; exact hb1
 have HB1 := Lib.hid (HB.out.trans (hb1'.mono hsW))
 have HR1 := Lib.hid (HR.out.below hb1')
 have hsz1 : w.heap.size ≤ w1.heap.size := HB1.out.size
 have hwsb : w.heap.size ≤ sb := by rw [HSB.out]; exact hsW
 have hsl : sb < w1.heap.size := hs1.lt
 have HD1 := Lib.hid (Drew.refl hs1)
 clear hb1 hb1' hs1 HFR HB HR
 go_wp2_with fail
 go_loopw [4] (fun v4 wr => ∃ k : Nat, k ≤ 4 ∧ v4 = .int .i64 k ∧ Drew sb (2000 * k) w1 wr) (fun v4 _ => 4 - (intOf v4).toNat)
 case atStart => exact ⟨0, Nat.zero_le _, rfl, HD1.out⟩
 case round =>
  clear HD1
  obtain ⟨k, hk, rfl, hd⟩ := hrel
  obtain ⟨wC, rfl⟩ : ∃ wC : World, wC = wr := ⟨_, rfl⟩
  have HD := Lib.hid hd
  have hszC : w1.heap.size ≤ wC.heap.size := hd.size
  clear hd
  by_cases hlt : k < 4
  ·have HTW := Lib.hid (drawTwin_any sb (2000 * k) wC HD.out.2 (by omega))
   go_wp2_with fail
   refine Calls.mono HTW.out ?_
   rintro e w2 ⟨t, lv, ev, rfl, hd2, hot, hlo⟩
   obtain ⟨lp, lc, rfl, -, -⟩ := owns_slice hot.1
   obtain ⟨ep, ec, rfl, -, -⟩ := owns_slice hot.2
   obtain ⟨tb, htb⟩ : ∃ tb, tb = w2.heap.size := ⟨_, rfl⟩
   obtain ⟨W3, hW3⟩ : ∃ W3, W3 = w2.alloc (.cells #[.int .i64 t.states, .int .i64 t.initial, .slice lp t.labels.length lc, .slice ep t.edges.length ec] 27) := ⟨_, rfl⟩
   have hb3 : Below w2.heap.size w2 W3 := by rw [hW3]; exact (Below.refl _ _).alloc (Nat.le_refl _) _
   have hT : Blk W3 tb [.int .i64 t.states, .int .i64 t.initial, .slice lp t.labels.length lc, .slice ep t.edges.length ec] 27 := by rw [hW3, htb]; exact Blk.new _ _ _
   have hot3 := hot.below hb3
   have HPT : Hid (LtsPtr wC.heap.size W3 tb t) := ⟨_, _, hT.lt, hT.cell 0 rfl, hT.cell 1 rfl, hT.cell 2 rfl, hT.cell 3 rfl, SliceK.of_owns (enc := encS) (e := 9) encS_len rfl (by rw [flat_encS]; exact hot3.1), SliceK.of_owns (e := 62) encE_len rfl hot3.2⟩
   have HD3 : Hid (Drew sb (2000 * (k + 1)) w1 W3) := ((HD.out.trans hd2).below hb3).mono (by omega)
   have HR3 := Lib.hid (HD3.out.blk HR1.out hrs)
   have HSS := Lib.hid hlo.short
   have hsh : Short t.labels := fun i hi => by have := hlo.short _ (List.getElem_mem hi); omega
   have HSH := Lib.hid hsh
   have HO3 := Lib.hid (hot3.lower (lo' := w.heap.size) (by omega))
   have HT3 := Lib.hid hT
   have HW3 := Lib.hid hW3
   have HTB := Lib.hid htb
   clear hd2 hot hlo htb hW3 hb3 hT hot3 hsh HTW HD
   by_cases hv : Valid t
   ·have HV := Lib.hid hv
    have HIS := Lib.hid (Decides.yes (l11Is_any tb wC.heap.size t W3 HSH.out HPT.out) hv)
    clear hv HPT
    by_cases h6 : t.states ≤ 6
    ·go_wp2_with fail
     rw [← HW3.out, ← HTB.out]
     refine Calls.mono HIS.out ?_
     rintro e w4 ⟨rfl, hb4⟩
     have HD4 := Lib.hid (HD3.out.below hb4)
     have HR4 := Lib.hid (HR3.out.below hb4)
     have HO4 := Lib.hid (HO3.out.below hb4)
     have hT4 := HT3.out.below hb4
     have HB4 := Lib.hid (drew_belowH HB1.out HD4.out hsz1 hwsb)
     have y0 := hT4.cell 0 rfl
     have y1 := hT4.cell 1 rfl
     have y2 := hT4.cell 2 rfl
     have y3 := hT4.cell 3 rfl
     have r0 := HR4.out.cell 0 rfl
     have r1 := HR4.out.cell 1 rfl
     have r2 := HR4.out.cell 2 rfl
     have r3 := HR4.out.cell 3 rfl
     have s0 := HR4.out.frozen 0
     have s1 := HR4.out.frozen 1
     have s2 := HR4.out.frozen 2
     have s3 := HR4.out.frozen 3
     have HF := Lib.hid (tw_fin HB4.out HR4.out hrl HO4.out HV.out h6 HSS.out)
     clear hb4 hT4 HIS HD3 HR3 HO3 HT3 HD4 HO4 HB4
     go_wp2
     refine bodyPost_ret (twin10_results rfl (put4D HR4.out)) rfl ?_
     exact HF.out
    ·have h6' : ¬ t.states ≤ 6 := h6
     go_wp2_with fail
     rw [← HW3.out, ← HTB.out]
     refine Calls.mono HIS.out ?_
     rintro e w4 ⟨rfl, hb4⟩
     have HD4 := Lib.hid (HD3.out.below hb4)
     have hT4 := HT3.out.below hb4
     have y0 := hT4.cell 0 rfl
     clear hb4 hT4 HIS HD3 HR3 HO3 HT3
     go_wp2
     go_roundw
     case rel => exact ⟨k + 1, by omega, by go_num, HD4.out⟩
     case measure => simp [intOf]; omega
   ·have HIS := Lib.hid (Decides.no (l11Is_any tb wC.heap.size t W3 HSH.out HPT.out) hv)
    clear hv HPT
    go_wp2_with fail
    rw [← HW3.out, ← HTB.out]
    refine Calls.mono HIS.out ?_
    rintro e w4 ⟨rfl, hb4⟩
    have HD4 := Lib.hid (HD3.out.below hb4)
    clear hb4 HIS HD3 HR3 HO3 HT3
    go_wp2
    go_roundw
    case rel => exact ⟨k + 1, by omega, by go_num, HD4.out⟩
    case measure => simp [intOf]; omega
  ·have HDO := Lib.hid (drawOk_any sb (2000 * k) wC HD.out.2 (by omega))
   have HRC := Lib.hid (HD.out.blk HR1.out hrs)
   go_wp2_with fail
   refine Calls.mono HDO.out ?_
   rintro e w2 ⟨t, lv, ev, rfl, hd2, hot, hdr⟩
   obtain ⟨lp, lc, rfl, -, -⟩ := owns_slice hot.1
   obtain ⟨ep, ec, rfl, -, -⟩ := owns_slice hot.2
   have HR2 := Lib.hid (hd2.blk HRC.out hrs)
   have HB2 := Lib.hid (drew_belowH HB1.out (HD.out.trans hd2) hsz1 hwsb)
   have r0 := HR2.out.cell 0 rfl
   have r1 := HR2.out.cell 1 rfl
   have r2 := HR2.out.cell 2 rfl
   have r3 := HR2.out.cell 3 rfl
   have s0 := HR2.out.frozen 0
   have s1 := HR2.out.frozen 1
   have s2 := HR2.out.frozen 2
   have s3 := HR2.out.frozen 3
   have HF := Lib.hid (tw_fin HB2.out HR2.out hrl (hot.lower (lo' := w.heap.size) (by omega)) (drawn_validH hdr (by decide)) hdr.st.2 (fun l hl => nm_short l (hdr.names l hl)))
   clear hd2 hot hdr HDO HRC HB2
   go_wp2
   refine bodyPost_ret (twin10_results rfl (put4D HR2.out)) rfl ?_
   exact HF.out

end Go.Proofs.YtifoinannefcpaaGreatDoor

namespace Go.Proofs.YtifoinannefcpaaGreatDoor
open Go Go.RowKit


set_option maxRecDepth 100000 in
set_option maxHeartbeats 2000000 in
theorem b10At_any (lo n : Nat) (k : Int) (a0 : Option Addr) (N c0 : Nat) (bs : List UInt8) (w : World) (hN : N = bs.length) (hc : BytesIn lo w (.slice a0 N c0) bs) (hk : k = 0 ∨ k = 1) (h1 : 1 ≤ n) (h2 : n ≤ 1000000) :
  Calls Tryz.prog 7 #[.slice a0 N c0, .int .i64 k, .int .i64 n] w fun e w' => (∃ r : Nat, e = .returned (.int .i64 r) ∧ r < n) ∧ w = w' := by
 by_cases hn : n ≤ 1
 ·have hn1 : (n : Int) ≤ 1 := by omega
  clear hc hN
  go_enter Tryz.func7, Tryz.ntmps7
  go_wp2
  go_ret
  exact ⟨⟨0, rfl, by omega⟩, rfl⟩
 ·have hn1 : ¬ (n : Int) ≤ 1 := by omega
  obtain ⟨a, c, e, hl, hrow⟩ := hc
  have HFIN : Hid (∀ x : Int, 0 ≤ x → ∃ r : Nat, x % (n : Int) = (r : Int) ∧ r < n) := fun x hx => by
   have h3 := Int.emod_nonneg x (show (n : Int) ≠ 0 by omega)
   have h4 := Int.emod_lt_of_pos x (show (0 : Int) < n by omega)
   exact ⟨(x % (n : Int)).toNat, by omega, by omega⟩
  rw [← hN] at e hl
  simp only [Value.slice.injEq, true_and] at e
  obtain ⟨rfl, rfl⟩ := e
  by_cases hlt : k < (N : Int)
  ·obtain ⟨m, rfl⟩ : ∃ m : Nat, k = (m : Int) := ⟨k.toNat, by omega⟩
   have hm : m < bs.length := by omega
   have hmN : m < N := by omega
   rcases hrow with h0 | ⟨b, o, rfl, -, hbw, hc⟩
   ·omega
   have hca := hc m hm
   obtain ⟨y, hy⟩ : ∃ y, y = bs[m].toNat := ⟨_, rfl⟩
   have hy1 : y < 256 := by rw [hy]; exact bs[m].toNat_lt
   rw [← hy] at hca
   clear hc hy hm hN hk
   go_enter Tryz.func7, Tryz.ntmps7
   go_wp2
   go_ret
   obtain ⟨r, hr, hrn⟩ := HFIN.out (y : Int) (by omega)
   exact ⟨⟨r, by rw [← hr]; rfl, hrn⟩, rfl⟩
  ·clear hrow hN
   rcases hk with rfl | rfl
   ·go_enter Tryz.func7, Tryz.ntmps7
    go_wp2
    go_ret
    obtain ⟨r, hr, hrn⟩ := HFIN.out 11 (by omega)
    exact ⟨⟨r, by rw [← hr]; rfl, hrn⟩, rfl⟩
   ·go_enter Tryz.func7, Tryz.ntmps7
    go_wp2
    go_ret
    obtain ⟨r, hr, hrn⟩ := HFIN.out 48 (by omega)
    exact ⟨⟨r, by rw [← hr]; rfl, hrn⟩, rfl⟩

end Go.Proofs.YtifoinannefcpaaGreatDoor

namespace Go.Proofs.YtifoinannefcpaaGreatDoor
open Go Go.RowKit


set_option maxRecDepth 100000 in
set_option maxHeartbeats 1000000 in
theorem b10Nums_any (lo lo2 : Nat) (v v2 : Value) (xs ys : List Int) (w : World) (hv : SliceK 1 encI lo w v xs) (hv2 : SliceK 1 encI lo2 w v2 ys) : Calls Tryz.prog 8 #[v, v2] w fun e w' => e = .returned (.bool (xs == ys)) ∧ Below w.heap.size w w' := by
 obtain ⟨a, cap, rfl, hn, hcap, hrow⟩ := hv
 obtain ⟨a2, cap2, rfl, hn2, hcap2, hrow2⟩ := hv2
 by_cases hl : xs.length = ys.length
 ·have hl1 : ((xs.length : Int) == (ys.length : Int)) = true := by rw [beq_iff_eq]; omega
  have HL := Lib.hid hl
  rw [← hl] at hn2
  have hl2 : (ys.length : Int) = (xs.length : Int) := by omega
  clear hl
  go_enter Tryz.func8, Tryz.ntmps8
  go_wp2
  clear hl1
  go_loopw [5] (fun i wr => ∃ k : Nat, k ≤ xs.length ∧ i = .int .i64 k ∧ Below w.heap.size w wr ∧ ∀ j (h : j < xs.length) (h2 : j < ys.length), j < k → xs[j] = ys[j]) (fun i _ => xs.length - (intOf i).toNat)
  case atStart => exact ⟨0, Nat.zero_le _, rfl, Below.refl _ _, fun _ _ _ h => by omega⟩
  case round =>
   obtain ⟨k, hk, rfl, hbl, hx⟩ := hrel
   have HX := Lib.hid hx
   have HBL := Lib.hid hbl
   have hsz := hbl.size
   clear hx
   by_cases hlt : k < xs.length
   ·have hlt2 : k < ys.length := by have := HL.out; omega
    obtain ⟨b, o, rfl, -, hb, c⟩ := (hrow.below hbl).one hlt
    obtain ⟨b2, o2, rfl, -, hb2, c2⟩ := (hrow2.below hbl).one hlt2
    simp only [encI, List.getElem?_cons_zero] at c c2
    have s1 := later_cell hb c
    have s2 := later_cell hb2 c2
    clear hrow hrow2 hbl c c2
    cases g : (xs[k] == ys[k])
    ·have HG : Hid ((xs == ys) = false) := by
      unfold Hid
      rw [beq_eq_false_iff_ne] at g ⊢
      intro e
      subst e
      exact g rfl
     go_wp2
     refine wp_region_later (by kernel_rfl) (by kernel_rfl) ?_
     repeat (go_big_quiet_step ((fail)))
     refine wpQuiet_nil ?_
     intro _ hw9
     obtain ⟨nl, hw8⟩ := hw9
     subst hw8
     go_wp2
     go_ret
     exact ⟨ret_bool HG.out.symm, HBL.out.trans (nl.h.mono hsz)⟩
    ·have HG : Hid (xs[k] = ys[k]) := eq_of_beq g
     go_wp2
     refine wp_region_later (by kernel_rfl) (by kernel_rfl) ?_
     repeat (go_big_quiet_step ((fail)))
     refine wpQuiet_nil ?_
     intro _ hw9
     obtain ⟨nl, hw8⟩ := hw9
     subst hw8
     go_wp2
     go_roundw
     case rel => exact ⟨k + 1, by omega, by go_num, HBL.out.trans (nl.h.mono hsz), fun j h h2 h' => by
       by_cases e : j = k
       ·subst e; exact HG.out
       ·exact HX.out j h h2 (by omega)⟩
     case measure => simp [intOf]; omega
   ·clear hrow hrow2 hbl
    go_wp2
    go_ret
    refine ⟨ret_bool ?_, HBL.out⟩
    symm
    rw [beq_iff_eq]
    exact List.ext_getElem HL.out (fun j h1 h2 => HX.out j h1 h2 (by omega))
 ·have hl1 : ((xs.length : Int) == (ys.length : Int)) = false := by rw [beq_eq_false_iff_ne]; omega
  have HG : Hid ((xs == ys) = false) := by
   unfold Hid
   rw [beq_eq_false_iff_ne]
   exact fun e => hl (by rw [e])
  clear hl hrow hrow2
  go_enter Tryz.func8, Tryz.ntmps8
  go_wp2
  go_ret
  exact ⟨ret_bool HG.out.symm, Below.refl _ _⟩

end Go.Proofs.YtifoinannefcpaaGreatDoor
