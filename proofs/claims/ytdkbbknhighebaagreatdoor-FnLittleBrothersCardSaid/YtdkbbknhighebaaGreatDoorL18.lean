/-
  The reference's system of the argument's bytes: it is valid.
  The reference's system of the argument's bytes (R8Lts): it is valid.
-/
import Derived.Test.YtdkbbknhighebaaGreatDoorL17
import Derived.Test.YtdkbbknhighebaaGreatDoorL6
namespace Go.Proofs.YtdkbbknhighebaaGreatDoor
open Go Go.RowKit


theorem nm_okL : ∀ l ∈ nmAll, l ≠ tauT → labelOk l.data.toList = true := by
 intro l hl ht
 simp only [nmAll, nmL, List.mem_cons, List.not_mem_nil, or_false] at hl
 rcases hl with rfl | rfl | rfl | rfl | rfl | rfl
 ·exact absurd rfl ht
 ·decide
 ·decide
 ·decide
 ·decide
 ·decide
theorem drawn_valid {M : Nat} {t : Lts} (h : DrawnOk M t) (hM : M ≤ 300) : Valid t where
 st0 := h.st.1
 st1 := by have := h.st.2; omega
 in0 := h.init.1
 in1 := h.init.2
 labels := labelsOk_of h.asc h.tau (by have := h.few; omega) fun l hl ht => nm_okL l (h.names l hl) ht
 most := Nat.le_trans h.most hM
 edge := fun i hi => by
  obtain ⟨h1, h2, h3⟩ := h.edge _ (List.getElem_mem hi)
  exact ⟨h1.1, h1.2, h3.1, h3.2, h2.1, h2.2⟩
 rise := fun i hi => List.pairwise_iff_getElem.1 h.rise i (i + 1) (by omega) hi (by omega)
theorem drawn_short {M : Nat} {t : Lts} (h : DrawnOk M t) : Short20 t.labels := fun i hi => by
 have := nm_short _ (h.names _ (List.getElem_mem hi))
 omega

def RetL10 (w : World) (e : Ending) (w' : World) : Prop :=
 Below w.heap.size w w' ∧ ∃ (t : Lts) (lv ev : Value), e = .returned (.agg #[.int .i64 t.states, .int .i64 t.initial, lv, ev]) ∧ OwnLts w.heap.size w' lv ev t ∧ Valid t ∧ Short20 t.labels
theorem drew_belowL {B sb m : Nat} {w w1 w' : World} (h : Below B w w1) (hd : Drew sb m w1 w') (hB : B ≤ w1.heap.size) (hsb : B ≤ sb) : Below B w w' := h.grown hd.1 hB (fun b e => by cases e; exact hsb)
end Go.Proofs.YtdkbbknhighebaaGreatDoor

namespace Go.Proofs.YtdkbbknhighebaaGreatDoor
open Go Go.RowKit


theorem r8l_results {w : World} {b : Nat} {v0 v1 v2 v3 : Value} {tmps : Array Value} (hc : tmps.getD 2 undef = .pointer (some ⟨b, 0, none⟩)) (hb : Blk w b [v0, v1, v2, v3] 27) :
  (results Tryz.f5 tmps).run Tryz.prog w = .ok (.agg #[v0, v1, v2, v3]) w := by
 have h0 := hb.cell 0 rfl
 have h1 := hb.cell 1 rfl
 have h2 := hb.cell 2 rfl
 have h3 := hb.cell 3 rfl
 simp only [Array.getD_eq_getD_getElem?] at hc
 simp [results, Tryz.results5, go_sem, hc, h0, h1, h2, h3, Result.andThen]

set_option maxRecDepth 100000 in
set_option maxHeartbeats 2000000 in
theorem r8Lts_any (cv : Value) (bs : List UInt8) (w : World) (hc : BytesIn w.heap.size w cv bs) : Calls Tryz.prog 5 #[cv] w (RetL10 w) := by
 obtain ⟨rb, hrb⟩ : ∃ rb, rb = w.heap.size := ⟨_, rfl⟩
 obtain ⟨W, hW⟩ : ∃ W, W = w.alloc (.cells #[.int .i64 0, .int .i64 0, .slice none 0 0, .slice none 0 0] 27) := ⟨_, rfl⟩
 have hb : Below w.heap.size w W := by rw [hW]; exact (Below.refl _ _).alloc (Nat.le_refl _) _
 have hR : Blk W rb [.int .i64 0, .int .i64 0, .slice none 0 0, .slice none 0 0] 27 := by rw [hW, hrb]; exact Blk.new _ _ _
 obtain ⟨sb, hsb⟩ : ∃ sb, sb = W.heap.size := ⟨_, rfl⟩
 have HFR := Lib.hid (from_any cv bs W (bytes_up hc hb))
 rw [← hsb] at HFR
 have HB := Lib.hid hb
 have HR := Lib.hid hR
 have hsW : w.heap.size ≤ W.heap.size := hb.size
 have hrl : w.heap.size ≤ rb := by omega
 have hrW : rb < W.heap.size := hR.lt
 have hrs : rb ≠ sb := by omega
 have HW := Lib.hid hW
 have HRB := Lib.hid hrb
 have HSB := Lib.hid hsb
 obtain ⟨ca, cc, rfl, -⟩ := id hc
 clear hc hR hb hW hrb hsb
 go_enter Tryz.func5, Tryz.ntmps5
 go_wp2_with fail
 rw [← HW.out]
 try rw [← HRB.out]
 refine Calls.mono HFR.out ?_
 rintro e w1 ⟨rfl, hb1, hs1⟩
 have hb1' : Below W.heap.size W w1 := by rw [← HSB.out]; exact hb1
 have HDM := Lib.hid (draw15_any sb 0 w1 hs1 (by decide))
 have HB1 := Lib.hid (HB.out.trans (hb1'.mono hsW))
 have HR1 := Lib.hid (HR.out.below hb1')
 have hsz1 : w.heap.size ≤ w1.heap.size := HB1.out.size
 have hwsb : w.heap.size ≤ sb := by rw [HSB.out]; exact hsW
 clear hb1 hb1' hs1 HFR HB HR
 go_wp2_with fail
 refine Calls.mono HDM.out ?_
 rintro e w2 ⟨t, lv, ev, rfl, hd2, hom, hdr⟩
 have HB2 := Lib.hid (drew_belowL HB1.out hd2 hsz1 hwsb)
 have HR2 := Lib.hid (hd2.blk HR1.out hrs)
 have HOM := Lib.hid (hom.lower hsz1)
 obtain ⟨mv, mc, rfl, -, -⟩ := owns_slice hom.1
 obtain ⟨me, mf, rfl, -, -⟩ := owns_slice hom.2
 have HV := Lib.hid (drawn_valid hdr (by decide))
 have HSH := Lib.hid (drawn_short hdr)
 clear hd2 hom hdr HDM HB1 HR1
 have r0 := HR2.out.cell 0 rfl
 have r1 := HR2.out.cell 1 rfl
 have r2 := HR2.out.cell 2 rfl
 have r3 := HR2.out.cell 3 rfl
 have s0 := HR2.out.frozen 0
 have s1 := HR2.out.frozen 1
 have s2 := HR2.out.frozen 2
 have s3 := HR2.out.frozen 3
 go_wp2
 refine bodyPost_ret (r8l_results rfl (put4D HR2.out)) rfl ?_
 exact ⟨(((HB2.out.setCell hrl _).setCell hrl _).setCell hrl _).setCell hrl _, t, _, _, rfl, ⟨own_put4D HR2.out HOM.out.1 (by decide), own_put4D HR2.out HOM.out.2 (by decide)⟩, HV.out, HSH.out⟩

end Go.Proofs.YtdkbbknhighebaaGreatDoor
