/-
  The law FnExactWeakFormula: for all arguments WeakFormula of the program returns what WeakFormula of the reference returns, the arguments are unmodified, and what comes back is shared with nothing. Condition: the package-level variables that the row lists hold what the program's text lays in them.
-/
import Derived.Test.YtjoacldbgnphkaaGreatDoorCards
import Derived.Test.YtjoacldbgnphkaaGreatDoorTie
import Derived.Test.YtjoacldbgnphkaaGreatDoorE1
import Derived.Test.YtjoacldbgnphkaaGreatDoorZLwWeakFormula
import Derived.Deep.DeepHandedRow
import Derived.Lib.LaidTab
import Derived.Stop.LaidErr
import Derived.Lay
import Derived.Shelf.Vars
import Derived.SevenTiedAt
namespace Go.Proofs.YtjoacldbgnphkaaGreatDoor
open Go Go.ChangeShapes Go.WideShapes Go.ChangeAt Go.RowKit


theorem row_own : ownKnob Tryz.prog.godebug = none := by kernel_rfl
theorem row_laidOut : laidOutB Tryz.prog = true := by kernel_rfl
theorem gPow : Tryz.prog.globalNamed "internal/strconv.uint64pow10" = some 5 := by kernel_rfl
theorem tPow : (Tryz.prog.globals[5]?).map (·.type) = some 225 := by kernel_rfl
theorem powData : (Rows.laid_internal_strconv_uint64pow10 : DataW Unit) = Lib.tabData .u64 Lib.pow10Tab := by kernel_rfl

theorem star_err : "*" ++ "errors.errorString" = "*errors.errorString" := by decide
theorem row_err (u : TypeId) (h : Tryz.prog.typeName? 3 u = some "*errors.errorString") : u = 221 :=
 typeName_ptr_named (nm := "errors.errorString") (by rw [star_err]; kernel_rfl) (by kernel_rfl) (by decide) u (by rw [star_err]; exact h)
theorem cellsErr : Tryz.prog.cellsOf 223 = 1 := by kernel_rfl
theorem cellsStr : Tryz.prog.cellsOf 9 = 1 := by kernel_rfl
theorem gSyn : Tryz.prog.globalNamed "strconv.ErrSyntax" = some 1 := by kernel_rfl
theorem gRng : Tryz.prog.globalNamed "strconv.ErrRange" = some 2 := by kernel_rfl
theorem tSyn : (Tryz.prog.globals[1]?).map (·.type) = some 173 := by kernel_rfl
theorem tRng : (Tryz.prog.globals[2]?).map (·.type) = some 173 := by kernel_rfl

/-- What the row's list, and the world's shape, give. -/
theorem glob_of {W : World} (hL : laidMetH Tryz.prog Rows.fnExactWeakFormulaRow.laid W) (hsh : W.ShapedOpen Tryz.prog) : Glob W := by
 rw [MakeChecks.laidMetH_plain _ _ _ (by kernel_rfl)] at hL
 refine ⟨?_, ?_, ?_, ?_⟩
 ·exact cell_of_shapedOpen_int (zero := #[.int .i64 0]) (t := 3) hsh (of_decide_eq_true (by kernel_rfl)) (by kernel_rfl) rfl (by kernel_rfl) (by kernel_rfl) Tryz.underlying3
 ·obtain ⟨a, s, hv, -, -, -⟩ := laid_sentinel hL.tail.tail.tail.tail.tail gSyn tSyn Tryz.underlying173 row_err Tryz.underlying221 Tryz.underlying223 rfl rfl Tryz.underlying9 cellsErr cellsStr
  exact ⟨_, by simpa using World.var?_cell gSyn hv 0, .inr ⟨_, _, rfl⟩⟩
 ·obtain ⟨a, s, hv, -, -, -⟩ := laid_sentinel hL.tail.tail.tail.tail gRng tRng Tryz.underlying173 row_err Tryz.underlying221 Tryz.underlying223 rfl rfl Tryz.underlying9 cellsErr cellsStr
  exact ⟨_, by simpa using World.var?_cell gRng hv 0, .inr ⟨_, _, rfl⟩⟩
 ·have h2 := hL.tail.tail
  rw [powData] at h2
  exact Lib.tabIs_of_head gPow tPow Tryz.underlying225 Tryz.underlying155 (by kernel_rfl) (by kernel_rfl) h2

theorem cells25 : Tryz.prog.cellsOf 25 = 4 := by kernel_rfl
theorem cellsI : Tryz.prog.cellsOf 2 = 1 := by kernel_rfl
theorem cellsSS : Tryz.prog.cellsOf 22 = 1 := by kernel_rfl
theorem cellsS : Tryz.prog.cellsOf 9 = 1 := by kernel_rfl
theorem cellsES : Tryz.prog.cellsOf 23 = 1 := by kernel_rfl
theorem cellsE : Tryz.prog.cellsOf 74 = 3 := by kernel_rfl

set_option maxRecDepth 100000 in
/-- An argument, opened. -/
theorem open_lts {H : Type} {enc : TypeId × Value → H} {W : World} {v : Value} {d : DataW H} {ps : List MemPlace} {base : Nat} (hval : Value.okWide Tryz.prog W .any base 25 v) (h : DataW.Trod enc Tryz.prog W 0 (fun _ => true) true 25 v d ps) :
  ∃ (t : Lts) (lv ev : Value), v = .agg #[.int .i64 t.states, .int .i64 t.initial, lv, ev] ∧ SliceK 1 encS 0 W lv t.labels ∧ SliceK 3 encE 0 W ev t.edges ∧ StrsOk t.labels := by
 obtain ⟨cs, rfl, hcs⟩ := okWide_struct Tryz.underlying25 hval
 obtain ⟨fuel, hf⟩ := h
 obtain ⟨y0, y1, y2, y3, n, hl, g0, g1, g2, g3⟩ := trod_struct4 Tryz.underlying25 hf
 obtain ⟨n0, e0, -, -⟩ := DataW.trod_int Tryz.underlying2 g0
 obtain ⟨n1, e1, -, -⟩ := DataW.trod_int Tryz.underlying2 g1
 obtain ⟨lv, ss, e2, hs, hss⟩ := strs_slice Tryz.underlying22 Tryz.underlying9 cellsS g2
 obtain ⟨ev, es, e3, hes⟩ := edges_slice Tryz.underlying23 Tryz.underlying74 Tryz.underlying2 cellsE cellsI rfl rfl rfl rfl rfl rfl g3
 rw [cellsI] at e0 e1
 rw [cellsSS] at e2
 rw [cellsES] at e3
 rw [cells25] at hcs
 obtain ⟨l⟩ := cs
 simp only [Value.cells] at e0 e1 e2 e3
 match l, hcs, e0, e1, e2, e3 with
 | [c0, c1, c2, c3], _, e0, e1, e2, e3 =>
  simp at e0 e1 e2 e3
  subst e0 e1 e2 e3
  exact ⟨⟨n0, n1, ss, es⟩, _, _, rfl, hs, hes, hss⟩

set_option maxRecDepth 100000 in
theorem contract (H : Type) (enc : TypeId × Value → H) (W : World) (base : Nat) (args : Array Value) (ds gs : List (DataW H)) (before : List MemPlace)
  (hval : ∀ (j : Nat) t v, Tryz.f4.params[j]? = some t → args[j]? = some v → Value.okWide Tryz.prog W .any base t v)
  (hW : DataW.Whole enc Tryz.prog Tryz.f4.params.toList Rows.fnExactWeakFormulaSpec.vars false W args.toList ds gs before) (hL : laidMetH Tryz.prog Rows.fnExactWeakFormulaRow.laid W) (hsh : W.ShapedOpen Tryz.prog) :
  Calls Tryz.prog 4 args W fun e W' => ∃ v, e = .returned v ∧ Rows.fnExactWeakFormulaSpec.post enc Tryz.prog Tryz.f4 false true false false W args v W' := by
 have hW' := hW
 obtain ⟨p, q, hA0, hV, rfl, hfz, hnd⟩ := hW
 have hA : DataW.TrodAll enc Tryz.prog W 0 (fun _ => true) true Tryz.f4.params.toList args.toList ds p := hA0
 rw [Tryz.params4] at hA hval
 obtain ⟨v0, v1, v2, d0, d1, d2, p0, p1, p2, rfl, rfl, rfl, h0, h1, h2⟩ := trodAll_three hA
 obtain ⟨rfl, rfl⟩ := trodVars_none hV
 obtain ⟨t0, lv0, ev0, rfl, hs0, hq0, hst0⟩ := open_lts (hval 0 25 v0 rfl rfl) h0
 obtain ⟨n1, rfl, -⟩ := open_int Tryz.underlying2 (hval 1 2 v1 rfl rfl) h1
 obtain ⟨n2, rfl, -⟩ := open_int Tryz.underlying2 (hval 2 2 v2 rfl rfl) h2
 have g := glob_of hL hsh
 clear hA0 hval hL hsh
 simp only [List.append_nil] at hW'
 have hlt : ∀ x ∈ p0 ++ p1 ++ p2, x.block < W.heap.size := fun x hx => by simpa using hW'.lt x hx
 refine (lawWeakFormula 0 t0 lv0 ev0 n1 n2 W hs0 hq0 hst0 g).mono fun e W' ⟨he, hb⟩ => ?_
 subst he
 refine ⟨_, rfl, _, _, _, [], p0 ++ p1 ++ p2, [], hW', ?_, ?_, ?_, hb.frame _, fun h => by cases h⟩
 ·exact trodAll_mk1 (shut_bool Tryz.underlying4 _)
 ·rw [List.append_assoc p0 p1 p2]
  exact trodAll_mk3 (Below.trod row_laidOut (by kernel_rfl) (of_decide_eq_true (by kernel_rfl)) h0 hb (fun x hx => hlt x (by simp [hx]))) (Below.trod row_laidOut (by kernel_rfl) (of_decide_eq_true (by kernel_rfl)) h1 hb (fun x hx => hlt x (by simp [hx]))) (Below.trod row_laidOut (by kernel_rfl) (of_decide_eq_true (by kernel_rfl)) h2 hb (fun x hx => hlt x (by simp [hx])))
 ·rfl

set_option maxRecDepth 100000 in
theorem lifted (os : Os) (started : os.Started) (H : Type) (enc : TypeId × Value → H) :
  ReturnsInHanded {} Tryz.checked os 4 .any (fun w args => (Rows.fnExactWeakFormulaSpec.pre enc Tryz.prog Tryz.f4 [] false w args ∧ laidMetH Tryz.prog Rows.fnExactWeakFormulaRow.laid w) ∧ sizedMet enc Tryz.prog Tryz.f4 (OpenSpec.ofChange Rows.fnExactWeakFormulaSpec) false w args)
   (Rows.fnExactWeakFormulaSpec.post enc Tryz.prog Tryz.f4 false true false false) := by
 refine returnsInHanded_of_calls row_own started (by kernel_rfl)
  (ChangeSpec.witness_shaped (enc := enc) (C := Tryz.checked) (os := os) (X := fun w _ => laidMetH Tryz.prog Rows.fnExactWeakFormulaRow.laid w) false (World.laidAll Tryz.prog os Rows.fnExactWeakFormulaRow.laid) #[.agg #[.int .i64 0, .int .i64 0, .slice none 0 0, .slice none 0 0], .int .i64 0, .int .i64 0] 6 (World.laidAll_os _ _ _)
   (World.shaped_of_ZipB (by kernel_rfl) (by kernel_rfl)) (by kernel_rfl) (by kernel_rfl) (by kernel_rfl)
   (by rw [MakeChecks.laidMetH_plain _ _ _ (by kernel_rfl)]; exact laidMet_laidAll _ (by kernel_rfl) (by kernel_rfl))) ?_
 intro w tape i _ hsh _ hok hpre _
 obtain ⟨_, _, _, fn', hfn', _, _, _, _, hval⟩ := hok
 have e : fn' = Tryz.f4 := Option.some.inj (hfn'.symm.trans Tryz.func4)
 subst e
 obtain ⟨⟨⟨ds, gs, before, hw, _⟩, hl⟩, _⟩ := hpre
 have hw' := DataW.Whole.of_heap (w' := w.forCall tape i) (by rfl) hw
 refine (contract H enc (w.forCall tape i) w.heap.size i.args ds gs before hval hw' (hl.of_heap (by rfl)) hsh).mono fun e W' ⟨v, he, hp⟩ => ?_
 subst he
 exact ChangeSpec.post_blind hp

end Go.Proofs.YtjoacldbgnphkaaGreatDoor
