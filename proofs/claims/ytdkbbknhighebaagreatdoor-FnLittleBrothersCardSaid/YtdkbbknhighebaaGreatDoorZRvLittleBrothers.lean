/-
  The law FnLittleBrothers answers true for all arguments: the least system for simulation and the system that is drawn simulate each other, and the least one has neither little brothers nor two states that are below each other. Condition: the package-level variables that the row lists hold what the program's text lays in them.
-/
import Derived.Test.YtdkbbknhighebaaGreatDoorCards
import Derived.Test.YtdkbbknhighebaaGreatDoorTie
import Derived.Test.YtdkbbknhighebaaGreatDoorL1
import Derived.Test.YtdkbbknhighebaaGreatDoorZLwLittleBrothers
import Derived.Deep.DeepHandedRow
import Derived.Lib.LaidTab
import Derived.Stop.LaidErr
import Derived.Lay
import Derived.Shelf.Vars
import Derived.SevenTiedAt
namespace Go.Proofs.YtdkbbknhighebaaGreatDoor
open Go Go.ChangeShapes Go.WideShapes Go.ChangeAt Go.RowKit


theorem row_own : ownKnob Tryz.prog.godebug = none := by kernel_rfl
theorem row_laidOut : laidOutB Tryz.prog = true := by kernel_rfl
theorem gPow : Tryz.prog.globalNamed "internal/strconv.uint64pow10" = some 5 := by kernel_rfl
theorem tPow : (Tryz.prog.globals[5]?).map (·.type) = some 222 := by kernel_rfl
theorem powData : (Rows.laid_internal_strconv_uint64pow10 : DataW Unit) = Lib.tabData .u64 Lib.pow10Tab := by kernel_rfl

theorem star_err : "*" ++ "errors.errorString" = "*errors.errorString" := by decide
theorem row_err (u : TypeId) (h : Tryz.prog.typeName? 3 u = some "*errors.errorString") : u = 218 :=
 typeName_ptr_named (nm := "errors.errorString") (by rw [star_err]; kernel_rfl) (by kernel_rfl) (by decide) u (by rw [star_err]; exact h)
theorem cellsErr : Tryz.prog.cellsOf 220 = 1 := by kernel_rfl
theorem cellsStr : Tryz.prog.cellsOf 9 = 1 := by kernel_rfl
theorem gSyn : Tryz.prog.globalNamed "strconv.ErrSyntax" = some 1 := by kernel_rfl
theorem gRng : Tryz.prog.globalNamed "strconv.ErrRange" = some 2 := by kernel_rfl
theorem tSyn : (Tryz.prog.globals[1]?).map (·.type) = some 151 := by kernel_rfl
theorem tRng : (Tryz.prog.globals[2]?).map (·.type) = some 151 := by kernel_rfl

/-- What the row's list, and the world's shape, give. -/
theorem glob_of {W : World} (hL : laidMetH Tryz.prog Rows.fnLittleBrothersRow.laid W) (hsh : W.ShapedOpen Tryz.prog) : Glob W := by
 rw [MakeChecks.laidMetH_plain _ _ _ (by kernel_rfl)] at hL
 refine ⟨?_, ?_, ?_, ?_⟩
 ·exact cell_of_shapedOpen_int (zero := #[.int .i64 0]) (t := 3) hsh (of_decide_eq_true (by kernel_rfl)) (by kernel_rfl) rfl (by kernel_rfl) (by kernel_rfl) Tryz.underlying3
 ·obtain ⟨a, s, hv, -, -, -⟩ := laid_sentinel hL.tail.tail.tail.tail.tail gSyn tSyn Tryz.underlying151 row_err Tryz.underlying218 Tryz.underlying220 rfl rfl Tryz.underlying9 cellsErr cellsStr
  exact ⟨_, by simpa using World.var?_cell gSyn hv 0, .inr ⟨_, _, rfl⟩⟩
 ·obtain ⟨a, s, hv, -, -, -⟩ := laid_sentinel hL.tail.tail.tail.tail gRng tRng Tryz.underlying151 row_err Tryz.underlying218 Tryz.underlying220 rfl rfl Tryz.underlying9 cellsErr cellsStr
  exact ⟨_, by simpa using World.var?_cell gRng hv 0, .inr ⟨_, _, rfl⟩⟩
 ·have h2 := hL.tail.tail
  rw [powData] at h2
  exact Lib.tabIs_of_head gPow tPow Tryz.underlying222 Tryz.underlying55 (by kernel_rfl) (by kernel_rfl) h2

set_option maxRecDepth 100000 in
theorem contract (H : Type) (enc : TypeId × Value → H) (W : World) (base : Nat) (args : Array Value) (ds gs : List (DataW H)) (before : List MemPlace)
  (hval : ∀ (j : Nat) t v, Tryz.f3.params[j]? = some t → args[j]? = some v → Value.okWide Tryz.prog W .any base t v)
  (hW : DataW.Whole enc Tryz.prog Tryz.f3.params.toList Rows.fnLittleBrothersSpec.vars false W args.toList ds gs before) (hL : laidMetH Tryz.prog Rows.fnLittleBrothersRow.laid W) (hsh : W.ShapedOpen Tryz.prog) :
  Calls Tryz.prog 3 args W fun e W' => ∃ v, e = .returned v ∧ Rows.fnLittleBrothersSpec.post enc Tryz.prog Tryz.f3 false true false false W args v W' := by
 have hW' := hW
 obtain ⟨p, q, hA0, hV, rfl, hfz, hnd⟩ := hW
 have hA : DataW.TrodAll enc Tryz.prog W 0 (fun _ => true) true Tryz.f3.params.toList args.toList ds p := hA0
 rw [Tryz.params3] at hA hval
 obtain ⟨v0, v1, d0, d1, p0, p1, rfl, rfl, rfl, h0, h1⟩ := trodAll_two hA
 obtain ⟨rfl, rfl⟩ := trodVars_none hV
 obtain ⟨a0, N0, c0, bs0, rfl, hn0, hc0⟩ := open_bytesA (hval 0 22 v0 rfl rfl) h0
 obtain ⟨a1, N1, c1, bs1, rfl, hn1, hc1⟩ := open_bytesA (hval 1 22 v1 rfl rfl) h1
 have g := glob_of hL hsh
 clear hA0 hval hL hsh
 simp only [List.append_nil] at hW'
 have hlt : ∀ x ∈ p0 ++ p1, x.block < W.heap.size := fun x hx => by simpa using hW'.lt x hx
 refine (lawLittleBrothers a0 N0 c0 bs0 a1 N1 c1 bs1 W hn0 hc0 hn1 hc1 g).mono fun e W' ⟨he, hb⟩ => ?_
 subst he
 refine ⟨_, rfl, _, _, _, [], p0 ++ p1, [], hW', ?_, ?_, ?_, hb.frame _, fun h => by cases h⟩
 ·exact trodAll_mk1 (shut_bool Tryz.underlying4 _)
 ·exact trodAll_mk2 (Below.trod row_laidOut (by kernel_rfl) (of_decide_eq_true (by kernel_rfl)) h0 hb (fun x hx => hlt x (List.mem_append.2 (.inl hx)))) (Below.trod row_laidOut (by kernel_rfl) (of_decide_eq_true (by kernel_rfl)) h1 hb (fun x hx => hlt x (List.mem_append.2 (.inr hx))))
 ·rfl

set_option maxRecDepth 100000 in
theorem lifted (os : Os) (started : os.Started) (H : Type) (enc : TypeId × Value → H) :
  ReturnsInHanded {} Tryz.checked os 3 .any (fun w args => (Rows.fnLittleBrothersSpec.pre enc Tryz.prog Tryz.f3 [] false w args ∧ laidMetH Tryz.prog Rows.fnLittleBrothersRow.laid w) ∧ sizedMet enc Tryz.prog Tryz.f3 (OpenSpec.ofChange Rows.fnLittleBrothersSpec) false w args)
   (Rows.fnLittleBrothersSpec.post enc Tryz.prog Tryz.f3 false true false false) := by
 refine returnsInHanded_of_calls row_own started (by kernel_rfl)
  (ChangeSpec.witness_shaped (enc := enc) (C := Tryz.checked) (os := os) (X := fun w _ => laidMetH Tryz.prog Rows.fnLittleBrothersRow.laid w) false (World.laidAll Tryz.prog os Rows.fnLittleBrothersRow.laid) #[.slice none 0 0, .slice none 0 0] 2 (World.laidAll_os _ _ _)
   (World.shaped_of_ZipB (by kernel_rfl) (by kernel_rfl)) (by kernel_rfl) (by kernel_rfl) (by kernel_rfl)
   (by rw [MakeChecks.laidMetH_plain _ _ _ (by kernel_rfl)]; exact laidMet_laidAll _ (by kernel_rfl) (by kernel_rfl))) ?_
 intro w tape i _ hsh _ hok hpre _
 obtain ⟨_, _, _, fn', hfn', _, _, _, _, hval⟩ := hok
 have e : fn' = Tryz.f3 := Option.some.inj (hfn'.symm.trans Tryz.func3)
 subst e
 obtain ⟨⟨⟨ds, gs, before, hw, _⟩, hl⟩, _⟩ := hpre
 have hw' := DataW.Whole.of_heap (w' := w.forCall tape i) (by rfl) hw
 refine (contract H enc (w.forCall tape i) w.heap.size i.args ds gs before hval hw' (hl.of_heap (by rfl)) hsh).mono fun e W' ⟨v, he, hp⟩ => ?_
 subst he
 exact ChangeSpec.post_blind hp

end Go.Proofs.YtdkbbknhighebaaGreatDoor
