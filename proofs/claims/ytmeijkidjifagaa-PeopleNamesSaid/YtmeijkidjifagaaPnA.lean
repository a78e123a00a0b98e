/- What slices.Clone hands back for a slice of no elements: at that slice. -/
import Derived.Test.YtmeijkidjifagaaRows
import Derived.WalkKit
import Derived.Test.YtmeijkidjifagaaAvS
namespace Go.Proofs.Ytmeijkidjifagaa
open Go Go.Av
set_option linter.unusedVariables false

theorem nk25 : nilKind Try.prog 25 = 1 := by kernel_rfl
theorem ul25 : Try.prog.underlying 25 = some (.slice 9) := Try.underlying25
theorem ap9 : apT Try.prog 9 = some (1, 0, 16) := by kernel_rfl
theorem enters : Enters Try.prog := by
  have h : ∀ i, i < Try.prog.funcs.size → (match Try.prog.funcs[i]? with | some fn => !(fn.name == "runtime.NumGoroutine") | none => true) = true := by
    have : (List.range Try.prog.funcs.size).all (fun i => match Try.prog.funcs[i]? with | some fn => !(fn.name == "runtime.NumGoroutine") | none => true) = true := by kernel_rfl
    intro i hi
    exact List.all_eq_true.1 this i (List.mem_range.2 hi)
  intro f fn hf
  have hlt := (Array.getElem?_eq_some_iff.1 hf).1
  have := h f hlt
  rw [hf] at this
  simpa using this

theorem bs25 : evBuildSlice Try.prog 25 0 [] = some (.vsl 0 true []) := by kernel_rfl
theorem ap25 (x : Bool) : evAppend Try.prog 25 25 (.vsl 0 true []) (.vsl 0 x []) [] = some (.vsl 0 true [], []) := by
  have : apT Try.prog 9 = some (1, 0, 16) := ap9
  simp [evAppend, ul25, this, newsA, esz]

theorem clone21 (x : Bool) : PureFn Try.prog 21 [.vsl 0 x []] (.ret (.vsl 0 true [])) := by
  refine PureFn.of Try.func21 rfl (enters_call enters Try.func21 rfl) (by simp [Try.ntmps21]) ?_
  show W Try.prog 8 0 none _ _ _
  refine .seq (.region [] (by decide) ?_)
  simp only [EOps, gdA, callOf, isPanic, altA, evalOp, St.ev, Av.get, St.put, argT, ofV, thenQ, and_self, if_true, Nat.reduceEqDiff, ↓reduceIte, nk25, decide_true, Option.map_some, List.map_cons, List.map_nil, bs25, ap25]
  refine .seq (.seq (.region [] (by decide) ?_))
  simp only [EOps, gdA, callOf, isPanic, altA, evalOp, St.ev, Av.get, St.put, argT, ofV, thenQ, and_self, if_true, Nat.reduceEqDiff, ↓reduceIte, nk25, decide_true, Option.map_some, List.map_cons, List.map_nil, bs25, ap25]
  intro b
  refine .cond (t := b) rfl ?_
  have hr : ∀ T, retQ Try.prog Try.f21.results.toList (Out.ret (AV.vsl 0 true [])) .ret ⟨(2, .vsl 0 true []) :: T, [], []⟩ := by
    intro T
    exact ⟨_, rfl, _, rfl, .refl _⟩
  cases b with
  | true =>
    refine .seq (.region [] (by decide) ?_)
    simp only [EOps, gdA, callOf, isPanic, altA, evalOp, St.ev, Av.get, St.put, argT, ofV, thenQ, and_self, if_true, Nat.reduceEqDiff, ↓reduceIte, nk25, decide_true, Option.map_some, List.map_cons, List.map_nil, bs25, ap25]
    exact .ret (hr _)
  | false =>
    refine .skip ?_
    simp only [EOps, gdA, callOf, isPanic, altA, evalOp, St.ev, Av.get, St.put, argT, ofV, thenQ, and_self, if_true, Nat.reduceEqDiff, ↓reduceIte, nk25, decide_true, Option.map_some, List.map_cons, List.map_nil, bs25, ap25]
    refine .seq (.region [] (by decide) ?_)
    simp only [EOps, gdA, callOf, isPanic, altA, evalOp, St.ev, Av.get, St.put, argT, ofV, thenQ, and_self, if_true, Nat.reduceEqDiff, ↓reduceIte, nk25, decide_true, Option.map_some, List.map_cons, List.map_nil, bs25, ap25]
    exact .ret (hr _)
end Go.Proofs.Ytmeijkidjifagaa
