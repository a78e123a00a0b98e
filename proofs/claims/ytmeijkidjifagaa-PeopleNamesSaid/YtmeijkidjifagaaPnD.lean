/- The three keys cn, sn, x sorted, from any order; what is known of two functions: at these arguments. -/
import Derived.Test.YtmeijkidjifagaaPnC
namespace Go.Proofs.Ytmeijkidjifagaa
open Go Go.Av
set_option linter.unusedVariables false

theorem perm2 {α : Type} {p : List α} {a b : α} (h : p.Perm [a, b]) : p = [a, b] ∨ p = [b, a] := by
  cases p with
  | nil => exact (by simpa using h.length_eq : False).elim
  | cons x p =>
    have hx : x ∈ [a, b] := h.mem_iff.1 (by simp)
    simp at hx
    rcases hx with rfl | rfl
    · have := List.perm_singleton.1 h.cons_inv; subst this; exact .inl rfl
    · have := List.perm_singleton.1 (h.trans (List.Perm.swap x a [])).cons_inv; subst this; exact .inr rfl

theorem perm3 {α : Type} {p : List α} {a b c : α} (h : p.Perm [a, b, c]) : p = [a, b, c] ∨ p = [a, c, b] ∨ p = [b, a, c] ∨ p = [b, c, a] ∨ p = [c, a, b] ∨ p = [c, b, a] := by
  cases p with
  | nil => exact (by simpa using h.length_eq : False).elim
  | cons x p =>
    have hx : x ∈ [a, b, c] := h.mem_iff.1 (by simp)
    simp at hx
    rcases hx with rfl | rfl | rfl
    · rcases perm2 h.cons_inv with rfl | rfl
      · exact .inl rfl
      · exact .inr (.inl rfl)
    · rcases perm2 (h.trans (List.Perm.swap x a [c])).cons_inv with rfl | rfl
      · exact .inr (.inr (.inl rfl))
      · exact .inr (.inr (.inr (.inl rfl)))
    · have h3 : [a, b, x].Perm [x, a, b] := ((List.Perm.swap x b []).cons a).trans (List.Perm.swap x a [b])
      rcases perm2 (h.trans h3).cons_inv with rfl | rfl
      · exact .inr (.inr (.inr (.inr (.inl rfl))))
      · exact .inr (.inr (.inr (.inr (.inr rfl))))

def wayS : Ways := { pm := fun f => !([74,76,78,79,80,82,83,85,86,89].contains f), gm := fun _ => false, conP := fun _ _ => none, conS := fun _ _ _ => none, fuel := 2000 }
theorem wayS_ok : WaysRight Try.prog wayS := ⟨by kernel_rfl, enters, fun f args out h => (by cases h), fun f args H out H' h => (by cases h)⟩

theorem sort_run (p : List AV) (h : callN Try.prog wayS 40 (.fn 74) [.sl 0 0 3 0] [.cells p true] = some (.ret (.tup []), [.cells [.str [99, 110], .str [115, 110], .str [120]] true])) :
    ShFn Try.prog 74 [.sl 0 0 3 0] [.cells p true] (.ret (.tup [])) [.cells [.str [99, 110], .str [115, 110], .str [120]] true] := (callN_ok wayS_ok 40).1 (.fn 74) _ _ _ _ h

theorem sort3 (p : List AV) (h : p.Perm [.str [99, 110], .str [115, 110], .str [120]]) : ShFn Try.prog 74 [.sl 0 0 p.length 0] [.cells p true] (.ret (.tup [])) [.cells [.str [99, 110], .str [115, 110], .str [120]] true] := by
  rcases perm3 h with rfl | rfl | rfl | rfl | rfl | rfl
  · exact sort_run _ (by kernel_rfl)
  · exact sort_run _ (by kernel_rfl)
  · exact sort_run _ (by kernel_rfl)
  · exact sort_run _ (by kernel_rfl)
  · exact sort_run _ (by kernel_rfl)
  · exact sort_run _ (by kernel_rfl)

theorem sorted3 (u v w : AV) : PureFn Try.prog 69 [.func (.func 70) [] [.vptr [.vmap [.str [99, 110], .str [115, 110], .str [120]] [u, v, w]]]] (.ret (.vsl 0 false [.str [99, 110], .str [115, 110], .str [120]])) :=
  sorted69 [[99, 110], [115, 110], [120]] [u, v, w] [[99, 110], [115, 110], [120]] rfl (by decide) (by decide) rfl sort3

def conP (f : FuncId) (a : List AV) : Option Out :=
  match f, a with
    | 21, [.vsl 0 _ []] => some (.ret (.vsl 0 true []))
    | 69, [.func (.func 70) [] [.vptr [.vmap [.str [99, 110], .str [115, 110], .str [120]] [_, _, _]]]] => some (.ret (.vsl 0 false [.str [99, 110], .str [115, 110], .str [120]]))
    | _, _ => none
def ways : Ways := { pm := fun f => !([35, 51, 71, 70, 39, 59, 46, 42, 43, 44, 47].contains f), gm := fun f => f == 47, conP := conP, conS := fun _ _ _ => none, fuel := 2000 }

theorem ways_ok : WaysRight Try.prog ways := by
  refine ⟨by kernel_rfl, enters, fun f args out h => ?_, fun f args H out H' h => (by cases h)⟩
  simp only [ways, conP] at h
  split at h
  · cases h; exact clone21 _
  · cases h; exact sorted3 _ _ _
  · cases h
end Go.Proofs.Ytmeijkidjifagaa
