/- PeopleNames answers true for any field: where known answers true. -/
import Derived.Test.YtmeijkidjifagaaPnF
namespace Go.Proofs.Ytmeijkidjifagaa
open Go Go.Av
set_option linter.unusedVariables false

def way3 : Ways := { pm := fun _ => true, gm := fun _ => false, conP := fun f a => match f, a with | 5, [] => some (.ret (.bool true)) | _, _ => none, conS := fun _ _ _ => none, fuel := 2000 }
theorem way3_ok (hk : PureFn Try.prog 5 [] (.ret (.bool true))) : WaysRight Try.prog way3 := by
  refine ⟨by kernel_rfl, enters, fun f args out h => ?_, fun f args H out H' h => (by cases h)⟩
  simp only [way3] at h
  split at h
  · cases h; exact hk
  · cases h
theorem names3_run (n : Int) (h : endP Try.prog Try.f3 (runC Try.prog (callN Try.prog way3 40) way3.pm Try.f3.ntmps false way3.fuel (Try.f3.body.getD .skip) ⟨argT 0 [.int .i64 n], [], []⟩) = some (.ret (.bool true))) (hk : PureFn Try.prog 5 [] (.ret (.bool true))) :
    PureFn Try.prog 3 [.int .i64 n] (.ret (.bool true)) := PureFn.run (way3_ok hk) 40 Try.func3 rfl (by simp [Try.ntmps3]) h
theorem names3 (a : Int) (hk : PureFn Try.prog 5 [] (.ret (.bool true))) : PureFn Try.prog 3 [.int .i64 a] (.ret (.bool true)) := by
  by_cases h : a < 0 ∨ 7 < a
  · exact names3_out a h hk
  · have : a = 0 ∨ a = 1 ∨ a = 2 ∨ a = 3 ∨ a = 4 ∨ a = 5 ∨ a = 6 ∨ a = 7 := by omega
    rcases this with rfl | rfl | rfl | rfl | rfl | rfl | rfl | rfl
    · exact names3_run 0 (by kernel_rfl) hk
    · exact names3_run 1 (by kernel_rfl) hk
    · exact names3_run 2 (by kernel_rfl) hk
    · exact names3_run 3 (by kernel_rfl) hk
    · exact names3_run 4 (by kernel_rfl) hk
    · exact names3_run 5 (by kernel_rfl) hk
    · exact names3_run 6 (by kernel_rfl) hk
    · exact names3_run 7 (by kernel_rfl) hk
end Go.Proofs.Ytmeijkidjifagaa
