/- known answers true: no condition. -/
import Derived.Test.YtmeijkidjifagaaPnD
namespace Go.Proofs.Ytmeijkidjifagaa
open Go Go.Av
theorem known5_run : endP Try.prog Try.f5 (runC Try.prog (callN Try.prog ways 40) ways.pm Try.f5.ntmps false ways.fuel (Try.f5.body.getD .skip) ⟨argT 0 [], [], []⟩) = some (.ret (.bool true)) := by kernel_rfl
theorem known5 : PureFn Try.prog 5 [] (.ret (.bool true)) := PureFn.run ways_ok 40 Try.func5 rfl (by simp) known5_run
end Go.Proofs.Ytmeijkidjifagaa
