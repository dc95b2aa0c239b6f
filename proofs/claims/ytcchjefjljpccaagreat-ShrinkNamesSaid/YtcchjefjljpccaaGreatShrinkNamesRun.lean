/- The evaluator takes the law 'ShrinkNames' for true: one run by Lean's kernel. -/
import Derived.Test.YtcchjefjljpccaaGreatEvFast
import Derived.KernelRfl
import Derived.Test.YtcchjefjljpccaaGreatProg
namespace Go.Proofs.YtcchjefjljpccaaGreat.lawShrinkNames
theorem run : Go.Ev.evTrue Tryz.prog 1000000 4 = true := by kernel_rfl
end Go.Proofs.YtcchjefjljpccaaGreat.lawShrinkNames
