/- The evaluator takes the law 'PushNames' for true: one run by Lean's kernel. -/
import Derived.Test.YtmoojbahmkmfiaaGreatEvFast
import Derived.KernelRfl
import Derived.Test.YtmoojbahmkmfiaaGreatProg
namespace Go.Proofs.YtmoojbahmkmfiaaGreat.lawPushNames
theorem run : Go.Ev.evTrue Tryz.prog 1000000 3 = true := by kernel_rfl
end Go.Proofs.YtmoojbahmkmfiaaGreat.lawPushNames
