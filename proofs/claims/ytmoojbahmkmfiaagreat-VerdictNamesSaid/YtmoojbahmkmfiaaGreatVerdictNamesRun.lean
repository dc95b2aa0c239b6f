/- The evaluator takes the law 'VerdictNames' for true: one run by Lean's kernel. -/
import Derived.Test.YtmoojbahmkmfiaaGreatEcFast
import Derived.KernelRfl
import Derived.Test.YtmoojbahmkmfiaaGreatProg
namespace Go.Proofs.YtmoojbahmkmfiaaGreat.lawVerdictNames
set_option maxRecDepth 100000 in
theorem run : Go.Ec.evTrue Tryz.prog (fun _ _ _ _ => none) 1000000 6 = true := by kernel_rfl
end Go.Proofs.YtmoojbahmkmfiaaGreat.lawVerdictNames
