/- What must come at any rate, evaluated. -/
import Derived.Test.YtkdjhegkcfmkoaaGreatMb
import Derived.KernelRfl
namespace Go.Proofs.YtkdjhegkcfmkoaaGreat.AM
open Go.AM
set_option maxRecDepth 100000
set_option maxHeartbeats 0
theorem awakeRuns : callF 100000 5 [] H.none (fun v _ => AV.onBool v id) = true := by kernel_rfl
end Go.Proofs.YtkdjhegkcfmkoaaGreat.AM
