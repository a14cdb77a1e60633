/- Seat ZD: loggialaw29.awake's run. -/
import Derived.Test.YtakhkpgkbbcnhaaGreatDoorZDR
namespace Go.Ev.ZD
open Go Go.Ev
set_option maxRecDepth 100000
theorem awake_true : allTrue (@fv G6 Go.Proofs.Tryz.prog SA 100000 (.call 10 []) start) = true := by kernel_rfl
end Go.Ev.ZD
