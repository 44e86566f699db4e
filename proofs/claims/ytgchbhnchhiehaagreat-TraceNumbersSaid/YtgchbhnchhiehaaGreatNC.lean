/-
  What the row of TraceNumbers asks of the program's form alone, a piece at a time.
-/
import Derived.Test.YtgchbhnchhiehaaGreatRows
import Derived.WalkKit
import Derived.ProofKit
import Derived.OpenShut
import Derived.JoinedCond
import Derived.Test.YtgchbhnchhiehaaGreatNA
import Derived.Test.YtgchbhnchhiehaaGreatNB
import Derived.Test.YtgchbhnchhiehaaGreatNE
import Derived.Test.YtgchbhnchhiehaaGreatNG
namespace Go.Proofs.YtgchbhnchhiehaaGreat.traceNumbers
set_option maxRecDepth 10000
theorem closed : joinedFacts Tryz.pinned.checked.prog 7 Tryz.f7 Rows.traceNumbersSpec Rows.traceNumbersRow = true := by
  unfold joinedFacts
  rw [f_inPlace, f_unfollowed, f_recurses, f_named]
  kernel_rfl
end Go.Proofs.YtgchbhnchhiehaaGreat.traceNumbers
