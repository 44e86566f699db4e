/-
  What the row of TraceNumbers asks of the program's form alone, a piece at a time.
-/
import Derived.Test.YtgchbhnchhiehaaGreatRows
import Derived.WalkKit
import Derived.ProofKit
import Derived.OpenShut
import Derived.JoinedCond
namespace Go.Proofs.YtgchbhnchhiehaaGreat.traceNumbers
set_option maxRecDepth 10000
theorem f_unfollowed : (Rows.traceNumbersRow.unfollowed == Tryz.pinned.checked.prog.unfollowed 7) = true := by kernel_rfl
end Go.Proofs.YtgchbhnchhiehaaGreat.traceNumbers
