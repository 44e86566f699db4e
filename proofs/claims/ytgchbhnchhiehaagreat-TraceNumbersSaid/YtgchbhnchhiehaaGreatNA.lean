/-
  What the row of TraceNumbers asks of the program's form alone, a piece at a time.
-/
import Derived.Test.YtgchbhnchhiehaaGreatRows
import Derived.WalkKit
import Derived.ProofKit
import Derived.OpenShut
import Derived.JoinedCond
namespace Go.Proofs.YtgchbhnchhiehaaGreat.traceNumbers
set_option maxRecDepth 10000
theorem f_inPlace : (Rows.traceNumbersRow.inPlace == Tryz.pinned.checked.prog.inPlace 7) = true := by kernel_rfl
end Go.Proofs.YtgchbhnchhiehaaGreat.traceNumbers
