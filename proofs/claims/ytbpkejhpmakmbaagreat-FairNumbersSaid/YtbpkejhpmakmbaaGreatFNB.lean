/-
  What the row of FairNumbers asks of the program's form alone, a piece at a time.
-/
import Derived.Test.YtbpkejhpmakmbaaGreatRows
import Derived.WalkKit
import Derived.ProofKit
import Derived.OpenShut
import Derived.JoinedCond
namespace Go.Proofs.YtbpkejhpmakmbaaGreat.fairNumbers
set_option maxRecDepth 10000
theorem f_unfollowed : (Rows.fairNumbersRow.unfollowed == Tryz.pinned.checked.prog.unfollowed 3) = true := by kernel_rfl
end Go.Proofs.YtbpkejhpmakmbaaGreat.fairNumbers
