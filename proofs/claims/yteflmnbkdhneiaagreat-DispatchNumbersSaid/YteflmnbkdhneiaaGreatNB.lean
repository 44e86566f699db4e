/-
  What the row of DispatchNumbers asks of the program's form alone, a piece at a time.
-/
import Derived.Test.YteflmnbkdhneiaaGreatRows
import Derived.WalkKit
import Derived.ProofKit
import Derived.OpenShut
import Derived.JoinedCond
namespace Go.Proofs.YteflmnbkdhneiaaGreat.dispatchNumbers
set_option maxRecDepth 10000
theorem f_unfollowed : (Rows.dispatchNumbersRow.unfollowed == Tryz.pinned.checked.prog.unfollowed 8) = true := by kernel_rfl
end Go.Proofs.YteflmnbkdhneiaaGreat.dispatchNumbers
