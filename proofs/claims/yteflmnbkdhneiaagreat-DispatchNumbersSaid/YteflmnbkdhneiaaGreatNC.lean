/-
  What the row of DispatchNumbers asks of the program's form alone, a piece at a time.
-/
import Derived.Test.YteflmnbkdhneiaaGreatRows
import Derived.WalkKit
import Derived.ProofKit
import Derived.OpenShut
import Derived.JoinedCond
import Derived.Test.YteflmnbkdhneiaaGreatNA
import Derived.Test.YteflmnbkdhneiaaGreatNB
import Derived.Test.YteflmnbkdhneiaaGreatNE
import Derived.Test.YteflmnbkdhneiaaGreatNG
namespace Go.Proofs.YteflmnbkdhneiaaGreat.dispatchNumbers
set_option maxRecDepth 10000
theorem closed : joinedFacts Tryz.pinned.checked.prog 8 Tryz.f8 Rows.dispatchNumbersSpec Rows.dispatchNumbersRow = true := by
  unfold joinedFacts
  rw [f_inPlace, f_unfollowed, f_recurses, f_named]
  kernel_rfl
end Go.Proofs.YteflmnbkdhneiaaGreat.dispatchNumbers
