/-
  What the row of FairNumbers asks of the program's form alone, a piece at a time.
-/
import Derived.Test.YtbpkejhpmakmbaaGreatRows
import Derived.WalkKit
import Derived.ProofKit
import Derived.OpenShut
import Derived.JoinedCond
import Derived.Test.YtbpkejhpmakmbaaGreatFNA
import Derived.Test.YtbpkejhpmakmbaaGreatFNB
import Derived.Test.YtbpkejhpmakmbaaGreatFNE
import Derived.Test.YtbpkejhpmakmbaaGreatFNG
namespace Go.Proofs.YtbpkejhpmakmbaaGreat.fairNumbers
set_option maxRecDepth 10000
theorem closed : joinedFacts Tryz.pinned.checked.prog 3 Tryz.f3 Rows.fairNumbersSpec Rows.fairNumbersRow = true := by
  unfold joinedFacts
  rw [f_inPlace, f_unfollowed, f_recurses, f_named]
  kernel_rfl
end Go.Proofs.YtbpkejhpmakmbaaGreat.fairNumbers
