/-
  What the row of ShellNumbers asks of the program's form alone, a piece at a time.
-/
import Derived.Test.YtdcjghailibedaaGreatRows
import Derived.WalkKit
import Derived.ProofKit
import Derived.OpenShut
import Derived.JoinedCond
import Derived.Test.YtdcjghailibedaaGreatSNA
import Derived.Test.YtdcjghailibedaaGreatSNB
import Derived.Test.YtdcjghailibedaaGreatSNE
import Derived.Test.YtdcjghailibedaaGreatSNG
namespace Go.Proofs.YtdcjghailibedaaGreat.shellNumbers
set_option maxRecDepth 10000
theorem closed : joinedFacts Tryz.pinned.checked.prog 4 Tryz.f4 Rows.shellNumbersSpec Rows.shellNumbersRow = true := by
  unfold joinedFacts
  rw [f_inPlace, f_unfollowed, f_recurses, f_named]
  kernel_rfl
end Go.Proofs.YtdcjghailibedaaGreat.shellNumbers
