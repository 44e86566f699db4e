/-
  What the row of ShellWrites asks of the program's form alone, a piece at a time.
-/
import Derived.Test.YtdcjghailibedaaGreatRows
import Derived.WalkKit
import Derived.ProofKit
import Derived.OpenShut
import Derived.JoinedCond
import Derived.Test.YtdcjghailibedaaGreatSWA
import Derived.Test.YtdcjghailibedaaGreatSWB
import Derived.Test.YtdcjghailibedaaGreatSWE
import Derived.Test.YtdcjghailibedaaGreatSWG
namespace Go.Proofs.YtdcjghailibedaaGreat.shellWrites
set_option maxRecDepth 10000
theorem closed : joinedFacts Tryz.pinned.checked.prog 5 Tryz.f5 Rows.shellWritesSpec Rows.shellWritesRow = true := by
  unfold joinedFacts
  rw [f_inPlace, f_unfollowed, f_recurses, f_named]
  kernel_rfl
end Go.Proofs.YtdcjghailibedaaGreat.shellWrites
