/-
  What the row of ShellCuts asks of the program's form alone, a piece at a time.
-/
import Derived.Test.YtdcjghailibedaaGreatRows
import Derived.WalkKit
import Derived.ProofKit
import Derived.OpenShut
import Derived.JoinedCond
import Derived.Test.YtdcjghailibedaaGreatSCA
import Derived.Test.YtdcjghailibedaaGreatSCB
import Derived.Test.YtdcjghailibedaaGreatSCE
import Derived.Test.YtdcjghailibedaaGreatSCG
namespace Go.Proofs.YtdcjghailibedaaGreat.shellCuts
set_option maxRecDepth 10000
theorem closed : joinedFacts Tryz.pinned.checked.prog 8 Tryz.f8 Rows.shellCutsSpec Rows.shellCutsRow = true := by
  unfold joinedFacts
  rw [f_inPlace, f_unfollowed, f_recurses, f_named]
  kernel_rfl
end Go.Proofs.YtdcjghailibedaaGreat.shellCuts
