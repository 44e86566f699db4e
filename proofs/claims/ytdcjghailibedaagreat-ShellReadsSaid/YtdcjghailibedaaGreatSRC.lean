/-
  What the row of ShellReads asks of the program's form alone, a piece at a time.
-/
import Derived.Test.YtdcjghailibedaaGreatRows
import Derived.WalkKit
import Derived.ProofKit
import Derived.OpenShut
import Derived.JoinedCond
import Derived.Test.YtdcjghailibedaaGreatSRA
import Derived.Test.YtdcjghailibedaaGreatSRB
import Derived.Test.YtdcjghailibedaaGreatSRE
import Derived.Test.YtdcjghailibedaaGreatSRG
namespace Go.Proofs.YtdcjghailibedaaGreat.shellReads
set_option maxRecDepth 10000
theorem closed : joinedFacts Tryz.pinned.checked.prog 6 Tryz.f6 Rows.shellReadsSpec Rows.shellReadsRow = true := by
  unfold joinedFacts
  rw [f_inPlace, f_unfollowed, f_recurses, f_named]
  kernel_rfl
end Go.Proofs.YtdcjghailibedaaGreat.shellReads
