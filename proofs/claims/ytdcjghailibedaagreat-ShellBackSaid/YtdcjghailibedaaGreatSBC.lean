/-
  What the row of ShellBack asks of the program's form alone, a piece at a time.
-/
import Derived.Test.YtdcjghailibedaaGreatRows
import Derived.WalkKit
import Derived.ProofKit
import Derived.OpenShut
import Derived.JoinedCond
import Derived.Test.YtdcjghailibedaaGreatSBA
import Derived.Test.YtdcjghailibedaaGreatSBB
import Derived.Test.YtdcjghailibedaaGreatSBE
import Derived.Test.YtdcjghailibedaaGreatSBG
namespace Go.Proofs.YtdcjghailibedaaGreat.shellBack
set_option maxRecDepth 10000
theorem closed : joinedFacts Tryz.pinned.checked.prog 7 Tryz.f7 Rows.shellBackSpec Rows.shellBackRow = true := by
  unfold joinedFacts
  rw [f_inPlace, f_unfollowed, f_recurses, f_named]
  kernel_rfl
end Go.Proofs.YtdcjghailibedaaGreat.shellBack
