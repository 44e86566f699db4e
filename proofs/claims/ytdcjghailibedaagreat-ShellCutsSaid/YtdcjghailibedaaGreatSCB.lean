/-
  What the row of ShellCuts asks of the program's form alone, a piece at a time.
-/
import Derived.Test.YtdcjghailibedaaGreatRows
import Derived.WalkKit
import Derived.ProofKit
import Derived.OpenShut
import Derived.JoinedCond
namespace Go.Proofs.YtdcjghailibedaaGreat.shellCuts
set_option maxRecDepth 10000
theorem f_unfollowed : (Rows.shellCutsRow.unfollowed == Tryz.pinned.checked.prog.unfollowed 8) = true := by kernel_rfl
end Go.Proofs.YtdcjghailibedaaGreat.shellCuts
