/-
  What the row of ShellNumbers asks of the program's form alone, a piece at a time.
-/
import Derived.Test.YtdcjghailibedaaGreatRows
import Derived.WalkKit
import Derived.ProofKit
import Derived.OpenShut
import Derived.JoinedCond
namespace Go.Proofs.YtdcjghailibedaaGreat.shellNumbers
set_option maxRecDepth 10000
theorem f_inPlace : (Rows.shellNumbersRow.inPlace == Tryz.pinned.checked.prog.inPlace 4) = true := by kernel_rfl
end Go.Proofs.YtdcjghailibedaaGreat.shellNumbers
