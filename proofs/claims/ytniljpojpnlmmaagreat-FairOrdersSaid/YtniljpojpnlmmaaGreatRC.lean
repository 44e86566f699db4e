/-
  What the row of FairOrders asks of the program's form alone, a piece at a time.
-/
import Derived.Test.YtniljpojpnlmmaaGreatRows
import Derived.WalkKit
import Derived.ProofKit
import Derived.OpenShut
import Derived.JoinedCond
import Derived.Test.YtniljpojpnlmmaaGreatRA
import Derived.Test.YtniljpojpnlmmaaGreatRB
namespace Go.Proofs.YtniljpojpnlmmaaGreat.fairOrders
set_option maxRecDepth 10000
theorem closed : joinedFacts Tryz.pinned.checked.prog 6 Tryz.f6 Rows.fairOrdersSpec Rows.fairOrdersRow = true := by
  unfold joinedFacts
  rw [f_inPlace, f_unfollowed, f_recurses, f_named]
  kernel_rfl
end Go.Proofs.YtniljpojpnlmmaaGreat.fairOrders
