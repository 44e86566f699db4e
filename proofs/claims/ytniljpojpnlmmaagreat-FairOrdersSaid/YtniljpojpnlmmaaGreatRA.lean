/-
  What the row of FairOrders asks of the program's form alone, a piece at a time.
-/
import Derived.Test.YtniljpojpnlmmaaGreatRows
import Derived.WalkKit
import Derived.ProofKit
import Derived.OpenShut
import Derived.JoinedCond
namespace Go.Proofs.YtniljpojpnlmmaaGreat.fairOrders
set_option maxRecDepth 10000
theorem f_inPlace : (Rows.fairOrdersRow.inPlace == Tryz.pinned.checked.prog.inPlace 6) = true := by kernel_rfl
theorem f_unfollowed : (Rows.fairOrdersRow.unfollowed == Tryz.pinned.checked.prog.unfollowed 6) = true := by kernel_rfl
end Go.Proofs.YtniljpojpnlmmaaGreat.fairOrders
