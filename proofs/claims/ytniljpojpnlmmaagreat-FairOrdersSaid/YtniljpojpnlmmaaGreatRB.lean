/-
  What the row of FairOrders asks of the program's form alone, a piece at a time.
-/
import Derived.Test.YtniljpojpnlmmaaGreatRows
import Derived.WalkKit
import Derived.ProofKit
import Derived.OpenShut
import Derived.JoinedCond
namespace Go.Proofs.YtniljpojpnlmmaaGreat.fairOrders
set_option maxRecDepth 10000
theorem f_recurses : (Rows.fairOrdersRow.recurses == Tryz.pinned.checked.prog.recurses 6) = true := by kernel_rfl
theorem f_named : (Rows.fairOrdersRow.named == Tryz.pinned.checked.prog.varsNamed 6) = true := by kernel_rfl
end Go.Proofs.YtniljpojpnlmmaaGreat.fairOrders
