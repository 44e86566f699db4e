/-
  PROOF OF 'Rows.FairOrdersSaid': WHATEVER THE INPUT the Go function thicket/thicketlaw27.FairOrders returns true, and its arguments read as they did. (No other condition.)
-/
import Derived.Test.YtniljpojpnlmmaaGreatRows
import Derived.Test.YtniljpojpnlmmaaGreatE7
import Derived.Test.YtniljpojpnlmmaaGreatE14
import Derived.Test.YtniljpojpnlmmaaGreatRL
import Derived.Test.YtniljpojpnlmmaaGreatRC
import Derived.WalkKit
import Derived.ProofKit
import Derived.OpenShut
import Derived.ShutString
import Derived.ChangeOld
import Derived.Below
import Derived.SliceStrings
import Derived.JoinedCond
namespace Go.Proofs.YtniljpojpnlmmaaGreat.fairOrders
open Go.ChangeShapes Go.WideShapes Go.ChangeAt Go.RowKit
open Go.ChangeMaps (open_string shut_string)
set_option linter.unusedVariables false
set_option maxRecDepth 10000

theorem over : Rows.fairOrdersRow.holds Tryz.pinned (OpenSpec.ofChange Rows.fairOrdersSpec) :=
  OpenClaim.holds_of_wide 6 Tryz.f6 rfl rfl rfl rfl rfl rfl rfl ⟨rfl, rfl, rfl, rfl, rfl⟩ rfl rfl rfl rfl rfl (by kernel_rfl) Tryz.func6 closed
    (of_decide_eq_true (by kernel_rfl)) (by unfold Func.isWrapper; first | (rw [if_pos (by decide +kernel)]; kernel_rfl) | (rw [if_neg (by decide +kernel)]; exact ⟨rfl, rfl⟩))
    (fun os started H enc _ => lifted os started H enc)

theorem fairOrders_holds : Rows.FairOrdersSaid := over
end Go.Proofs.YtniljpojpnlmmaaGreat.fairOrders
