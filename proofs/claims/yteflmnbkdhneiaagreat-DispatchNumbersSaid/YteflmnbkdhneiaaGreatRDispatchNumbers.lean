/-
  PROOF OF 'Rows.DispatchNumbersSaid': WHATEVER THE INPUT the Go function thicket/thicketlaw22.DispatchNumbers returns true, and its arguments read as they did. (No other condition.)
-/
import Derived.Test.YteflmnbkdhneiaaGreatRows
import Derived.Test.YteflmnbkdhneiaaGreatE7
import Derived.Test.YteflmnbkdhneiaaGreatNL
import Derived.Test.YteflmnbkdhneiaaGreatNC
import Derived.WalkKit
import Derived.ProofKit
import Derived.OpenShut
import Derived.ShutString
import Derived.ChangeOld
import Derived.Below
import Derived.SliceStrings
import Derived.JoinedCond
namespace Go.Proofs.YteflmnbkdhneiaaGreat.dispatchNumbers
open Go.ChangeShapes Go.WideShapes Go.ChangeAt Go.RowKit
open Go.ChangeMaps (open_string shut_string)
set_option linter.unusedVariables false
set_option maxRecDepth 10000

theorem over : Rows.dispatchNumbersRow.holds Tryz.pinned (OpenSpec.ofChange Rows.dispatchNumbersSpec) :=
  OpenClaim.holds_of_wide 8 Tryz.f8 rfl rfl rfl rfl rfl rfl rfl ⟨rfl, rfl, rfl, rfl, rfl⟩ rfl rfl rfl rfl rfl (by kernel_rfl) Tryz.func8 closed
    (of_decide_eq_true (by kernel_rfl)) (by unfold Func.isWrapper; first | (rw [if_pos (by decide +kernel)]; kernel_rfl) | (rw [if_neg (by decide +kernel)]; exact ⟨rfl, rfl⟩))
    (fun os started H enc _ => lifted os started H enc)

theorem dispatchNumbers_holds : Rows.DispatchNumbersSaid := over
end Go.Proofs.YteflmnbkdhneiaaGreat.dispatchNumbers
