/-
  PROOF OF 'Rows.TraceNumbersSaid': WHATEVER THE INPUT the Go function thicket/thicketlaw25.TraceNumbers returns true, and its arguments read as they did. (No other condition.)
-/
import Derived.Test.YtgchbhnchhiehaaGreatRows
import Derived.Test.YtgchbhnchhiehaaGreatE7
import Derived.Test.YtgchbhnchhiehaaGreatNL
import Derived.Test.YtgchbhnchhiehaaGreatNC
import Derived.WalkKit
import Derived.ProofKit
import Derived.OpenShut
import Derived.ShutString
import Derived.ChangeOld
import Derived.Below
import Derived.SliceStrings
import Derived.JoinedCond
namespace Go.Proofs.YtgchbhnchhiehaaGreat.traceNumbers
open Go.ChangeShapes Go.WideShapes Go.ChangeAt Go.RowKit
open Go.ChangeMaps (open_string shut_string)
set_option linter.unusedVariables false
set_option maxRecDepth 10000

theorem over : Rows.traceNumbersRow.holds Tryz.pinned (OpenSpec.ofChange Rows.traceNumbersSpec) :=
  OpenClaim.holds_of_wide 7 Tryz.f7 rfl rfl rfl rfl rfl rfl rfl ⟨rfl, rfl, rfl, rfl, rfl⟩ rfl rfl rfl rfl rfl (by kernel_rfl) Tryz.func7 closed
    (of_decide_eq_true (by kernel_rfl)) (by unfold Func.isWrapper; first | (rw [if_pos (by decide +kernel)]; kernel_rfl) | (rw [if_neg (by decide +kernel)]; exact ⟨rfl, rfl⟩))
    (fun os started H enc _ => lifted os started H enc)

theorem traceNumbers_holds : Rows.TraceNumbersSaid := over
end Go.Proofs.YtgchbhnchhiehaaGreat.traceNumbers
