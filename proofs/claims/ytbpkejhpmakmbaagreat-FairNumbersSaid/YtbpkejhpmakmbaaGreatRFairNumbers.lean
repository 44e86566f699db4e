/-
  PROOF OF 'Rows.FairNumbersSaid': WHATEVER THE INPUT the Go function thicket/thicketlaw27.FairNumbers returns true, and its arguments read as they did. (No other condition.)
-/
import Derived.Test.YtbpkejhpmakmbaaGreatRows
import Derived.Test.YtbpkejhpmakmbaaGreatE7
import Derived.Test.YtbpkejhpmakmbaaGreatFNL
import Derived.Test.YtbpkejhpmakmbaaGreatFNC
import Derived.WalkKit
import Derived.ProofKit
import Derived.OpenShut
import Derived.ShutString
import Derived.ChangeOld
import Derived.Below
import Derived.SliceStrings
import Derived.JoinedCond
namespace Go.Proofs.YtbpkejhpmakmbaaGreat.fairNumbers
open Go.ChangeShapes Go.WideShapes Go.ChangeAt Go.RowKit
open Go.ChangeMaps (open_string shut_string)
set_option linter.unusedVariables false
set_option maxRecDepth 10000

theorem over : Rows.fairNumbersRow.holds Tryz.pinned (OpenSpec.ofChange Rows.fairNumbersSpec) :=
  OpenClaim.holds_of_wide 3 Tryz.f3 rfl rfl rfl rfl rfl rfl rfl ⟨rfl, rfl, rfl, rfl, rfl⟩ rfl rfl rfl rfl rfl (by kernel_rfl) Tryz.func3 closed
    (of_decide_eq_true (by kernel_rfl)) (by unfold Func.isWrapper; first | (rw [if_pos (by decide +kernel)]; kernel_rfl) | (rw [if_neg (by decide +kernel)]; exact ⟨rfl, rfl⟩))
    (fun os started H enc _ => lifted os started H enc)

theorem fairNumbers_holds : Rows.FairNumbersSaid := over
end Go.Proofs.YtbpkejhpmakmbaaGreat.fairNumbers
