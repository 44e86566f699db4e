/-
  PROOF OF 'Rows.ShellNumbersSaid': WHATEVER THE INPUT the Go function thicket/thicketlaw28.ShellNumbers returns true, and its arguments read as they did. (No other condition.)
-/
import Derived.Test.YtdcjghailibedaaGreatRows
import Derived.Test.YtdcjghailibedaaGreatE7
import Derived.Test.YtdcjghailibedaaGreatSNL
import Derived.Test.YtdcjghailibedaaGreatSNC
import Derived.WalkKit
import Derived.ProofKit
import Derived.OpenShut
import Derived.ShutString
import Derived.ChangeOld
import Derived.Below
import Derived.SliceStrings
import Derived.JoinedCond
namespace Go.Proofs.YtdcjghailibedaaGreat.shellNumbers
open Go.ChangeShapes Go.WideShapes Go.ChangeAt Go.RowKit
open Go.ChangeMaps (open_string shut_string)
set_option linter.unusedVariables false
set_option maxRecDepth 10000

theorem over : Rows.shellNumbersRow.holds Tryz.pinned (OpenSpec.ofChange Rows.shellNumbersSpec) :=
  OpenClaim.holds_of_wide 4 Tryz.f4 rfl rfl rfl rfl rfl rfl rfl ⟨rfl, rfl, rfl, rfl, rfl⟩ rfl rfl rfl rfl rfl (by kernel_rfl) Tryz.func4 closed
    (of_decide_eq_true (by kernel_rfl)) (by unfold Func.isWrapper; first | (rw [if_pos (by decide +kernel)]; kernel_rfl) | (rw [if_neg (by decide +kernel)]; exact ⟨rfl, rfl⟩))
    (fun os started H enc _ => lifted os started H enc)

theorem shellNumbers_holds : Rows.ShellNumbersSaid := over
end Go.Proofs.YtdcjghailibedaaGreat.shellNumbers
