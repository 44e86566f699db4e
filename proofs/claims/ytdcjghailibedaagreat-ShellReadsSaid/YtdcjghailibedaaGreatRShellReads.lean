/-
  PROOF OF 'Rows.ShellReadsSaid': WHATEVER THE INPUT the Go function thicket/thicketlaw28.ShellReads returns true, and its arguments read as they did. (No other condition.)
-/
import Derived.Test.YtdcjghailibedaaGreatRows
import Derived.Test.YtdcjghailibedaaGreatE7
import Derived.Test.YtdcjghailibedaaGreatE16
import Derived.Test.YtdcjghailibedaaGreatSRL
import Derived.Test.YtdcjghailibedaaGreatSRC
import Derived.WalkKit
import Derived.ProofKit
import Derived.OpenShut
import Derived.ShutString
import Derived.ChangeOld
import Derived.Below
import Derived.SliceStrings
import Derived.JoinedCond
namespace Go.Proofs.YtdcjghailibedaaGreat.shellReads
open Go.ChangeShapes Go.WideShapes Go.ChangeAt Go.RowKit
open Go.ChangeMaps (open_string shut_string)
set_option linter.unusedVariables false
set_option maxRecDepth 10000

theorem over : Rows.shellReadsRow.holds Tryz.pinned (OpenSpec.ofChange Rows.shellReadsSpec) :=
  OpenClaim.holds_of_wide 6 Tryz.f6 rfl rfl rfl rfl rfl rfl rfl ⟨rfl, rfl, rfl, rfl, rfl⟩ rfl rfl rfl rfl rfl (by kernel_rfl) Tryz.func6 closed
    (of_decide_eq_true (by kernel_rfl)) (by unfold Func.isWrapper; first | (rw [if_pos (by decide +kernel)]; kernel_rfl) | (rw [if_neg (by decide +kernel)]; exact ⟨rfl, rfl⟩))
    (fun os started H enc _ => lifted os started H enc)

theorem shellReads_holds : Rows.ShellReadsSaid := over
end Go.Proofs.YtdcjghailibedaaGreat.shellReads
