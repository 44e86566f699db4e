/-
  The closed sentence of ShellNumbers, reckoned.
-/
import Derived.Test.YtdcjghailibedaaGreatUd
import Derived.KernelRfl
set_option maxRecDepth 10000
namespace Go.Proofs.YtdcjghailibedaaGreat
open Go.Th
theorem shellNumbers_plain : ∃ k, thicketlaw28_ShellNumbers k = some true := ⟨600, by kernel_rfl⟩
end Go.Proofs.YtdcjghailibedaaGreat
