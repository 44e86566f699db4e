import Derived.Test.YthblgkpmefpllaaGreatKd
import Derived.KernelRfl
namespace Go.Proofs.YthblgkpmefpllaaGreat
open Go.Th
theorem kindNumbers_plain : ∃ k, thicketlaw15_KindNumbers k = some true := ⟨60, by kernel_rfl⟩
end Go.Proofs.YthblgkpmefpllaaGreat
