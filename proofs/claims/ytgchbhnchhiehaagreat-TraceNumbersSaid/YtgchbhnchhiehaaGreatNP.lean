/-
  TraceNumbers: what the closed sentence's model comes to (reckoned by the kernel), beside its walk.
-/
import Derived.Test.YtgchbhnchhiehaaGreatT
import Derived.KernelRfl
namespace Go.Proofs.YtgchbhnchhiehaaGreat
theorem traceNumbers_plain : ∃ k, thicketlaw25_TraceNumbers k = some true := ⟨6000, by kernel_rfl⟩
end Go.Proofs.YtgchbhnchhiehaaGreat
