/-
  DispatchNumbers: what the closed sentence's model comes to (reckoned by the kernel), beside its walk.
-/
import Derived.Test.YteflmnbkdhneiaaGreatD
import Derived.KernelRfl
namespace Go.Proofs.YteflmnbkdhneiaaGreat
theorem dispatchNumbers_plain : ∃ k, thicketlaw22_DispatchNumbers k = some true := ⟨3000, by kernel_rfl⟩
end Go.Proofs.YteflmnbkdhneiaaGreat
