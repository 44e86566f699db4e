/-
  The closed sentence answers true.
-/
import Derived.Test.YtlfiboncgkijkaaGreatN1
import Derived.Test.YtlfiboncgkijkaaGreatN2
import Derived.Test.YtlfiboncgkijkaaGreatN3
import Derived.Test.YtlfiboncgkijkaaGreatN4
import Derived.KernelRfl
namespace Go.Proofs.YtlfiboncgkijkaaGreat
open Go.Th
theorem known_200 : thicketlaw11_known 200 = some true := by kernel_rfl
theorem skewNumbers_plain : ∃ k, thicketlaw11_SkewNumbers k = some true := by
  refine ⟨200, ?_⟩
  unfold thicketlaw11_SkewNumbers
  rw [how0, how1, how2, how3]
  have h4 : thicketlaw11_SkewNumbers_l0 196 4 = some (.inr ()) := by rfl
  simp only [h4, Option.bind_some, known_200]
end Go.Proofs.YtlfiboncgkijkaaGreat
