/-
  The closed sentence answers true.
-/
import Derived.Test.YthblgkpmefpllaaGreatN1
import Derived.Test.YthblgkpmefpllaaGreatN2
import Derived.Test.YthblgkpmefpllaaGreatN3
import Derived.Test.YthblgkpmefpllaaGreatN4
import Derived.KernelRfl
namespace Go.Proofs.YthblgkpmefpllaaGreat
open Go.Th
theorem known_200 : thicketlaw9_known 200 = some true := by kernel_rfl
theorem binomialNumbers_plain : ∃ k, thicketlaw9_BinomialNumbers k = some true := by
  refine ⟨200, ?_⟩
  unfold thicketlaw9_BinomialNumbers
  rw [how0, how1, how2, how3]
  have h4 : thicketlaw9_BinomialNumbers_l0 196 4 = some (.inr ()) := by rfl
  simp only [h4, Option.bind_some, known_200]
end Go.Proofs.YthblgkpmefpllaaGreat
