/-
  The plain law and the walks side by side.
-/
import Derived.Test.YtmidmkinclmbdaaGreatP17
import Derived.Test.YtmidmkinclmbdaaGreatG
namespace Go.Proofs.YtmidmkinclmbdaaGreat
theorem binomialGreat_plain (n how : Int) (keys : List Int) : ∃ k, thicketlaw9_BinomialGreat k n how keys = some true := great_plain n how keys
end Go.Proofs.YtmidmkinclmbdaaGreat
