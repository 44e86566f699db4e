/-
  The plain law and the walks side by side.
-/
import Derived.Test.YtmidmkinclmbdaaGreatZ17
import Derived.Test.YtmidmkinclmbdaaGreatSG
namespace Go.Proofs.YtmidmkinclmbdaaGreat
theorem skewGreat_plain (n how : Int) (keys : List Int) : ∃ k, thicketlaw11_SkewGreat k n how keys = some true := great_plain n how keys
end Go.Proofs.YtmidmkinclmbdaaGreat
