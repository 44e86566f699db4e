/-
  The plain law and the walks side by side.
-/
import Derived.Test.YtmidmkinclmbdaaGreatZ15
import Derived.Test.YtmidmkinclmbdaaGreatSY
namespace Go.Proofs.YtmidmkinclmbdaaGreat
theorem skewPlays_plain (l : List thicketlaw11_Ask) : ∃ k, thicketlaw11_SkewPlays k l = some true := plays_plain l
theorem skewFull_plain (size : Int) (l : List thicketlaw11_Ask) : ∃ k, thicketlaw11_SkewFull k size l = some true := full_plain size l
end Go.Proofs.YtmidmkinclmbdaaGreat
