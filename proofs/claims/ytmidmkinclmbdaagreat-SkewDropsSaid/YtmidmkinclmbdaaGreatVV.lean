/-
  The plain law and the walks side by side.
-/
import Derived.Test.YtmidmkinclmbdaaGreatZ15
import Derived.Test.YtmidmkinclmbdaaGreatSV
namespace Go.Proofs.YtmidmkinclmbdaaGreat
theorem skewDrops_plain (l : List thicketlaw11_Ask) (h : Int) : ∃ k, thicketlaw11_SkewDrops k l h = some true := drops_plain l h
end Go.Proofs.YtmidmkinclmbdaaGreat
