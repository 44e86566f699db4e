/-
  The plain law and the walks side by side.
-/
import Derived.Test.YtmidmkinclmbdaaGreatZ16
import Derived.Test.YtmidmkinclmbdaaGreatSQ
namespace Go.Proofs.YtmidmkinclmbdaaGreat
theorem skewSorts_plain (keys falls : List Int) : ∃ k, thicketlaw11_SkewSorts k keys falls = some true := sorts_plain keys falls
theorem skewFalls_plain (keys who cut : List Int) : ∃ k, thicketlaw11_SkewFalls k keys who cut = some true := falls_plain keys who cut
end Go.Proofs.YtmidmkinclmbdaaGreat
