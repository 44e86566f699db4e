/-
  The plain law and the walks side by side.
-/
import Derived.Test.YtmidmkinclmbdaaGreatZ18
import Derived.Test.YtmidmkinclmbdaaGreatSM
namespace Go.Proofs.YtmidmkinclmbdaaGreat
theorem skewMelds_plain (rows : List (Go.Th.NRow Int)) (pops : List Bool) : ∃ k, thicketlaw11_SkewMelds k rows pops = some true := melds_plain rows pops
end Go.Proofs.YtmidmkinclmbdaaGreat
