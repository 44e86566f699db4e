/-
  The plain law and the walks side by side.
-/
import Derived.Test.YtmidmkinclmbdaaGreatP18
import Derived.Test.YtmidmkinclmbdaaGreatM
namespace Go.Proofs.YtmidmkinclmbdaaGreat
theorem binomialMelds_plain (rows : List (Go.Th.NRow Int)) (pops : List Bool) : ∃ k, thicketlaw9_BinomialMelds k rows pops = some true := melds_plain rows pops
end Go.Proofs.YtmidmkinclmbdaaGreat
