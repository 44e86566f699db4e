/-
  The plain law and the walks side by side.
-/
import Derived.Test.YtmidmkinclmbdaaGreatP16
import Derived.Test.YtmidmkinclmbdaaGreatY
namespace Go.Proofs.YtmidmkinclmbdaaGreat
theorem binomialSorts_plain (keys falls : List Int) : ∃ k, thicketlaw9_BinomialSorts k keys falls = some true := sorts_plain keys falls
theorem binomialFalls_plain (keys who cut : List Int) : ∃ k, thicketlaw9_BinomialFalls k keys who cut = some true := falls_plain keys who cut
theorem binomialPlays_plain (l : List thicketlaw9_Ask) : ∃ k, thicketlaw9_BinomialPlays k l = some true := plays_plain l
theorem binomialFull_plain (size : Int) (l : List thicketlaw9_Ask) : ∃ k, thicketlaw9_BinomialFull k size l = some true := full_plain size l
theorem binomialDrops_plain (l : List thicketlaw9_Ask) (h : Int) : ∃ k, thicketlaw9_BinomialDrops k l h = some true := drops_plain l h
end Go.Proofs.YtmidmkinclmbdaaGreat
