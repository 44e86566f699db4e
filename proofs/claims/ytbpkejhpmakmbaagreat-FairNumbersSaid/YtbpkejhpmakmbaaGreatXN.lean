/-
  The walk and the plain law of FairNumbers, side by side.
-/
import Derived.Test.YtbpkejhpmakmbaaGreatL
import Derived.Test.YtbpkejhpmakmbaaGreatF2
