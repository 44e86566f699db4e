/-
  The walk and the reckoning of ShellNumbers, side by side.
-/
import Derived.Test.YtdcjghailibedaaGreatU
import Derived.Test.YtdcjghailibedaaGreatN1
