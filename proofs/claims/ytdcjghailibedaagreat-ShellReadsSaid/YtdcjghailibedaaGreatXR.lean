/-
  The walk and the plain law of ShellReads, side by side.
-/
import Derived.Test.YtdcjghailibedaaGreatV
import Derived.Test.YtdcjghailibedaaGreatT8
