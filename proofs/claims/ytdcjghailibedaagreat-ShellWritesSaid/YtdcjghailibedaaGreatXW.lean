/-
  The walk and the plain law of ShellWrites, side by side.
-/
import Derived.Test.YtdcjghailibedaaGreatY
import Derived.Test.YtdcjghailibedaaGreatS3
