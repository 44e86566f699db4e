/-
  The walks and the plain laws of ShellBack and ShellCuts, side by side.
-/
import Derived.Test.YtdcjghailibedaaGreatY
import Derived.Test.YtdcjghailibedaaGreatS6
