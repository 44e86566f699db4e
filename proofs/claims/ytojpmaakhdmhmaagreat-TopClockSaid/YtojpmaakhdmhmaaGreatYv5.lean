/-
  The statements TopEnds, TopClock of the program.
  Text 5 of 8: of what the proof needs (a row of the program: no condition is left); put together and made narrow by a program.
-/
import Derived.Shelf.Slices.In.SortNone
import Derived.Shelf.Sort.Plain
import Derived.Test.YtojpmaakhdmhmaaGreatProg
import Derived.Test.YtojpmaakhdmhmaaGreatYv4
set_option linter.unusedVariables false
set_option linter.unusedSimpArgs false
namespace Go.Proofs
open Go.Shelf
noncomputable section
open Go.Sort Go.RowKit in
open Go.RowKit Go.Sort in
end
end Go.Proofs
