/-
  The library's sort at this program: the shelf's contract, laid in plain words by the kit's own tools.
-/
import Derived.Shelf.Sort.Plain
import Derived.Shelf.Slices.In.SortNone
import Derived.Test.YtbpkejhpmakmbaaGreatProg
namespace Go.Proofs
open Go.Shelf

end Go.Proofs
