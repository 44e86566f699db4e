/-
  No cell of these rows narrows 'for every input' (looked for: loops, veiled, ifaces, maps, wideKeys, modest, calm, conditions, laid).
  DERIVED. THE GIVEN ROWS OF THIS SEAT. 3 by the template 'for every input the law returns true; each argument reads behind the call as it read before'; 0 by the template 'total and deterministic' (their statements: YtojpmaakhdmhmaaGreatTotals.lean).
  GIVEN WITH THE SEED: the statements are not yours to turn. If you find one false, say at which input.
  Laid BY PROGRAM, IN A SANDBOX (cutbox-rows.mjs): the forced cells as the released guide's own fill.sh prints them over the translation 879e38cc0bb95944… (all of the seat's roots in one cut). By AI agents, Wed Nov 11 2026. No macro, syntax, notation, axiom, sorry.
-/
import Derived.Test.YtojpmaakhdmhmaaGreatChecked
import GoSem.Claim
import GoSem.ClaimJoined
import GoSem.ClaimMapViews
import Derived.JoinedTies
import Derived.KernelRfl
namespace Go.Proofs.YtojpmaakhdmhmaaGreat
/- THE CELL 'sum', in the pinned program and in every row, IS THE sha256 OF THE DUMP (.gsa) THAT YtojpmaakhdmhmaaGreatProg.lean LOADS. Nothing in Lean hashes anything: it is a label: what it is worth is what the hold of that sum in a sandbox is worth. -/
noncomputable def Tryz.pinned : Pinned := { name := "ytojpmaakhdmhmaagreat", sum := "879e38cc0bb95944b73bf40de3d724465d43778ee4a938e2522712ed11aba05d", checked := Tryz.checked }
namespace Rows
def none {H : Type} : Left H := { results := [], args := [] }

/-- 'thickettop.TopTimes': WHATEVER THE INPUT: true; the input reads as it did. -/
def topTimesSpec : ChangeSpec := { name := "topTimes", fn := fun _ => fun
  | [d1, d2, d3] => { results := [.lit (.bool true)], args := [d1, d2, d3] }
  | _ => none }
def topTimesRow : OpenClaim := { program := "ytojpmaakhdmhmaagreat", sum := "879e38cc0bb95944b73bf40de3d724465d43778ee4a938e2522712ed11aba05d", func := "thicket/thickettop.TopTimes", spec := "topTimes", inPlace := ["slices.overlaps[thicket/trees.ranked]"], unfollowed := true, recurses := true, plainKeys := false, apart := false }
def TopTimesSaid : Prop := topTimesRow.holds Tryz.pinned (OpenSpec.ofChange topTimesSpec)

/-- ITS FALSE NEIGHBOUR: 'it returns false'. Refute it at one input. -/
def topTimesWrong : ChangeSpec := { name := "topTimes", fn := fun _ => fun
  | [d1, d2, d3] => { results := [.lit (.bool false)], args := [d1, d2, d3] }
  | _ => none }
def TopTimesWrongFalsely : Prop := topTimesRow.holds Tryz.pinned (OpenSpec.ofChange topTimesWrong)

/-- 'thickettop.TopEnds': WHATEVER THE INPUT: true; the input reads as it did. -/
def topEndsSpec : ChangeSpec := { name := "topEnds", fn := fun _ => fun
  | [d1, d2, d3] => { results := [.lit (.bool true)], args := [d1, d2, d3] }
  | _ => none }
def topEndsRow : OpenClaim := { program := "ytojpmaakhdmhmaagreat", sum := "879e38cc0bb95944b73bf40de3d724465d43778ee4a938e2522712ed11aba05d", func := "thicket/thickettop.TopEnds", spec := "topEnds", inPlace := ["slices.overlaps[thicket/trees.ranked]"], unfollowed := true, recurses := true, plainKeys := false, apart := false }
def TopEndsSaid : Prop := topEndsRow.holds Tryz.pinned (OpenSpec.ofChange topEndsSpec)

/-- ITS FALSE NEIGHBOUR: 'it returns false'. Refute it at one input. -/
def topEndsWrong : ChangeSpec := { name := "topEnds", fn := fun _ => fun
  | [d1, d2, d3] => { results := [.lit (.bool false)], args := [d1, d2, d3] }
  | _ => none }
def TopEndsWrongFalsely : Prop := topEndsRow.holds Tryz.pinned (OpenSpec.ofChange topEndsWrong)

/-- 'thickettop.TopClock': WHATEVER THE INPUT: true; the input reads as it did. -/
def topClockSpec : ChangeSpec := { name := "topClock", fn := fun _ => fun
  | [d1, d2, d3] => { results := [.lit (.bool true)], args := [d1, d2, d3] }
  | _ => none }
def topClockRow : OpenClaim := { program := "ytojpmaakhdmhmaagreat", sum := "879e38cc0bb95944b73bf40de3d724465d43778ee4a938e2522712ed11aba05d", func := "thicket/thickettop.TopClock", spec := "topClock", inPlace := ["slices.overlaps[thicket/trees.ranked]"], unfollowed := true, recurses := true, plainKeys := false, apart := false }
def TopClockSaid : Prop := topClockRow.holds Tryz.pinned (OpenSpec.ofChange topClockSpec)

/-- ITS FALSE NEIGHBOUR: 'it returns false'. Refute it at one input. -/
def topClockWrong : ChangeSpec := { name := "topClock", fn := fun _ => fun
  | [d1, d2, d3] => { results := [.lit (.bool false)], args := [d1, d2, d3] }
  | _ => none }
def TopClockWrongFalsely : Prop := topClockRow.holds Tryz.pinned (OpenSpec.ofChange topClockWrong)

/- THE SECOND FORM. 'bulk': how many values and letters a reading holds, each counted each time it is reached (what is shared counts as often as it is met; a slice's spare places count too). A statement '..UptoSaid' is the law's where the arguments, and the package variables that the reading takes, are together of bulk at most 1048576: NARROWER than '..Said'. Prove '..Said' where nothing that the law and all that it calls make is longer than what came in: it says more and counts as full. Else prove '..UptoSaid'. A law counts once. -/
mutual
def uptoBulk {H : Type} : DataW H → Nat
  | .lit (.string bytes) => bytes.length + 1
  | .lit _ => 1
  | .nil => 1
  | .ptr d => uptoBulk d + 1
  | .slice elems spare => uptoBulkAll elems + uptoBulkAll spare + 1
  | .agg parts => uptoBulkAll parts + 1
  | .iface _ d => uptoBulk d + 1
  | .map entries => uptoBulkEntries entries + 1
  | .held _ => 1
def uptoBulkAll {H : Type} : List (DataW H) → Nat
  | [] => 0
  | d :: r => uptoBulk d + uptoBulkAll r
def uptoBulkEntries {H : Type} : List (Lit × DataW H) → Nat
  | [] => 0
  | x :: r => uptoBulkEntry x + uptoBulkEntries r
def uptoBulkEntry {H : Type} : Lit × DataW H → Nat
  | (.string bytes, d) => bytes.length + uptoBulk d + 1
  | (_, d) => uptoBulk d + 1
 end
def uptoSmall : (H : Type) → List (DataW H) → Bool := fun _ ds => decide (uptoBulkAll ds ≤ 1048576)
def OpenSpec.upto (s : _root_.Go.ChangeSpec) : _root_.Go.OpenSpec := { _root_.Go.OpenSpec.ofChange s with cond := some uptoSmall }

/-- 'thickettop.TopTimes', WHERE WHAT IT READS IS OF BULK AT MOST 1048576: true; the input reads as it did. -/
def topTimesUptoRow : OpenClaim := { program := "ytojpmaakhdmhmaagreat", sum := "879e38cc0bb95944b73bf40de3d724465d43778ee4a938e2522712ed11aba05d", func := "thicket/thickettop.TopTimes", spec := "topTimes", inPlace := ["slices.overlaps[thicket/trees.ranked]"], unfollowed := true, recurses := true, plainKeys := false, apart := false, narrowed := true }
def TopTimesUptoSaid : Prop := topTimesUptoRow.holds Tryz.pinned (OpenSpec.upto topTimesSpec)

/-- 'thickettop.TopEnds', WHERE WHAT IT READS IS OF BULK AT MOST 1048576: true; the input reads as it did. -/
def topEndsUptoRow : OpenClaim := { program := "ytojpmaakhdmhmaagreat", sum := "879e38cc0bb95944b73bf40de3d724465d43778ee4a938e2522712ed11aba05d", func := "thicket/thickettop.TopEnds", spec := "topEnds", inPlace := ["slices.overlaps[thicket/trees.ranked]"], unfollowed := true, recurses := true, plainKeys := false, apart := false, narrowed := true }
def TopEndsUptoSaid : Prop := topEndsUptoRow.holds Tryz.pinned (OpenSpec.upto topEndsSpec)

/-- 'thickettop.TopClock', WHERE WHAT IT READS IS OF BULK AT MOST 1048576: true; the input reads as it did. -/
def topClockUptoRow : OpenClaim := { program := "ytojpmaakhdmhmaagreat", sum := "879e38cc0bb95944b73bf40de3d724465d43778ee4a938e2522712ed11aba05d", func := "thicket/thickettop.TopClock", spec := "topClock", inPlace := ["slices.overlaps[thicket/trees.ranked]"], unfollowed := true, recurses := true, plainKeys := false, apart := false, narrowed := true }
def TopClockUptoSaid : Prop := topClockUptoRow.holds Tryz.pinned (OpenSpec.upto topClockSpec)

end Rows
end Go.Proofs.YtojpmaakhdmhmaaGreat
