/-
  No cell of these rows narrows 'for every input' (looked for: loops, veiled, ifaces, maps, wideKeys, modest, calm, conditions, laid).
  DERIVED. THE GIVEN ROWS OF THIS SEAT. 4 by the template 'for every input the law returns true; each argument reads behind the call as it read before'; 0 by the template 'total and deterministic' (their statements: YtcepppmiplonfaaGreatTotals.lean).
  GIVEN WITH THE SEED: the statements are not yours to turn. If you find one false, say at which input.
  Laid BY PROGRAM, IN A SANDBOX (cutbox-rows.mjs): the forced cells as the released guide's own fill.sh prints them over the translation a9834b31f4eec839… (all of the seat's roots in one cut). By AI agents, Wed Nov 11 2026. No macro, syntax, notation, axiom, sorry.
-/
import Derived.Test.YtcepppmiplonfaaGreatChecked
import GoSem.Claim
import GoSem.ClaimJoined
import GoSem.ClaimMapViews
import Derived.JoinedTies
import Derived.KernelRfl
namespace Go.Proofs.YtcepppmiplonfaaGreat
/- THE CELL 'sum', in the pinned program and in every row, IS THE sha256 OF THE DUMP (.gsa) THAT YtcepppmiplonfaaGreatProg.lean LOADS. Nothing in Lean hashes anything: it is a label: what it is worth is what the hold of that sum in a sandbox is worth. -/
noncomputable def Tryz.pinned : Pinned := { name := "ytcepppmiplonfaagreat", sum := "a9834b31f4eec83971ee80f5e8f63b4e1db2d831be8243b8b5f5591b226383ac", checked := Tryz.checked }
namespace Rows
def none {H : Type} : Left H := { results := [], args := [] }

/-- 'thicketlaw24.ServerPlays': WHATEVER THE INPUT: true; the input reads as it did. -/
def serverPlaysSpec : ChangeSpec := { name := "serverPlays", fn := fun _ => fun
  | [d1, d2, d3, d4, d5] => { results := [.lit (.bool true)], args := [d1, d2, d3, d4, d5] }
  | _ => none }
def serverPlaysRow : OpenClaim := { program := "ytcepppmiplonfaagreat", sum := "a9834b31f4eec83971ee80f5e8f63b4e1db2d831be8243b8b5f5591b226383ac", func := "thicket/thicketlaw24.ServerPlays", spec := "serverPlays", inPlace := ["slices.overlaps[thicket/trees.ranked]"], unfollowed := true, recurses := true, plainKeys := false, apart := false }
def ServerPlaysSaid : Prop := serverPlaysRow.holds Tryz.pinned (OpenSpec.ofChange serverPlaysSpec)

/-- ITS FALSE NEIGHBOUR: 'it returns false'. Refute it at one input. -/
def serverPlaysWrong : ChangeSpec := { name := "serverPlays", fn := fun _ => fun
  | [d1, d2, d3, d4, d5] => { results := [.lit (.bool false)], args := [d1, d2, d3, d4, d5] }
  | _ => none }
def ServerPlaysWrongFalsely : Prop := serverPlaysRow.holds Tryz.pinned (OpenSpec.ofChange serverPlaysWrong)

/-- 'thicketlaw28.ShellRuns': WHATEVER THE INPUT: true; the input reads as it did. -/
def shellRunsSpec : ChangeSpec := { name := "shellRuns", fn := fun _ => fun
  | [d] => { results := [.lit (.bool true)], args := [d] }
  | _ => none }
def shellRunsRow : OpenClaim := { program := "ytcepppmiplonfaagreat", sum := "a9834b31f4eec83971ee80f5e8f63b4e1db2d831be8243b8b5f5591b226383ac", func := "thicket/thicketlaw28.ShellRuns", spec := "shellRuns", inPlace := ["slices.overlaps[thicket/trees.ranked]"], unfollowed := true, recurses := true, plainKeys := false, apart := false }
def ShellRunsSaid : Prop := shellRunsRow.holds Tryz.pinned (OpenSpec.ofChange shellRunsSpec)

/-- ITS FALSE NEIGHBOUR: 'it returns false'. Refute it at one input. -/
def shellRunsWrong : ChangeSpec := { name := "shellRuns", fn := fun _ => fun
  | [d] => { results := [.lit (.bool false)], args := [d] }
  | _ => none }
def ShellRunsWrongFalsely : Prop := shellRunsRow.holds Tryz.pinned (OpenSpec.ofChange shellRunsWrong)

/-- 'thicketlaw28.ShellTwins': WHATEVER THE INPUT: true; the input reads as it did. -/
def shellTwinsSpec : ChangeSpec := { name := "shellTwins", fn := fun _ => fun
  | [d1, d2] => { results := [.lit (.bool true)], args := [d1, d2] }
  | _ => none }
def shellTwinsRow : OpenClaim := { program := "ytcepppmiplonfaagreat", sum := "a9834b31f4eec83971ee80f5e8f63b4e1db2d831be8243b8b5f5591b226383ac", func := "thicket/thicketlaw28.ShellTwins", spec := "shellTwins", inPlace := ["slices.overlaps[thicket/trees.ranked]"], unfollowed := true, recurses := true, plainKeys := false, apart := false }
def ShellTwinsSaid : Prop := shellTwinsRow.holds Tryz.pinned (OpenSpec.ofChange shellTwinsSpec)

/-- ITS FALSE NEIGHBOUR: 'it returns false'. Refute it at one input. -/
def shellTwinsWrong : ChangeSpec := { name := "shellTwins", fn := fun _ => fun
  | [d1, d2] => { results := [.lit (.bool false)], args := [d1, d2] }
  | _ => none }
def ShellTwinsWrongFalsely : Prop := shellTwinsRow.holds Tryz.pinned (OpenSpec.ofChange shellTwinsWrong)

/-- 'thickettop.TopScripts': WHATEVER THE INPUT: true; the input reads as it did. -/
def topScriptsSpec : ChangeSpec := { name := "topScripts", fn := fun _ => fun
  | [d] => { results := [.lit (.bool true)], args := [d] }
  | _ => none }
def topScriptsRow : OpenClaim := { program := "ytcepppmiplonfaagreat", sum := "a9834b31f4eec83971ee80f5e8f63b4e1db2d831be8243b8b5f5591b226383ac", func := "thicket/thickettop.TopScripts", spec := "topScripts", inPlace := ["slices.overlaps[thicket/trees.ranked]"], unfollowed := true, recurses := true, plainKeys := false, apart := false }
def TopScriptsSaid : Prop := topScriptsRow.holds Tryz.pinned (OpenSpec.ofChange topScriptsSpec)

/-- ITS FALSE NEIGHBOUR: 'it returns false'. Refute it at one input. -/
def topScriptsWrong : ChangeSpec := { name := "topScripts", fn := fun _ => fun
  | [d] => { results := [.lit (.bool false)], args := [d] }
  | _ => none }
def TopScriptsWrongFalsely : Prop := topScriptsRow.holds Tryz.pinned (OpenSpec.ofChange topScriptsWrong)

/- THE SECOND FORM. 'bulk': how many values and letters a reading holds, each counted each time it is reached (what is shared counts as often as it is met; a slice's spare places count too). A statement '..UptoSaid' is the law's where the arguments, and the package variables that the reading takes, are together of bulk at most 1048576: NARROWER than '..Said'. Prove '..Said' where nothing that the law and all that it calls make is longer than what came in: it says more and counts as full. Else prove '..UptoSaid'. A law counts once. -/
mutual
def uptoBulk {H : Type} : DataW H → Nat
  | .lit (.string bytes) => bytes.length + 1
  | .lit _ => 1
  | .nil => 1
  | .ptr d => uptoBulk d + 1
  | .slice elems spare => uptoBulkAll elems + uptoBulkAll spare + 1
  | .agg parts => uptoBulkAll parts + 1
  | .iface _ d => uptoBulk d + 1
  | .map entries => uptoBulkEntries entries + 1
  | .held _ => 1
def uptoBulkAll {H : Type} : List (DataW H) → Nat
  | [] => 0
  | d :: r => uptoBulk d + uptoBulkAll r
def uptoBulkEntries {H : Type} : List (Lit × DataW H) → Nat
  | [] => 0
  | x :: r => uptoBulkEntry x + uptoBulkEntries r
def uptoBulkEntry {H : Type} : Lit × DataW H → Nat
  | (.string bytes, d) => bytes.length + uptoBulk d + 1
  | (_, d) => uptoBulk d + 1
 end
def uptoSmall : (H : Type) → List (DataW H) → Bool := fun _ ds => decide (uptoBulkAll ds ≤ 1048576)
def OpenSpec.upto (s : _root_.Go.ChangeSpec) : _root_.Go.OpenSpec := { _root_.Go.OpenSpec.ofChange s with cond := some uptoSmall }

/-- 'thicketlaw24.ServerPlays', WHERE WHAT IT READS IS OF BULK AT MOST 1048576: true; the input reads as it did. -/
def serverPlaysUptoRow : OpenClaim := { program := "ytcepppmiplonfaagreat", sum := "a9834b31f4eec83971ee80f5e8f63b4e1db2d831be8243b8b5f5591b226383ac", func := "thicket/thicketlaw24.ServerPlays", spec := "serverPlays", inPlace := ["slices.overlaps[thicket/trees.ranked]"], unfollowed := true, recurses := true, plainKeys := false, apart := false, narrowed := true }
def ServerPlaysUptoSaid : Prop := serverPlaysUptoRow.holds Tryz.pinned (OpenSpec.upto serverPlaysSpec)

/-- 'thicketlaw28.ShellRuns', WHERE WHAT IT READS IS OF BULK AT MOST 1048576: true; the input reads as it did. -/
def shellRunsUptoRow : OpenClaim := { program := "ytcepppmiplonfaagreat", sum := "a9834b31f4eec83971ee80f5e8f63b4e1db2d831be8243b8b5f5591b226383ac", func := "thicket/thicketlaw28.ShellRuns", spec := "shellRuns", inPlace := ["slices.overlaps[thicket/trees.ranked]"], unfollowed := true, recurses := true, plainKeys := false, apart := false, narrowed := true }
def ShellRunsUptoSaid : Prop := shellRunsUptoRow.holds Tryz.pinned (OpenSpec.upto shellRunsSpec)

/-- 'thicketlaw28.ShellTwins', WHERE WHAT IT READS IS OF BULK AT MOST 1048576: true; the input reads as it did. -/
def shellTwinsUptoRow : OpenClaim := { program := "ytcepppmiplonfaagreat", sum := "a9834b31f4eec83971ee80f5e8f63b4e1db2d831be8243b8b5f5591b226383ac", func := "thicket/thicketlaw28.ShellTwins", spec := "shellTwins", inPlace := ["slices.overlaps[thicket/trees.ranked]"], unfollowed := true, recurses := true, plainKeys := false, apart := false, narrowed := true }
def ShellTwinsUptoSaid : Prop := shellTwinsUptoRow.holds Tryz.pinned (OpenSpec.upto shellTwinsSpec)

/-- 'thickettop.TopScripts', WHERE WHAT IT READS IS OF BULK AT MOST 1048576: true; the input reads as it did. -/
def topScriptsUptoRow : OpenClaim := { program := "ytcepppmiplonfaagreat", sum := "a9834b31f4eec83971ee80f5e8f63b4e1db2d831be8243b8b5f5591b226383ac", func := "thicket/thickettop.TopScripts", spec := "topScripts", inPlace := ["slices.overlaps[thicket/trees.ranked]"], unfollowed := true, recurses := true, plainKeys := false, apart := false, narrowed := true }
def TopScriptsUptoSaid : Prop := topScriptsUptoRow.holds Tryz.pinned (OpenSpec.upto topScriptsSpec)

end Rows
end Go.Proofs.YtcepppmiplonfaaGreat
