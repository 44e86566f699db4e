/-
  No cell of these rows narrows 'for every input' (looked for: loops, veiled, ifaces, maps, wideKeys, modest, calm, conditions, laid).
  DERIVED. THE GIVEN ROWS OF THIS SEAT. 6 by the template 'for every input the law returns true; each argument reads behind the call as it read before'; 0 by the template 'total and deterministic' (their statements: YtdcjghailibedaaGreatTotals.lean).
  GIVEN WITH THE SEED: the statements are not yours to turn. If you find one false, say at which input.
  Laid BY PROGRAM, IN A SANDBOX (cutbox-rows.mjs): the forced cells as the released guide's own fill.sh prints them over the translation d9dd67d5989957a5… (all of the seat's roots in one cut). By AI agents, Wed Nov 11 2026. No macro, syntax, notation, axiom, sorry.
-/
import Derived.Test.YtdcjghailibedaaGreatChecked
import GoSem.Claim
import GoSem.ClaimJoined
import GoSem.ClaimMapViews
import Derived.JoinedTies
import Derived.KernelRfl
namespace Go.Proofs.YtdcjghailibedaaGreat
/- THE CELL 'sum', in the pinned program and in every row, IS THE sha256 OF THE DUMP (.gsa) THAT YtdcjghailibedaaGreatProg.lean LOADS. Nothing in Lean hashes anything: it is a label: what it is worth is what the hold of that sum in a sandbox is worth. -/
noncomputable def Tryz.pinned : Pinned := { name := "ytdcjghailibedaagreat", sum := "d9dd67d5989957a576f4f61c96adc5bf7507370203e5677a542ad82765c64bcf", checked := Tryz.checked }
namespace Rows
def none {H : Type} : Left H := { results := [], args := [] }

/-- 'thicketlaw24.ServerOrder': WHATEVER THE INPUT: true; the input reads as it did. -/
def serverOrderSpec : ChangeSpec := { name := "serverOrder", fn := fun _ => fun
  | [d1, d2] => { results := [.lit (.bool true)], args := [d1, d2] }
  | _ => none }
def serverOrderRow : OpenClaim := { program := "ytdcjghailibedaagreat", sum := "d9dd67d5989957a576f4f61c96adc5bf7507370203e5677a542ad82765c64bcf", func := "thicket/thicketlaw24.ServerOrder", spec := "serverOrder", inPlace := ["slices.overlaps[thicket/trees.ranked]"], unfollowed := true, recurses := true, plainKeys := false, apart := false }
def ServerOrderSaid : Prop := serverOrderRow.holds Tryz.pinned (OpenSpec.ofChange serverOrderSpec)

/-- ITS FALSE NEIGHBOUR: 'it returns false'. Refute it at one input. -/
def serverOrderWrong : ChangeSpec := { name := "serverOrder", fn := fun _ => fun
  | [d1, d2] => { results := [.lit (.bool false)], args := [d1, d2] }
  | _ => none }
def ServerOrderWrongFalsely : Prop := serverOrderRow.holds Tryz.pinned (OpenSpec.ofChange serverOrderWrong)

/-- 'thicketlaw28.ShellNumbers': WHATEVER THE INPUT: true; the input reads as it did. -/
def shellNumbersSpec : ChangeSpec := { name := "shellNumbers", fn := fun _ => fun
  | [] => { results := [.lit (.bool true)], args := [] }
  | _ => none }
def shellNumbersRow : OpenClaim := { program := "ytdcjghailibedaagreat", sum := "d9dd67d5989957a576f4f61c96adc5bf7507370203e5677a542ad82765c64bcf", func := "thicket/thicketlaw28.ShellNumbers", spec := "shellNumbers", inPlace := ["slices.overlaps[thicket/trees.ranked]"], unfollowed := true, recurses := true, plainKeys := false, apart := false }
def ShellNumbersSaid : Prop := shellNumbersRow.holds Tryz.pinned (OpenSpec.ofChange shellNumbersSpec)

/-- ITS FALSE NEIGHBOUR: 'it returns false'. Refute it at one input. -/
def shellNumbersWrong : ChangeSpec := { name := "shellNumbers", fn := fun _ => fun
  | [] => { results := [.lit (.bool false)], args := [] }
  | _ => none }
def ShellNumbersWrongFalsely : Prop := shellNumbersRow.holds Tryz.pinned (OpenSpec.ofChange shellNumbersWrong)

/-- 'thicketlaw28.ShellWrites': WHATEVER THE INPUT: true; the input reads as it did. -/
def shellWritesSpec : ChangeSpec := { name := "shellWrites", fn := fun _ => fun
  | [d] => { results := [.lit (.bool true)], args := [d] }
  | _ => none }
def shellWritesRow : OpenClaim := { program := "ytdcjghailibedaagreat", sum := "d9dd67d5989957a576f4f61c96adc5bf7507370203e5677a542ad82765c64bcf", func := "thicket/thicketlaw28.ShellWrites", spec := "shellWrites", inPlace := ["slices.overlaps[thicket/trees.ranked]"], unfollowed := true, recurses := true, plainKeys := false, apart := false }
def ShellWritesSaid : Prop := shellWritesRow.holds Tryz.pinned (OpenSpec.ofChange shellWritesSpec)

/-- ITS FALSE NEIGHBOUR: 'it returns false'. Refute it at one input. -/
def shellWritesWrong : ChangeSpec := { name := "shellWrites", fn := fun _ => fun
  | [d] => { results := [.lit (.bool false)], args := [d] }
  | _ => none }
def ShellWritesWrongFalsely : Prop := shellWritesRow.holds Tryz.pinned (OpenSpec.ofChange shellWritesWrong)

/-- 'thicketlaw28.ShellReads': WHATEVER THE INPUT: true; the input reads as it did. -/
def shellReadsSpec : ChangeSpec := { name := "shellReads", fn := fun _ => fun
  | [d1, d2, d3, d4] => { results := [.lit (.bool true)], args := [d1, d2, d3, d4] }
  | _ => none }
def shellReadsRow : OpenClaim := { program := "ytdcjghailibedaagreat", sum := "d9dd67d5989957a576f4f61c96adc5bf7507370203e5677a542ad82765c64bcf", func := "thicket/thicketlaw28.ShellReads", spec := "shellReads", inPlace := ["slices.overlaps[thicket/trees.ranked]"], unfollowed := true, recurses := true, plainKeys := false, apart := false }
def ShellReadsSaid : Prop := shellReadsRow.holds Tryz.pinned (OpenSpec.ofChange shellReadsSpec)

/-- ITS FALSE NEIGHBOUR: 'it returns false'. Refute it at one input. -/
def shellReadsWrong : ChangeSpec := { name := "shellReads", fn := fun _ => fun
  | [d1, d2, d3, d4] => { results := [.lit (.bool false)], args := [d1, d2, d3, d4] }
  | _ => none }
def ShellReadsWrongFalsely : Prop := shellReadsRow.holds Tryz.pinned (OpenSpec.ofChange shellReadsWrong)

/-- 'thicketlaw28.ShellBack': WHATEVER THE INPUT: true; the input reads as it did. -/
def shellBackSpec : ChangeSpec := { name := "shellBack", fn := fun _ => fun
  | [d1, d2] => { results := [.lit (.bool true)], args := [d1, d2] }
  | _ => none }
def shellBackRow : OpenClaim := { program := "ytdcjghailibedaagreat", sum := "d9dd67d5989957a576f4f61c96adc5bf7507370203e5677a542ad82765c64bcf", func := "thicket/thicketlaw28.ShellBack", spec := "shellBack", inPlace := ["slices.overlaps[thicket/trees.ranked]"], unfollowed := true, recurses := true, plainKeys := false, apart := false }
def ShellBackSaid : Prop := shellBackRow.holds Tryz.pinned (OpenSpec.ofChange shellBackSpec)

/-- ITS FALSE NEIGHBOUR: 'it returns false'. Refute it at one input. -/
def shellBackWrong : ChangeSpec := { name := "shellBack", fn := fun _ => fun
  | [d1, d2] => { results := [.lit (.bool false)], args := [d1, d2] }
  | _ => none }
def ShellBackWrongFalsely : Prop := shellBackRow.holds Tryz.pinned (OpenSpec.ofChange shellBackWrong)

/-- 'thicketlaw28.ShellCuts': WHATEVER THE INPUT: true; the input reads as it did. -/
def shellCutsSpec : ChangeSpec := { name := "shellCuts", fn := fun _ => fun
  | [d1, d2, d3] => { results := [.lit (.bool true)], args := [d1, d2, d3] }
  | _ => none }
def shellCutsRow : OpenClaim := { program := "ytdcjghailibedaagreat", sum := "d9dd67d5989957a576f4f61c96adc5bf7507370203e5677a542ad82765c64bcf", func := "thicket/thicketlaw28.ShellCuts", spec := "shellCuts", inPlace := ["slices.overlaps[thicket/trees.ranked]"], unfollowed := true, recurses := true, plainKeys := false, apart := false }
def ShellCutsSaid : Prop := shellCutsRow.holds Tryz.pinned (OpenSpec.ofChange shellCutsSpec)

/-- ITS FALSE NEIGHBOUR: 'it returns false'. Refute it at one input. -/
def shellCutsWrong : ChangeSpec := { name := "shellCuts", fn := fun _ => fun
  | [d1, d2, d3] => { results := [.lit (.bool false)], args := [d1, d2, d3] }
  | _ => none }
def ShellCutsWrongFalsely : Prop := shellCutsRow.holds Tryz.pinned (OpenSpec.ofChange shellCutsWrong)

/- THE SECOND FORM. 'bulk': how many values and letters a reading holds, each counted each time it is reached (what is shared counts as often as it is met; a slice's spare places count too). A statement '..UptoSaid' is the law's where the arguments, and the package variables that the reading takes, are together of bulk at most 1048576: NARROWER than '..Said'. Prove '..Said' where nothing that the law and all that it calls make is longer than what came in: it says more and counts as full. Else prove '..UptoSaid'. A law counts once. -/
mutual
def uptoBulk {H : Type} : DataW H → Nat
  | .lit (.string bytes) => bytes.length + 1
  | .lit _ => 1
  | .nil => 1
  | .ptr d => uptoBulk d + 1
  | .slice elems spare => uptoBulkAll elems + uptoBulkAll spare + 1
  | .agg parts => uptoBulkAll parts + 1
  | .iface _ d => uptoBulk d + 1
  | .map entries => uptoBulkEntries entries + 1
  | .held _ => 1
def uptoBulkAll {H : Type} : List (DataW H) → Nat
  | [] => 0
  | d :: r => uptoBulk d + uptoBulkAll r
def uptoBulkEntries {H : Type} : List (Lit × DataW H) → Nat
  | [] => 0
  | x :: r => uptoBulkEntry x + uptoBulkEntries r
def uptoBulkEntry {H : Type} : Lit × DataW H → Nat
  | (.string bytes, d) => bytes.length + uptoBulk d + 1
  | (_, d) => uptoBulk d + 1
 end
def uptoSmall : (H : Type) → List (DataW H) → Bool := fun _ ds => decide (uptoBulkAll ds ≤ 1048576)
def OpenSpec.upto (s : _root_.Go.ChangeSpec) : _root_.Go.OpenSpec := { _root_.Go.OpenSpec.ofChange s with cond := some uptoSmall }

/-- 'thicketlaw24.ServerOrder', WHERE WHAT IT READS IS OF BULK AT MOST 1048576: true; the input reads as it did. -/
def serverOrderUptoRow : OpenClaim := { program := "ytdcjghailibedaagreat", sum := "d9dd67d5989957a576f4f61c96adc5bf7507370203e5677a542ad82765c64bcf", func := "thicket/thicketlaw24.ServerOrder", spec := "serverOrder", inPlace := ["slices.overlaps[thicket/trees.ranked]"], unfollowed := true, recurses := true, plainKeys := false, apart := false, narrowed := true }
def ServerOrderUptoSaid : Prop := serverOrderUptoRow.holds Tryz.pinned (OpenSpec.upto serverOrderSpec)

/-- 'thicketlaw28.ShellNumbers', WHERE WHAT IT READS IS OF BULK AT MOST 1048576: true; the input reads as it did. -/
def shellNumbersUptoRow : OpenClaim := { program := "ytdcjghailibedaagreat", sum := "d9dd67d5989957a576f4f61c96adc5bf7507370203e5677a542ad82765c64bcf", func := "thicket/thicketlaw28.ShellNumbers", spec := "shellNumbers", inPlace := ["slices.overlaps[thicket/trees.ranked]"], unfollowed := true, recurses := true, plainKeys := false, apart := false, narrowed := true }
def ShellNumbersUptoSaid : Prop := shellNumbersUptoRow.holds Tryz.pinned (OpenSpec.upto shellNumbersSpec)

/-- 'thicketlaw28.ShellWrites', WHERE WHAT IT READS IS OF BULK AT MOST 1048576: true; the input reads as it did. -/
def shellWritesUptoRow : OpenClaim := { program := "ytdcjghailibedaagreat", sum := "d9dd67d5989957a576f4f61c96adc5bf7507370203e5677a542ad82765c64bcf", func := "thicket/thicketlaw28.ShellWrites", spec := "shellWrites", inPlace := ["slices.overlaps[thicket/trees.ranked]"], unfollowed := true, recurses := true, plainKeys := false, apart := false, narrowed := true }
def ShellWritesUptoSaid : Prop := shellWritesUptoRow.holds Tryz.pinned (OpenSpec.upto shellWritesSpec)

/-- 'thicketlaw28.ShellReads', WHERE WHAT IT READS IS OF BULK AT MOST 1048576: true; the input reads as it did. -/
def shellReadsUptoRow : OpenClaim := { program := "ytdcjghailibedaagreat", sum := "d9dd67d5989957a576f4f61c96adc5bf7507370203e5677a542ad82765c64bcf", func := "thicket/thicketlaw28.ShellReads", spec := "shellReads", inPlace := ["slices.overlaps[thicket/trees.ranked]"], unfollowed := true, recurses := true, plainKeys := false, apart := false, narrowed := true }
def ShellReadsUptoSaid : Prop := shellReadsUptoRow.holds Tryz.pinned (OpenSpec.upto shellReadsSpec)

/-- 'thicketlaw28.ShellBack', WHERE WHAT IT READS IS OF BULK AT MOST 1048576: true; the input reads as it did. -/
def shellBackUptoRow : OpenClaim := { program := "ytdcjghailibedaagreat", sum := "d9dd67d5989957a576f4f61c96adc5bf7507370203e5677a542ad82765c64bcf", func := "thicket/thicketlaw28.ShellBack", spec := "shellBack", inPlace := ["slices.overlaps[thicket/trees.ranked]"], unfollowed := true, recurses := true, plainKeys := false, apart := false, narrowed := true }
def ShellBackUptoSaid : Prop := shellBackUptoRow.holds Tryz.pinned (OpenSpec.upto shellBackSpec)

/-- 'thicketlaw28.ShellCuts', WHERE WHAT IT READS IS OF BULK AT MOST 1048576: true; the input reads as it did. -/
def shellCutsUptoRow : OpenClaim := { program := "ytdcjghailibedaagreat", sum := "d9dd67d5989957a576f4f61c96adc5bf7507370203e5677a542ad82765c64bcf", func := "thicket/thicketlaw28.ShellCuts", spec := "shellCuts", inPlace := ["slices.overlaps[thicket/trees.ranked]"], unfollowed := true, recurses := true, plainKeys := false, apart := false, narrowed := true }
def ShellCutsUptoSaid : Prop := shellCutsUptoRow.holds Tryz.pinned (OpenSpec.upto shellCutsSpec)

end Rows
end Go.Proofs.YtdcjghailibedaaGreat
