/-
  No cell of these rows narrows 'for every input' (looked for: loops, veiled, ifaces, maps, wideKeys, modest, calm, conditions, laid).
  DERIVED. THE GIVEN ROWS OF THIS SEAT. 3 by the template 'for every input the law returns true; each argument reads behind the call as it read before'; 0 by the template 'total and deterministic' (their statements: YtbpkejhpmakmbaaGreatTotals.lean).
  GIVEN WITH THE SEED: the statements are not yours to turn. If you find one false, say at which input.
  Laid BY PROGRAM, IN A SANDBOX (cutbox-rows.mjs): the forced cells as the released guide's own fill.sh prints them over the translation 7a54cd4ec037fb82… (all of the seat's roots in one cut). By AI agents, Wed Nov 11 2026. No macro, syntax, notation, axiom, sorry.
-/
import Derived.Test.YtbpkejhpmakmbaaGreatChecked
import GoSem.Claim
import GoSem.ClaimJoined
import GoSem.ClaimMapViews
import Derived.JoinedTies
import Derived.KernelRfl
namespace Go.Proofs.YtbpkejhpmakmbaaGreat
/- THE CELL 'sum', in the pinned program and in every row, IS THE sha256 OF THE DUMP (.gsa) THAT YtbpkejhpmakmbaaGreatProg.lean LOADS. Nothing in Lean hashes anything: it is a label: what it is worth is what the hold of that sum in a sandbox is worth. -/
noncomputable def Tryz.pinned : Pinned := { name := "ytbpkejhpmakmbaagreat", sum := "7a54cd4ec037fb825b5808b29efd0707553018604d90a6ea0900755610bc901f", checked := Tryz.checked }
namespace Rows
def none {H : Type} : Left H := { results := [], args := [] }

/-- 'thicketlaw27.FairNumbers': WHATEVER THE INPUT: true; the input reads as it did. -/
def fairNumbersSpec : ChangeSpec := { name := "fairNumbers", fn := fun _ => fun
  | [] => { results := [.lit (.bool true)], args := [] }
  | _ => none }
def fairNumbersRow : OpenClaim := { program := "ytbpkejhpmakmbaagreat", sum := "7a54cd4ec037fb825b5808b29efd0707553018604d90a6ea0900755610bc901f", func := "thicket/thicketlaw27.FairNumbers", spec := "fairNumbers", inPlace := ["slices.overlaps[thicket/trees.ranked]"], unfollowed := true, recurses := true, plainKeys := false, apart := false }
def FairNumbersSaid : Prop := fairNumbersRow.holds Tryz.pinned (OpenSpec.ofChange fairNumbersSpec)

/-- ITS FALSE NEIGHBOUR: 'it returns false'. Refute it at one input. -/
def fairNumbersWrong : ChangeSpec := { name := "fairNumbers", fn := fun _ => fun
  | [] => { results := [.lit (.bool false)], args := [] }
  | _ => none }
def FairNumbersWrongFalsely : Prop := fairNumbersRow.holds Tryz.pinned (OpenSpec.ofChange fairNumbersWrong)

/-- 'thicketlaw22.DispatchNumbers': WHATEVER THE INPUT: true; the input reads as it did. -/
def dispatchNumbersSpec : ChangeSpec := { name := "dispatchNumbers", fn := fun _ => fun
  | [] => { results := [.lit (.bool true)], args := [] }
  | _ => none }
def dispatchNumbersRow : OpenClaim := { program := "ytbpkejhpmakmbaagreat", sum := "7a54cd4ec037fb825b5808b29efd0707553018604d90a6ea0900755610bc901f", func := "thicket/thicketlaw22.DispatchNumbers", spec := "dispatchNumbers", inPlace := ["slices.overlaps[thicket/trees.ranked]"], unfollowed := true, recurses := true, plainKeys := false, apart := false }
def DispatchNumbersSaid : Prop := dispatchNumbersRow.holds Tryz.pinned (OpenSpec.ofChange dispatchNumbersSpec)

/-- ITS FALSE NEIGHBOUR: 'it returns false'. Refute it at one input. -/
def dispatchNumbersWrong : ChangeSpec := { name := "dispatchNumbers", fn := fun _ => fun
  | [] => { results := [.lit (.bool false)], args := [] }
  | _ => none }
def DispatchNumbersWrongFalsely : Prop := dispatchNumbersRow.holds Tryz.pinned (OpenSpec.ofChange dispatchNumbersWrong)

/-- 'thicketlaw25.TraceNumbers': WHATEVER THE INPUT: true; the input reads as it did. -/
def traceNumbersSpec : ChangeSpec := { name := "traceNumbers", fn := fun _ => fun
  | [] => { results := [.lit (.bool true)], args := [] }
  | _ => none }
def traceNumbersRow : OpenClaim := { program := "ytbpkejhpmakmbaagreat", sum := "7a54cd4ec037fb825b5808b29efd0707553018604d90a6ea0900755610bc901f", func := "thicket/thicketlaw25.TraceNumbers", spec := "traceNumbers", inPlace := ["slices.overlaps[thicket/trees.ranked]"], unfollowed := true, recurses := true, plainKeys := false, apart := false }
def TraceNumbersSaid : Prop := traceNumbersRow.holds Tryz.pinned (OpenSpec.ofChange traceNumbersSpec)

/-- ITS FALSE NEIGHBOUR: 'it returns false'. Refute it at one input. -/
def traceNumbersWrong : ChangeSpec := { name := "traceNumbers", fn := fun _ => fun
  | [] => { results := [.lit (.bool false)], args := [] }
  | _ => none }
def TraceNumbersWrongFalsely : Prop := traceNumbersRow.holds Tryz.pinned (OpenSpec.ofChange traceNumbersWrong)

/- THE SECOND FORM. 'bulk': how many values and letters a reading holds, each counted each time it is reached (what is shared counts as often as it is met; a slice's spare places count too). A statement '..UptoSaid' is the law's where the arguments, and the package variables that the reading takes, are together of bulk at most 1048576: NARROWER than '..Said'. Prove '..Said' where nothing that the law and all that it calls make is longer than what came in: it says more and counts as full. Else prove '..UptoSaid'. A law counts once. -/
mutual
def uptoBulk {H : Type} : DataW H → Nat
  | .lit (.string bytes) => bytes.length + 1
  | .lit _ => 1
  | .nil => 1
  | .ptr d => uptoBulk d + 1
  | .slice elems spare => uptoBulkAll elems + uptoBulkAll spare + 1
  | .agg parts => uptoBulkAll parts + 1
  | .iface _ d => uptoBulk d + 1
  | .map entries => uptoBulkEntries entries + 1
  | .held _ => 1
def uptoBulkAll {H : Type} : List (DataW H) → Nat
  | [] => 0
  | d :: r => uptoBulk d + uptoBulkAll r
def uptoBulkEntries {H : Type} : List (Lit × DataW H) → Nat
  | [] => 0
  | x :: r => uptoBulkEntry x + uptoBulkEntries r
def uptoBulkEntry {H : Type} : Lit × DataW H → Nat
  | (.string bytes, d) => bytes.length + uptoBulk d + 1
  | (_, d) => uptoBulk d + 1
 end
def uptoSmall : (H : Type) → List (DataW H) → Bool := fun _ ds => decide (uptoBulkAll ds ≤ 1048576)
def OpenSpec.upto (s : _root_.Go.ChangeSpec) : _root_.Go.OpenSpec := { _root_.Go.OpenSpec.ofChange s with cond := some uptoSmall }

/-- 'thicketlaw27.FairNumbers', WHERE WHAT IT READS IS OF BULK AT MOST 1048576: true; the input reads as it did. -/
def fairNumbersUptoRow : OpenClaim := { program := "ytbpkejhpmakmbaagreat", sum := "7a54cd4ec037fb825b5808b29efd0707553018604d90a6ea0900755610bc901f", func := "thicket/thicketlaw27.FairNumbers", spec := "fairNumbers", inPlace := ["slices.overlaps[thicket/trees.ranked]"], unfollowed := true, recurses := true, plainKeys := false, apart := false, narrowed := true }
def FairNumbersUptoSaid : Prop := fairNumbersUptoRow.holds Tryz.pinned (OpenSpec.upto fairNumbersSpec)

/-- 'thicketlaw22.DispatchNumbers', WHERE WHAT IT READS IS OF BULK AT MOST 1048576: true; the input reads as it did. -/
def dispatchNumbersUptoRow : OpenClaim := { program := "ytbpkejhpmakmbaagreat", sum := "7a54cd4ec037fb825b5808b29efd0707553018604d90a6ea0900755610bc901f", func := "thicket/thicketlaw22.DispatchNumbers", spec := "dispatchNumbers", inPlace := ["slices.overlaps[thicket/trees.ranked]"], unfollowed := true, recurses := true, plainKeys := false, apart := false, narrowed := true }
def DispatchNumbersUptoSaid : Prop := dispatchNumbersUptoRow.holds Tryz.pinned (OpenSpec.upto dispatchNumbersSpec)

/-- 'thicketlaw25.TraceNumbers', WHERE WHAT IT READS IS OF BULK AT MOST 1048576: true; the input reads as it did. -/
def traceNumbersUptoRow : OpenClaim := { program := "ytbpkejhpmakmbaagreat", sum := "7a54cd4ec037fb825b5808b29efd0707553018604d90a6ea0900755610bc901f", func := "thicket/thicketlaw25.TraceNumbers", spec := "traceNumbers", inPlace := ["slices.overlaps[thicket/trees.ranked]"], unfollowed := true, recurses := true, plainKeys := false, apart := false, narrowed := true }
def TraceNumbersUptoSaid : Prop := traceNumbersUptoRow.holds Tryz.pinned (OpenSpec.upto traceNumbersSpec)

end Rows
end Go.Proofs.YtbpkejhpmakmbaaGreat
