/-
  No cell of these rows narrows 'for every input' (looked for: loops, veiled, ifaces, maps, wideKeys, modest, calm, conditions, laid).
  DERIVED. THE GIVEN ROWS OF THIS SEAT. 2 by the template 'for every input the law returns true; each argument reads behind the call as it read before'; 0 by the template 'total and deterministic' (their statements: YtccbfeafebllhaaGreatTotals.lean).
  GIVEN WITH THE SEED: the statements are not yours to turn. If you find one false, say at which input.
  Laid BY PROGRAM, IN A SANDBOX (cutbox-rows.mjs): the forced cells as the released guide's own fill.sh prints them over the translation 7e52b461ca8ac7cd… (all of the seat's roots in one cut). By AI agents, Wed Nov 11 2026. No macro, syntax, notation, axiom, sorry.
-/
import Derived.Test.YtccbfeafebllhaaGreatChecked
import GoSem.Claim
import GoSem.ClaimJoined
import GoSem.ClaimMapViews
import Derived.JoinedTies
import Derived.KernelRfl
namespace Go.Proofs.YtccbfeafebllhaaGreat
/- THE CELL 'sum', in the pinned program and in every row, IS THE sha256 OF THE DUMP (.gsa) THAT YtccbfeafebllhaaGreatProg.lean LOADS. Nothing in Lean hashes anything: it is a label: what it is worth is what the hold of that sum in a sandbox is worth. -/
noncomputable def Tryz.pinned : Pinned := { name := "ytccbfeafebllhaagreat", sum := "7e52b461ca8ac7cdda691345d91dccbce0b034206b4e8ea2cef6996229c67f12", checked := Tryz.checked }
namespace Rows
def none {H : Type} : Left H := { results := [], args := [] }

/-- 'thicketlaw25.TraceTwins': WHATEVER THE INPUT: true; the input reads as it did. -/
def traceTwinsSpec : ChangeSpec := { name := "traceTwins", fn := fun _ => fun
  | [d1, d2] => { results := [.lit (.bool true)], args := [d1, d2] }
  | _ => none }
def traceTwinsRow : OpenClaim := { program := "ytccbfeafebllhaagreat", sum := "7e52b461ca8ac7cdda691345d91dccbce0b034206b4e8ea2cef6996229c67f12", func := "thicket/thicketlaw25.TraceTwins", spec := "traceTwins", inPlace := ["slices.overlaps[thicket/trees.ranked]"], unfollowed := true, recurses := true, plainKeys := false, apart := false }
def TraceTwinsSaid : Prop := traceTwinsRow.holds Tryz.pinned (OpenSpec.ofChange traceTwinsSpec)

/-- ITS FALSE NEIGHBOUR: 'it returns false'. Refute it at one input. -/
def traceTwinsWrong : ChangeSpec := { name := "traceTwins", fn := fun _ => fun
  | [d1, d2] => { results := [.lit (.bool false)], args := [d1, d2] }
  | _ => none }
def TraceTwinsWrongFalsely : Prop := traceTwinsRow.holds Tryz.pinned (OpenSpec.ofChange traceTwinsWrong)

/-- 'thicketlaw25.TracePlays': WHATEVER THE INPUT: true; the input reads as it did. -/
def tracePlaysSpec : ChangeSpec := { name := "tracePlays", fn := fun _ => fun
  | [d1, d2, d3] => { results := [.lit (.bool true)], args := [d1, d2, d3] }
  | _ => none }
def tracePlaysRow : OpenClaim := { program := "ytccbfeafebllhaagreat", sum := "7e52b461ca8ac7cdda691345d91dccbce0b034206b4e8ea2cef6996229c67f12", func := "thicket/thicketlaw25.TracePlays", spec := "tracePlays", inPlace := ["slices.overlaps[thicket/trees.ranked]"], unfollowed := true, recurses := true, plainKeys := false, apart := false }
def TracePlaysSaid : Prop := tracePlaysRow.holds Tryz.pinned (OpenSpec.ofChange tracePlaysSpec)

/-- ITS FALSE NEIGHBOUR: 'it returns false'. Refute it at one input. -/
def tracePlaysWrong : ChangeSpec := { name := "tracePlays", fn := fun _ => fun
  | [d1, d2, d3] => { results := [.lit (.bool false)], args := [d1, d2, d3] }
  | _ => none }
def TracePlaysWrongFalsely : Prop := tracePlaysRow.holds Tryz.pinned (OpenSpec.ofChange tracePlaysWrong)

/- THE SECOND FORM. 'bulk': how many values and letters a reading holds, each counted each time it is reached (what is shared counts as often as it is met; a slice's spare places count too). A statement '..UptoSaid' is the law's where the arguments, and the package variables that the reading takes, are together of bulk at most 1048576: NARROWER than '..Said'. Prove '..Said' where nothing that the law and all that it calls make is longer than what came in: it says more and counts as full. Else prove '..UptoSaid'. A law counts once. -/
mutual
def uptoBulk {H : Type} : DataW H → Nat
  | .lit (.string bytes) => bytes.length + 1
  | .lit _ => 1
  | .nil => 1
  | .ptr d => uptoBulk d + 1
  | .slice elems spare => uptoBulkAll elems + uptoBulkAll spare + 1
  | .agg parts => uptoBulkAll parts + 1
  | .iface _ d => uptoBulk d + 1
  | .map entries => uptoBulkEntries entries + 1
  | .held _ => 1
def uptoBulkAll {H : Type} : List (DataW H) → Nat
  | [] => 0
  | d :: r => uptoBulk d + uptoBulkAll r
def uptoBulkEntries {H : Type} : List (Lit × DataW H) → Nat
  | [] => 0
  | x :: r => uptoBulkEntry x + uptoBulkEntries r
def uptoBulkEntry {H : Type} : Lit × DataW H → Nat
  | (.string bytes, d) => bytes.length + uptoBulk d + 1
  | (_, d) => uptoBulk d + 1
 end
def uptoSmall : (H : Type) → List (DataW H) → Bool := fun _ ds => decide (uptoBulkAll ds ≤ 1048576)
def OpenSpec.upto (s : _root_.Go.ChangeSpec) : _root_.Go.OpenSpec := { _root_.Go.OpenSpec.ofChange s with cond := some uptoSmall }

/-- 'thicketlaw25.TraceTwins', WHERE WHAT IT READS IS OF BULK AT MOST 1048576: true; the input reads as it did. -/
def traceTwinsUptoRow : OpenClaim := { program := "ytccbfeafebllhaagreat", sum := "7e52b461ca8ac7cdda691345d91dccbce0b034206b4e8ea2cef6996229c67f12", func := "thicket/thicketlaw25.TraceTwins", spec := "traceTwins", inPlace := ["slices.overlaps[thicket/trees.ranked]"], unfollowed := true, recurses := true, plainKeys := false, apart := false, narrowed := true }
def TraceTwinsUptoSaid : Prop := traceTwinsUptoRow.holds Tryz.pinned (OpenSpec.upto traceTwinsSpec)

/-- 'thicketlaw25.TracePlays', WHERE WHAT IT READS IS OF BULK AT MOST 1048576: true; the input reads as it did. -/
def tracePlaysUptoRow : OpenClaim := { program := "ytccbfeafebllhaagreat", sum := "7e52b461ca8ac7cdda691345d91dccbce0b034206b4e8ea2cef6996229c67f12", func := "thicket/thicketlaw25.TracePlays", spec := "tracePlays", inPlace := ["slices.overlaps[thicket/trees.ranked]"], unfollowed := true, recurses := true, plainKeys := false, apart := false, narrowed := true }
def TracePlaysUptoSaid : Prop := tracePlaysUptoRow.holds Tryz.pinned (OpenSpec.upto tracePlaysSpec)

end Rows
end Go.Proofs.YtccbfeafebllhaaGreat
