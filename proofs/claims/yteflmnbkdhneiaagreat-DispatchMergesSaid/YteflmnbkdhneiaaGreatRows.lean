/-
  No cell of these rows narrows 'for every input' (looked for: loops, veiled, ifaces, maps, wideKeys, modest, calm, conditions, laid).
  DERIVED. THE GIVEN ROWS OF THIS SEAT. 9 by the template 'for every input the law returns true; each argument reads behind the call as it read before'; 0 by the template 'total and deterministic' (their statements: YteflmnbkdhneiaaGreatTotals.lean).
  GIVEN WITH THE SEED: the statements are not yours to turn. If you find one false, say at which input.
  Laid BY PROGRAM, IN A SANDBOX (cutbox-rows.mjs): the forced cells as the released guide's own fill.sh prints them over the translation 7acc3f1239353e0b… (all of the seat's roots in one cut). By AI agents, Wed Nov 11 2026. No macro, syntax, notation, axiom, sorry.
-/
import Derived.Test.YteflmnbkdhneiaaGreatChecked
import GoSem.Claim
import GoSem.ClaimJoined
import GoSem.ClaimMapViews
import Derived.JoinedTies
import Derived.KernelRfl
namespace Go.Proofs.YteflmnbkdhneiaaGreat
/- THE CELL 'sum', in the pinned program and in every row, IS THE sha256 OF THE DUMP (.gsa) THAT YteflmnbkdhneiaaGreatProg.lean LOADS. Nothing in Lean hashes anything: it is a label: what it is worth is what the hold of that sum in a sandbox is worth. -/
noncomputable def Tryz.pinned : Pinned := { name := "yteflmnbkdhneiaagreat", sum := "7acc3f1239353e0bdf08dc4c35e99b6a103a1b2c538c7728fce32ea91c327d9f", checked := Tryz.checked }
namespace Rows
def none {H : Type} : Left H := { results := [], args := [] }

/-- 'thicketlaw22.DispatchTwins': WHATEVER THE INPUT: true; the input reads as it did. -/
def dispatchTwinsSpec : ChangeSpec := { name := "dispatchTwins", fn := fun _ => fun
  | [d1, d2, d3] => { results := [.lit (.bool true)], args := [d1, d2, d3] }
  | _ => none }
def dispatchTwinsRow : OpenClaim := { program := "yteflmnbkdhneiaagreat", sum := "7acc3f1239353e0bdf08dc4c35e99b6a103a1b2c538c7728fce32ea91c327d9f", func := "thicket/thicketlaw22.DispatchTwins", spec := "dispatchTwins", inPlace := ["slices.overlaps[thicket/trees.ranked]"], unfollowed := true, recurses := true, plainKeys := false, apart := false }
def DispatchTwinsSaid : Prop := dispatchTwinsRow.holds Tryz.pinned (OpenSpec.ofChange dispatchTwinsSpec)

/-- ITS FALSE NEIGHBOUR: 'it returns false'. Refute it at one input. -/
def dispatchTwinsWrong : ChangeSpec := { name := "dispatchTwins", fn := fun _ => fun
  | [d1, d2, d3] => { results := [.lit (.bool false)], args := [d1, d2, d3] }
  | _ => none }
def DispatchTwinsWrongFalsely : Prop := dispatchTwinsRow.holds Tryz.pinned (OpenSpec.ofChange dispatchTwinsWrong)

/-- 'thicketlaw22.DispatchEnds': WHATEVER THE INPUT: true; the input reads as it did. -/
def dispatchEndsSpec : ChangeSpec := { name := "dispatchEnds", fn := fun _ => fun
  | [d1, d2, d3, d4] => { results := [.lit (.bool true)], args := [d1, d2, d3, d4] }
  | _ => none }
def dispatchEndsRow : OpenClaim := { program := "yteflmnbkdhneiaagreat", sum := "7acc3f1239353e0bdf08dc4c35e99b6a103a1b2c538c7728fce32ea91c327d9f", func := "thicket/thicketlaw22.DispatchEnds", spec := "dispatchEnds", inPlace := ["slices.overlaps[thicket/trees.ranked]"], unfollowed := true, recurses := true, plainKeys := false, apart := false }
def DispatchEndsSaid : Prop := dispatchEndsRow.holds Tryz.pinned (OpenSpec.ofChange dispatchEndsSpec)

/-- ITS FALSE NEIGHBOUR: 'it returns false'. Refute it at one input. -/
def dispatchEndsWrong : ChangeSpec := { name := "dispatchEnds", fn := fun _ => fun
  | [d1, d2, d3, d4] => { results := [.lit (.bool false)], args := [d1, d2, d3, d4] }
  | _ => none }
def DispatchEndsWrongFalsely : Prop := dispatchEndsRow.holds Tryz.pinned (OpenSpec.ofChange dispatchEndsWrong)

/-- 'thicketlaw22.DispatchOnce': WHATEVER THE INPUT: true; the input reads as it did. -/
def dispatchOnceSpec : ChangeSpec := { name := "dispatchOnce", fn := fun _ => fun
  | [d1, d2, d3] => { results := [.lit (.bool true)], args := [d1, d2, d3] }
  | _ => none }
def dispatchOnceRow : OpenClaim := { program := "yteflmnbkdhneiaagreat", sum := "7acc3f1239353e0bdf08dc4c35e99b6a103a1b2c538c7728fce32ea91c327d9f", func := "thicket/thicketlaw22.DispatchOnce", spec := "dispatchOnce", inPlace := ["slices.overlaps[thicket/trees.ranked]"], unfollowed := true, recurses := true, plainKeys := false, apart := false }
def DispatchOnceSaid : Prop := dispatchOnceRow.holds Tryz.pinned (OpenSpec.ofChange dispatchOnceSpec)

/-- ITS FALSE NEIGHBOUR: 'it returns false'. Refute it at one input. -/
def dispatchOnceWrong : ChangeSpec := { name := "dispatchOnce", fn := fun _ => fun
  | [d1, d2, d3] => { results := [.lit (.bool false)], args := [d1, d2, d3] }
  | _ => none }
def DispatchOnceWrongFalsely : Prop := dispatchOnceRow.holds Tryz.pinned (OpenSpec.ofChange dispatchOnceWrong)

/-- 'thicketlaw22.DispatchKinds': WHATEVER THE INPUT: true; the input reads as it did. -/
def dispatchKindsSpec : ChangeSpec := { name := "dispatchKinds", fn := fun _ => fun
  | [d1, d2] => { results := [.lit (.bool true)], args := [d1, d2] }
  | _ => none }
def dispatchKindsRow : OpenClaim := { program := "yteflmnbkdhneiaagreat", sum := "7acc3f1239353e0bdf08dc4c35e99b6a103a1b2c538c7728fce32ea91c327d9f", func := "thicket/thicketlaw22.DispatchKinds", spec := "dispatchKinds", inPlace := ["slices.overlaps[thicket/trees.ranked]"], unfollowed := true, recurses := true, plainKeys := false, apart := false }
def DispatchKindsSaid : Prop := dispatchKindsRow.holds Tryz.pinned (OpenSpec.ofChange dispatchKindsSpec)

/-- ITS FALSE NEIGHBOUR: 'it returns false'. Refute it at one input. -/
def dispatchKindsWrong : ChangeSpec := { name := "dispatchKinds", fn := fun _ => fun
  | [d1, d2] => { results := [.lit (.bool false)], args := [d1, d2] }
  | _ => none }
def DispatchKindsWrongFalsely : Prop := dispatchKindsRow.holds Tryz.pinned (OpenSpec.ofChange dispatchKindsWrong)

/-- 'thicketlaw22.DispatchMerges': WHATEVER THE INPUT: true; the input reads as it did. -/
def dispatchMergesSpec : ChangeSpec := { name := "dispatchMerges", fn := fun _ => fun
  | [d1, d2] => { results := [.lit (.bool true)], args := [d1, d2] }
  | _ => none }
def dispatchMergesRow : OpenClaim := { program := "yteflmnbkdhneiaagreat", sum := "7acc3f1239353e0bdf08dc4c35e99b6a103a1b2c538c7728fce32ea91c327d9f", func := "thicket/thicketlaw22.DispatchMerges", spec := "dispatchMerges", inPlace := ["slices.overlaps[thicket/trees.ranked]"], unfollowed := true, recurses := true, plainKeys := false, apart := false }
def DispatchMergesSaid : Prop := dispatchMergesRow.holds Tryz.pinned (OpenSpec.ofChange dispatchMergesSpec)

/-- ITS FALSE NEIGHBOUR: 'it returns false'. Refute it at one input. -/
def dispatchMergesWrong : ChangeSpec := { name := "dispatchMerges", fn := fun _ => fun
  | [d1, d2] => { results := [.lit (.bool false)], args := [d1, d2] }
  | _ => none }
def DispatchMergesWrongFalsely : Prop := dispatchMergesRow.holds Tryz.pinned (OpenSpec.ofChange dispatchMergesWrong)

/-- 'thicketlaw22.DispatchNumbers': WHATEVER THE INPUT: true; the input reads as it did. -/
def dispatchNumbersSpec : ChangeSpec := { name := "dispatchNumbers", fn := fun _ => fun
  | [] => { results := [.lit (.bool true)], args := [] }
  | _ => none }
def dispatchNumbersRow : OpenClaim := { program := "yteflmnbkdhneiaagreat", sum := "7acc3f1239353e0bdf08dc4c35e99b6a103a1b2c538c7728fce32ea91c327d9f", func := "thicket/thicketlaw22.DispatchNumbers", spec := "dispatchNumbers", inPlace := ["slices.overlaps[thicket/trees.ranked]"], unfollowed := true, recurses := true, plainKeys := false, apart := false }
def DispatchNumbersSaid : Prop := dispatchNumbersRow.holds Tryz.pinned (OpenSpec.ofChange dispatchNumbersSpec)

/-- ITS FALSE NEIGHBOUR: 'it returns false'. Refute it at one input. -/
def dispatchNumbersWrong : ChangeSpec := { name := "dispatchNumbers", fn := fun _ => fun
  | [] => { results := [.lit (.bool false)], args := [] }
  | _ => none }
def DispatchNumbersWrongFalsely : Prop := dispatchNumbersRow.holds Tryz.pinned (OpenSpec.ofChange dispatchNumbersWrong)

/-- 'thicketlaw22.DispatchPlays': WHATEVER THE INPUT: true; the input reads as it did. -/
def dispatchPlaysSpec : ChangeSpec := { name := "dispatchPlays", fn := fun _ => fun
  | [d1, d2, d3] => { results := [.lit (.bool true)], args := [d1, d2, d3] }
  | _ => none }
def dispatchPlaysRow : OpenClaim := { program := "yteflmnbkdhneiaagreat", sum := "7acc3f1239353e0bdf08dc4c35e99b6a103a1b2c538c7728fce32ea91c327d9f", func := "thicket/thicketlaw22.DispatchPlays", spec := "dispatchPlays", inPlace := ["slices.overlaps[thicket/trees.ranked]"], unfollowed := true, recurses := true, plainKeys := false, apart := false }
def DispatchPlaysSaid : Prop := dispatchPlaysRow.holds Tryz.pinned (OpenSpec.ofChange dispatchPlaysSpec)

/-- ITS FALSE NEIGHBOUR: 'it returns false'. Refute it at one input. -/
def dispatchPlaysWrong : ChangeSpec := { name := "dispatchPlays", fn := fun _ => fun
  | [d1, d2, d3] => { results := [.lit (.bool false)], args := [d1, d2, d3] }
  | _ => none }
def DispatchPlaysWrongFalsely : Prop := dispatchPlaysRow.holds Tryz.pinned (OpenSpec.ofChange dispatchPlaysWrong)

/-- 'thicketlaw27.FairDrains': WHATEVER THE INPUT: true; the input reads as it did. -/
def fairDrainsSpec : ChangeSpec := { name := "fairDrains", fn := fun _ => fun
  | [d1, d2, d3, d4] => { results := [.lit (.bool true)], args := [d1, d2, d3, d4] }
  | _ => none }
def fairDrainsRow : OpenClaim := { program := "yteflmnbkdhneiaagreat", sum := "7acc3f1239353e0bdf08dc4c35e99b6a103a1b2c538c7728fce32ea91c327d9f", func := "thicket/thicketlaw27.FairDrains", spec := "fairDrains", inPlace := ["slices.overlaps[thicket/trees.ranked]"], unfollowed := true, recurses := true, plainKeys := false, apart := false }
def FairDrainsSaid : Prop := fairDrainsRow.holds Tryz.pinned (OpenSpec.ofChange fairDrainsSpec)

/-- ITS FALSE NEIGHBOUR: 'it returns false'. Refute it at one input. -/
def fairDrainsWrong : ChangeSpec := { name := "fairDrains", fn := fun _ => fun
  | [d1, d2, d3, d4] => { results := [.lit (.bool false)], args := [d1, d2, d3, d4] }
  | _ => none }
def FairDrainsWrongFalsely : Prop := fairDrainsRow.holds Tryz.pinned (OpenSpec.ofChange fairDrainsWrong)

/-- 'thicketlaw27.FairFires': WHATEVER THE INPUT: true; the input reads as it did. -/
def fairFiresSpec : ChangeSpec := { name := "fairFires", fn := fun _ => fun
  | [d1, d2, d3, d4] => { results := [.lit (.bool true)], args := [d1, d2, d3, d4] }
  | _ => none }
def fairFiresRow : OpenClaim := { program := "yteflmnbkdhneiaagreat", sum := "7acc3f1239353e0bdf08dc4c35e99b6a103a1b2c538c7728fce32ea91c327d9f", func := "thicket/thicketlaw27.FairFires", spec := "fairFires", inPlace := ["slices.overlaps[thicket/trees.ranked]"], unfollowed := true, recurses := true, plainKeys := false, apart := false }
def FairFiresSaid : Prop := fairFiresRow.holds Tryz.pinned (OpenSpec.ofChange fairFiresSpec)

/-- ITS FALSE NEIGHBOUR: 'it returns false'. Refute it at one input. -/
def fairFiresWrong : ChangeSpec := { name := "fairFires", fn := fun _ => fun
  | [d1, d2, d3, d4] => { results := [.lit (.bool false)], args := [d1, d2, d3, d4] }
  | _ => none }
def FairFiresWrongFalsely : Prop := fairFiresRow.holds Tryz.pinned (OpenSpec.ofChange fairFiresWrong)

/- THE SECOND FORM. 'bulk': how many values and letters a reading holds, each counted each time it is reached (what is shared counts as often as it is met; a slice's spare places count too). A statement '..UptoSaid' is the law's where the arguments, and the package variables that the reading takes, are together of bulk at most 1048576: NARROWER than '..Said'. Prove '..Said' where nothing that the law and all that it calls make is longer than what came in: it says more and counts as full. Else prove '..UptoSaid'. A law counts once. -/
mutual
def uptoBulk {H : Type} : DataW H → Nat
  | .lit (.string bytes) => bytes.length + 1
  | .lit _ => 1
  | .nil => 1
  | .ptr d => uptoBulk d + 1
  | .slice elems spare => uptoBulkAll elems + uptoBulkAll spare + 1
  | .agg parts => uptoBulkAll parts + 1
  | .iface _ d => uptoBulk d + 1
  | .map entries => uptoBulkEntries entries + 1
  | .held _ => 1
def uptoBulkAll {H : Type} : List (DataW H) → Nat
  | [] => 0
  | d :: r => uptoBulk d + uptoBulkAll r
def uptoBulkEntries {H : Type} : List (Lit × DataW H) → Nat
  | [] => 0
  | x :: r => uptoBulkEntry x + uptoBulkEntries r
def uptoBulkEntry {H : Type} : Lit × DataW H → Nat
  | (.string bytes, d) => bytes.length + uptoBulk d + 1
  | (_, d) => uptoBulk d + 1
 end
def uptoSmall : (H : Type) → List (DataW H) → Bool := fun _ ds => decide (uptoBulkAll ds ≤ 1048576)
def OpenSpec.upto (s : _root_.Go.ChangeSpec) : _root_.Go.OpenSpec := { _root_.Go.OpenSpec.ofChange s with cond := some uptoSmall }

/-- 'thicketlaw22.DispatchTwins', WHERE WHAT IT READS IS OF BULK AT MOST 1048576: true; the input reads as it did. -/
def dispatchTwinsUptoRow : OpenClaim := { program := "yteflmnbkdhneiaagreat", sum := "7acc3f1239353e0bdf08dc4c35e99b6a103a1b2c538c7728fce32ea91c327d9f", func := "thicket/thicketlaw22.DispatchTwins", spec := "dispatchTwins", inPlace := ["slices.overlaps[thicket/trees.ranked]"], unfollowed := true, recurses := true, plainKeys := false, apart := false, narrowed := true }
def DispatchTwinsUptoSaid : Prop := dispatchTwinsUptoRow.holds Tryz.pinned (OpenSpec.upto dispatchTwinsSpec)

/-- 'thicketlaw22.DispatchEnds', WHERE WHAT IT READS IS OF BULK AT MOST 1048576: true; the input reads as it did. -/
def dispatchEndsUptoRow : OpenClaim := { program := "yteflmnbkdhneiaagreat", sum := "7acc3f1239353e0bdf08dc4c35e99b6a103a1b2c538c7728fce32ea91c327d9f", func := "thicket/thicketlaw22.DispatchEnds", spec := "dispatchEnds", inPlace := ["slices.overlaps[thicket/trees.ranked]"], unfollowed := true, recurses := true, plainKeys := false, apart := false, narrowed := true }
def DispatchEndsUptoSaid : Prop := dispatchEndsUptoRow.holds Tryz.pinned (OpenSpec.upto dispatchEndsSpec)

/-- 'thicketlaw22.DispatchOnce', WHERE WHAT IT READS IS OF BULK AT MOST 1048576: true; the input reads as it did. -/
def dispatchOnceUptoRow : OpenClaim := { program := "yteflmnbkdhneiaagreat", sum := "7acc3f1239353e0bdf08dc4c35e99b6a103a1b2c538c7728fce32ea91c327d9f", func := "thicket/thicketlaw22.DispatchOnce", spec := "dispatchOnce", inPlace := ["slices.overlaps[thicket/trees.ranked]"], unfollowed := true, recurses := true, plainKeys := false, apart := false, narrowed := true }
def DispatchOnceUptoSaid : Prop := dispatchOnceUptoRow.holds Tryz.pinned (OpenSpec.upto dispatchOnceSpec)

/-- 'thicketlaw22.DispatchKinds', WHERE WHAT IT READS IS OF BULK AT MOST 1048576: true; the input reads as it did. -/
def dispatchKindsUptoRow : OpenClaim := { program := "yteflmnbkdhneiaagreat", sum := "7acc3f1239353e0bdf08dc4c35e99b6a103a1b2c538c7728fce32ea91c327d9f", func := "thicket/thicketlaw22.DispatchKinds", spec := "dispatchKinds", inPlace := ["slices.overlaps[thicket/trees.ranked]"], unfollowed := true, recurses := true, plainKeys := false, apart := false, narrowed := true }
def DispatchKindsUptoSaid : Prop := dispatchKindsUptoRow.holds Tryz.pinned (OpenSpec.upto dispatchKindsSpec)

/-- 'thicketlaw22.DispatchMerges', WHERE WHAT IT READS IS OF BULK AT MOST 1048576: true; the input reads as it did. -/
def dispatchMergesUptoRow : OpenClaim := { program := "yteflmnbkdhneiaagreat", sum := "7acc3f1239353e0bdf08dc4c35e99b6a103a1b2c538c7728fce32ea91c327d9f", func := "thicket/thicketlaw22.DispatchMerges", spec := "dispatchMerges", inPlace := ["slices.overlaps[thicket/trees.ranked]"], unfollowed := true, recurses := true, plainKeys := false, apart := false, narrowed := true }
def DispatchMergesUptoSaid : Prop := dispatchMergesUptoRow.holds Tryz.pinned (OpenSpec.upto dispatchMergesSpec)

/-- 'thicketlaw22.DispatchNumbers', WHERE WHAT IT READS IS OF BULK AT MOST 1048576: true; the input reads as it did. -/
def dispatchNumbersUptoRow : OpenClaim := { program := "yteflmnbkdhneiaagreat", sum := "7acc3f1239353e0bdf08dc4c35e99b6a103a1b2c538c7728fce32ea91c327d9f", func := "thicket/thicketlaw22.DispatchNumbers", spec := "dispatchNumbers", inPlace := ["slices.overlaps[thicket/trees.ranked]"], unfollowed := true, recurses := true, plainKeys := false, apart := false, narrowed := true }
def DispatchNumbersUptoSaid : Prop := dispatchNumbersUptoRow.holds Tryz.pinned (OpenSpec.upto dispatchNumbersSpec)

/-- 'thicketlaw22.DispatchPlays', WHERE WHAT IT READS IS OF BULK AT MOST 1048576: true; the input reads as it did. -/
def dispatchPlaysUptoRow : OpenClaim := { program := "yteflmnbkdhneiaagreat", sum := "7acc3f1239353e0bdf08dc4c35e99b6a103a1b2c538c7728fce32ea91c327d9f", func := "thicket/thicketlaw22.DispatchPlays", spec := "dispatchPlays", inPlace := ["slices.overlaps[thicket/trees.ranked]"], unfollowed := true, recurses := true, plainKeys := false, apart := false, narrowed := true }
def DispatchPlaysUptoSaid : Prop := dispatchPlaysUptoRow.holds Tryz.pinned (OpenSpec.upto dispatchPlaysSpec)

/-- 'thicketlaw27.FairDrains', WHERE WHAT IT READS IS OF BULK AT MOST 1048576: true; the input reads as it did. -/
def fairDrainsUptoRow : OpenClaim := { program := "yteflmnbkdhneiaagreat", sum := "7acc3f1239353e0bdf08dc4c35e99b6a103a1b2c538c7728fce32ea91c327d9f", func := "thicket/thicketlaw27.FairDrains", spec := "fairDrains", inPlace := ["slices.overlaps[thicket/trees.ranked]"], unfollowed := true, recurses := true, plainKeys := false, apart := false, narrowed := true }
def FairDrainsUptoSaid : Prop := fairDrainsUptoRow.holds Tryz.pinned (OpenSpec.upto fairDrainsSpec)

/-- 'thicketlaw27.FairFires', WHERE WHAT IT READS IS OF BULK AT MOST 1048576: true; the input reads as it did. -/
def fairFiresUptoRow : OpenClaim := { program := "yteflmnbkdhneiaagreat", sum := "7acc3f1239353e0bdf08dc4c35e99b6a103a1b2c538c7728fce32ea91c327d9f", func := "thicket/thicketlaw27.FairFires", spec := "fairFires", inPlace := ["slices.overlaps[thicket/trees.ranked]"], unfollowed := true, recurses := true, plainKeys := false, apart := false, narrowed := true }
def FairFiresUptoSaid : Prop := fairFiresUptoRow.holds Tryz.pinned (OpenSpec.upto fairFiresSpec)

end Rows
end Go.Proofs.YteflmnbkdhneiaaGreat
