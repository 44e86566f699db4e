/-
  No cell of these rows narrows 'for every input' (looked for: loops, veiled, ifaces, maps, wideKeys, modest, calm, conditions, laid).
  DERIVED. THE GIVEN ROWS OF THIS SEAT. 14 by the template 'for every input the law returns true; each argument reads behind the call as it read before'; 0 by the template 'total and deterministic' (their statements: YtmidmkinclmbdaaGreatTotals.lean).
  GIVEN WITH THE SEED: the statements are not yours to turn. If you find one false, say at which input.
  Laid BY PROGRAM, IN A SANDBOX (cutbox-rows.mjs): the forced cells as the released guide's own fill.sh prints them over the translation bad2364ddbc9ff87… (all of the seat's roots in one cut). By AI agents, Wed Nov 11 2026. No macro, syntax, notation, axiom, sorry.
-/
import Derived.Test.YtmidmkinclmbdaaGreatChecked
import GoSem.Claim
import GoSem.ClaimJoined
import GoSem.ClaimMapViews
import Derived.JoinedTies
import Derived.KernelRfl
namespace Go.Proofs.YtmidmkinclmbdaaGreat
/- THE CELL 'sum', in the pinned program and in every row, IS THE sha256 OF THE DUMP (.gsa) THAT YtmidmkinclmbdaaGreatProg.lean LOADS. Nothing in Lean hashes anything: it is a label: what it is worth is what the hold of that sum in a sandbox is worth. -/
noncomputable def Tryz.pinned : Pinned := { name := "ytmidmkinclmbdaagreat", sum := "bad2364ddbc9ff873a5b6973395f75f9c5045c0980769bfc05a0aeb76ac38fbf", checked := Tryz.checked }
namespace Rows
def none {H : Type} : Left H := { results := [], args := [] }

/-- 'thicketlaw9.BinomialGreat': WHATEVER THE INPUT: true; the input reads as it did. -/
def binomialGreatSpec : ChangeSpec := { name := "binomialGreat", fn := fun _ => fun
  | [d1, d2, d3] => { results := [.lit (.bool true)], args := [d1, d2, d3] }
  | _ => none }
def binomialGreatRow : OpenClaim := { program := "ytmidmkinclmbdaagreat", sum := "bad2364ddbc9ff873a5b6973395f75f9c5045c0980769bfc05a0aeb76ac38fbf", func := "thicket/thicketlaw9.BinomialGreat", spec := "binomialGreat", inPlace := ["slices.overlaps[thicket/trees.ranked]"], unfollowed := true, recurses := true, apart := false }
def BinomialGreatSaid : Prop := binomialGreatRow.holds Tryz.pinned (OpenSpec.ofChange binomialGreatSpec)

/-- ITS FALSE NEIGHBOUR: 'it returns false'. Refute it at one input. -/
def binomialGreatWrong : ChangeSpec := { name := "binomialGreat", fn := fun _ => fun
  | [d1, d2, d3] => { results := [.lit (.bool false)], args := [d1, d2, d3] }
  | _ => none }
def BinomialGreatWrongFalsely : Prop := binomialGreatRow.holds Tryz.pinned (OpenSpec.ofChange binomialGreatWrong)

/-- 'thicketlaw9.BinomialMelds': WHATEVER THE INPUT: true; the input reads as it did. -/
def binomialMeldsSpec : ChangeSpec := { name := "binomialMelds", fn := fun _ => fun
  | [d1, d2] => { results := [.lit (.bool true)], args := [d1, d2] }
  | _ => none }
def binomialMeldsRow : OpenClaim := { program := "ytmidmkinclmbdaagreat", sum := "bad2364ddbc9ff873a5b6973395f75f9c5045c0980769bfc05a0aeb76ac38fbf", func := "thicket/thicketlaw9.BinomialMelds", spec := "binomialMelds", inPlace := ["slices.overlaps[thicket/trees.ranked]"], unfollowed := true, recurses := true, apart := false }
def BinomialMeldsSaid : Prop := binomialMeldsRow.holds Tryz.pinned (OpenSpec.ofChange binomialMeldsSpec)

/-- ITS FALSE NEIGHBOUR: 'it returns false'. Refute it at one input. -/
def binomialMeldsWrong : ChangeSpec := { name := "binomialMelds", fn := fun _ => fun
  | [d1, d2] => { results := [.lit (.bool false)], args := [d1, d2] }
  | _ => none }
def BinomialMeldsWrongFalsely : Prop := binomialMeldsRow.holds Tryz.pinned (OpenSpec.ofChange binomialMeldsWrong)

/-- 'thicketlaw9.BinomialSorts': WHATEVER THE INPUT: true; the input reads as it did. -/
def binomialSortsSpec : ChangeSpec := { name := "binomialSorts", fn := fun _ => fun
  | [d1, d2] => { results := [.lit (.bool true)], args := [d1, d2] }
  | _ => none }
def binomialSortsRow : OpenClaim := { program := "ytmidmkinclmbdaagreat", sum := "bad2364ddbc9ff873a5b6973395f75f9c5045c0980769bfc05a0aeb76ac38fbf", func := "thicket/thicketlaw9.BinomialSorts", spec := "binomialSorts", inPlace := ["slices.overlaps[thicket/trees.ranked]"], unfollowed := true, recurses := true, apart := false }
def BinomialSortsSaid : Prop := binomialSortsRow.holds Tryz.pinned (OpenSpec.ofChange binomialSortsSpec)

/-- ITS FALSE NEIGHBOUR: 'it returns false'. Refute it at one input. -/
def binomialSortsWrong : ChangeSpec := { name := "binomialSorts", fn := fun _ => fun
  | [d1, d2] => { results := [.lit (.bool false)], args := [d1, d2] }
  | _ => none }
def BinomialSortsWrongFalsely : Prop := binomialSortsRow.holds Tryz.pinned (OpenSpec.ofChange binomialSortsWrong)

/-- 'thicketlaw11.SkewGreat': WHATEVER THE INPUT: true; the input reads as it did. -/
def skewGreatSpec : ChangeSpec := { name := "skewGreat", fn := fun _ => fun
  | [d1, d2, d3] => { results := [.lit (.bool true)], args := [d1, d2, d3] }
  | _ => none }
def skewGreatRow : OpenClaim := { program := "ytmidmkinclmbdaagreat", sum := "bad2364ddbc9ff873a5b6973395f75f9c5045c0980769bfc05a0aeb76ac38fbf", func := "thicket/thicketlaw11.SkewGreat", spec := "skewGreat", inPlace := ["slices.overlaps[thicket/trees.ranked]"], unfollowed := true, recurses := true, apart := false }
def SkewGreatSaid : Prop := skewGreatRow.holds Tryz.pinned (OpenSpec.ofChange skewGreatSpec)

/-- ITS FALSE NEIGHBOUR: 'it returns false'. Refute it at one input. -/
def skewGreatWrong : ChangeSpec := { name := "skewGreat", fn := fun _ => fun
  | [d1, d2, d3] => { results := [.lit (.bool false)], args := [d1, d2, d3] }
  | _ => none }
def SkewGreatWrongFalsely : Prop := skewGreatRow.holds Tryz.pinned (OpenSpec.ofChange skewGreatWrong)

/-- 'thicketlaw11.SkewMelds': WHATEVER THE INPUT: true; the input reads as it did. -/
def skewMeldsSpec : ChangeSpec := { name := "skewMelds", fn := fun _ => fun
  | [d1, d2] => { results := [.lit (.bool true)], args := [d1, d2] }
  | _ => none }
def skewMeldsRow : OpenClaim := { program := "ytmidmkinclmbdaagreat", sum := "bad2364ddbc9ff873a5b6973395f75f9c5045c0980769bfc05a0aeb76ac38fbf", func := "thicket/thicketlaw11.SkewMelds", spec := "skewMelds", inPlace := ["slices.overlaps[thicket/trees.ranked]"], unfollowed := true, recurses := true, apart := false }
def SkewMeldsSaid : Prop := skewMeldsRow.holds Tryz.pinned (OpenSpec.ofChange skewMeldsSpec)

/-- ITS FALSE NEIGHBOUR: 'it returns false'. Refute it at one input. -/
def skewMeldsWrong : ChangeSpec := { name := "skewMelds", fn := fun _ => fun
  | [d1, d2] => { results := [.lit (.bool false)], args := [d1, d2] }
  | _ => none }
def SkewMeldsWrongFalsely : Prop := skewMeldsRow.holds Tryz.pinned (OpenSpec.ofChange skewMeldsWrong)

/-- 'thicketlaw9.BinomialFalls': WHATEVER THE INPUT: true; the input reads as it did. -/
def binomialFallsSpec : ChangeSpec := { name := "binomialFalls", fn := fun _ => fun
  | [d1, d2, d3] => { results := [.lit (.bool true)], args := [d1, d2, d3] }
  | _ => none }
def binomialFallsRow : OpenClaim := { program := "ytmidmkinclmbdaagreat", sum := "bad2364ddbc9ff873a5b6973395f75f9c5045c0980769bfc05a0aeb76ac38fbf", func := "thicket/thicketlaw9.BinomialFalls", spec := "binomialFalls", inPlace := ["slices.overlaps[thicket/trees.ranked]"], unfollowed := true, recurses := true, apart := false }
def BinomialFallsSaid : Prop := binomialFallsRow.holds Tryz.pinned (OpenSpec.ofChange binomialFallsSpec)

/-- ITS FALSE NEIGHBOUR: 'it returns false'. Refute it at one input. -/
def binomialFallsWrong : ChangeSpec := { name := "binomialFalls", fn := fun _ => fun
  | [d1, d2, d3] => { results := [.lit (.bool false)], args := [d1, d2, d3] }
  | _ => none }
def BinomialFallsWrongFalsely : Prop := binomialFallsRow.holds Tryz.pinned (OpenSpec.ofChange binomialFallsWrong)

/-- 'thicketlaw11.SkewSorts': WHATEVER THE INPUT: true; the input reads as it did. -/
def skewSortsSpec : ChangeSpec := { name := "skewSorts", fn := fun _ => fun
  | [d1, d2] => { results := [.lit (.bool true)], args := [d1, d2] }
  | _ => none }
def skewSortsRow : OpenClaim := { program := "ytmidmkinclmbdaagreat", sum := "bad2364ddbc9ff873a5b6973395f75f9c5045c0980769bfc05a0aeb76ac38fbf", func := "thicket/thicketlaw11.SkewSorts", spec := "skewSorts", inPlace := ["slices.overlaps[thicket/trees.ranked]"], unfollowed := true, recurses := true, apart := false }
def SkewSortsSaid : Prop := skewSortsRow.holds Tryz.pinned (OpenSpec.ofChange skewSortsSpec)

/-- ITS FALSE NEIGHBOUR: 'it returns false'. Refute it at one input. -/
def skewSortsWrong : ChangeSpec := { name := "skewSorts", fn := fun _ => fun
  | [d1, d2] => { results := [.lit (.bool false)], args := [d1, d2] }
  | _ => none }
def SkewSortsWrongFalsely : Prop := skewSortsRow.holds Tryz.pinned (OpenSpec.ofChange skewSortsWrong)

/-- 'thicketlaw9.BinomialPlays': WHATEVER THE INPUT: true; the input reads as it did. -/
def binomialPlaysSpec : ChangeSpec := { name := "binomialPlays", fn := fun _ => fun
  | [d] => { results := [.lit (.bool true)], args := [d] }
  | _ => none }
def binomialPlaysRow : OpenClaim := { program := "ytmidmkinclmbdaagreat", sum := "bad2364ddbc9ff873a5b6973395f75f9c5045c0980769bfc05a0aeb76ac38fbf", func := "thicket/thicketlaw9.BinomialPlays", spec := "binomialPlays", inPlace := ["slices.overlaps[thicket/trees.ranked]"], unfollowed := true, recurses := true, apart := false }
def BinomialPlaysSaid : Prop := binomialPlaysRow.holds Tryz.pinned (OpenSpec.ofChange binomialPlaysSpec)

/-- ITS FALSE NEIGHBOUR: 'it returns false'. Refute it at one input. -/
def binomialPlaysWrong : ChangeSpec := { name := "binomialPlays", fn := fun _ => fun
  | [d] => { results := [.lit (.bool false)], args := [d] }
  | _ => none }
def BinomialPlaysWrongFalsely : Prop := binomialPlaysRow.holds Tryz.pinned (OpenSpec.ofChange binomialPlaysWrong)

/-- 'thicketlaw9.BinomialFull': WHATEVER THE INPUT: true; the input reads as it did. -/
def binomialFullSpec : ChangeSpec := { name := "binomialFull", fn := fun _ => fun
  | [d1, d2] => { results := [.lit (.bool true)], args := [d1, d2] }
  | _ => none }
def binomialFullRow : OpenClaim := { program := "ytmidmkinclmbdaagreat", sum := "bad2364ddbc9ff873a5b6973395f75f9c5045c0980769bfc05a0aeb76ac38fbf", func := "thicket/thicketlaw9.BinomialFull", spec := "binomialFull", inPlace := ["slices.overlaps[thicket/trees.ranked]"], unfollowed := true, recurses := true, apart := false }
def BinomialFullSaid : Prop := binomialFullRow.holds Tryz.pinned (OpenSpec.ofChange binomialFullSpec)

/-- ITS FALSE NEIGHBOUR: 'it returns false'. Refute it at one input. -/
def binomialFullWrong : ChangeSpec := { name := "binomialFull", fn := fun _ => fun
  | [d1, d2] => { results := [.lit (.bool false)], args := [d1, d2] }
  | _ => none }
def BinomialFullWrongFalsely : Prop := binomialFullRow.holds Tryz.pinned (OpenSpec.ofChange binomialFullWrong)

/-- 'thicketlaw9.BinomialDrops': WHATEVER THE INPUT: true; the input reads as it did. -/
def binomialDropsSpec : ChangeSpec := { name := "binomialDrops", fn := fun _ => fun
  | [d1, d2] => { results := [.lit (.bool true)], args := [d1, d2] }
  | _ => none }
def binomialDropsRow : OpenClaim := { program := "ytmidmkinclmbdaagreat", sum := "bad2364ddbc9ff873a5b6973395f75f9c5045c0980769bfc05a0aeb76ac38fbf", func := "thicket/thicketlaw9.BinomialDrops", spec := "binomialDrops", inPlace := ["slices.overlaps[thicket/trees.ranked]"], unfollowed := true, recurses := true, apart := false }
def BinomialDropsSaid : Prop := binomialDropsRow.holds Tryz.pinned (OpenSpec.ofChange binomialDropsSpec)

/-- ITS FALSE NEIGHBOUR: 'it returns false'. Refute it at one input. -/
def binomialDropsWrong : ChangeSpec := { name := "binomialDrops", fn := fun _ => fun
  | [d1, d2] => { results := [.lit (.bool false)], args := [d1, d2] }
  | _ => none }
def BinomialDropsWrongFalsely : Prop := binomialDropsRow.holds Tryz.pinned (OpenSpec.ofChange binomialDropsWrong)

/-- 'thicketlaw11.SkewFalls': WHATEVER THE INPUT: true; the input reads as it did. -/
def skewFallsSpec : ChangeSpec := { name := "skewFalls", fn := fun _ => fun
  | [d1, d2, d3] => { results := [.lit (.bool true)], args := [d1, d2, d3] }
  | _ => none }
def skewFallsRow : OpenClaim := { program := "ytmidmkinclmbdaagreat", sum := "bad2364ddbc9ff873a5b6973395f75f9c5045c0980769bfc05a0aeb76ac38fbf", func := "thicket/thicketlaw11.SkewFalls", spec := "skewFalls", inPlace := ["slices.overlaps[thicket/trees.ranked]"], unfollowed := true, recurses := true, apart := false }
def SkewFallsSaid : Prop := skewFallsRow.holds Tryz.pinned (OpenSpec.ofChange skewFallsSpec)

/-- ITS FALSE NEIGHBOUR: 'it returns false'. Refute it at one input. -/
def skewFallsWrong : ChangeSpec := { name := "skewFalls", fn := fun _ => fun
  | [d1, d2, d3] => { results := [.lit (.bool false)], args := [d1, d2, d3] }
  | _ => none }
def SkewFallsWrongFalsely : Prop := skewFallsRow.holds Tryz.pinned (OpenSpec.ofChange skewFallsWrong)

/-- 'thicketlaw11.SkewPlays': WHATEVER THE INPUT: true; the input reads as it did. -/
def skewPlaysSpec : ChangeSpec := { name := "skewPlays", fn := fun _ => fun
  | [d] => { results := [.lit (.bool true)], args := [d] }
  | _ => none }
def skewPlaysRow : OpenClaim := { program := "ytmidmkinclmbdaagreat", sum := "bad2364ddbc9ff873a5b6973395f75f9c5045c0980769bfc05a0aeb76ac38fbf", func := "thicket/thicketlaw11.SkewPlays", spec := "skewPlays", inPlace := ["slices.overlaps[thicket/trees.ranked]"], unfollowed := true, recurses := true, apart := false }
def SkewPlaysSaid : Prop := skewPlaysRow.holds Tryz.pinned (OpenSpec.ofChange skewPlaysSpec)

/-- ITS FALSE NEIGHBOUR: 'it returns false'. Refute it at one input. -/
def skewPlaysWrong : ChangeSpec := { name := "skewPlays", fn := fun _ => fun
  | [d] => { results := [.lit (.bool false)], args := [d] }
  | _ => none }
def SkewPlaysWrongFalsely : Prop := skewPlaysRow.holds Tryz.pinned (OpenSpec.ofChange skewPlaysWrong)

/-- 'thicketlaw11.SkewFull': WHATEVER THE INPUT: true; the input reads as it did. -/
def skewFullSpec : ChangeSpec := { name := "skewFull", fn := fun _ => fun
  | [d1, d2] => { results := [.lit (.bool true)], args := [d1, d2] }
  | _ => none }
def skewFullRow : OpenClaim := { program := "ytmidmkinclmbdaagreat", sum := "bad2364ddbc9ff873a5b6973395f75f9c5045c0980769bfc05a0aeb76ac38fbf", func := "thicket/thicketlaw11.SkewFull", spec := "skewFull", inPlace := ["slices.overlaps[thicket/trees.ranked]"], unfollowed := true, recurses := true, apart := false }
def SkewFullSaid : Prop := skewFullRow.holds Tryz.pinned (OpenSpec.ofChange skewFullSpec)

/-- ITS FALSE NEIGHBOUR: 'it returns false'. Refute it at one input. -/
def skewFullWrong : ChangeSpec := { name := "skewFull", fn := fun _ => fun
  | [d1, d2] => { results := [.lit (.bool false)], args := [d1, d2] }
  | _ => none }
def SkewFullWrongFalsely : Prop := skewFullRow.holds Tryz.pinned (OpenSpec.ofChange skewFullWrong)

/-- 'thicketlaw11.SkewDrops': WHATEVER THE INPUT: true; the input reads as it did. -/
def skewDropsSpec : ChangeSpec := { name := "skewDrops", fn := fun _ => fun
  | [d1, d2] => { results := [.lit (.bool true)], args := [d1, d2] }
  | _ => none }
def skewDropsRow : OpenClaim := { program := "ytmidmkinclmbdaagreat", sum := "bad2364ddbc9ff873a5b6973395f75f9c5045c0980769bfc05a0aeb76ac38fbf", func := "thicket/thicketlaw11.SkewDrops", spec := "skewDrops", inPlace := ["slices.overlaps[thicket/trees.ranked]"], unfollowed := true, recurses := true, apart := false }
def SkewDropsSaid : Prop := skewDropsRow.holds Tryz.pinned (OpenSpec.ofChange skewDropsSpec)

/-- ITS FALSE NEIGHBOUR: 'it returns false'. Refute it at one input. -/
def skewDropsWrong : ChangeSpec := { name := "skewDrops", fn := fun _ => fun
  | [d1, d2] => { results := [.lit (.bool false)], args := [d1, d2] }
  | _ => none }
def SkewDropsWrongFalsely : Prop := skewDropsRow.holds Tryz.pinned (OpenSpec.ofChange skewDropsWrong)

/- THE SECOND FORM. 'bulk': how many values and letters a reading holds, each counted each time it is reached (what is shared counts as often as it is met; a slice's spare places count too). A statement '..UptoSaid' is the law's where the arguments, and the package variables that the reading takes, are together of bulk at most 1048576: NARROWER than '..Said'. Prove '..Said' where nothing that the law and all that it calls make is longer than what came in: it says more and counts as full. Else prove '..UptoSaid'. A law counts once. -/
mutual
def uptoBulk {H : Type} : DataW H → Nat
  | .lit (.string bytes) => bytes.length + 1
  | .lit _ => 1
  | .nil => 1
  | .ptr d => uptoBulk d + 1
  | .slice elems spare => uptoBulkAll elems + uptoBulkAll spare + 1
  | .agg parts => uptoBulkAll parts + 1
  | .iface _ d => uptoBulk d + 1
  | .map entries => uptoBulkEntries entries + 1
  | .held _ => 1
def uptoBulkAll {H : Type} : List (DataW H) → Nat
  | [] => 0
  | d :: r => uptoBulk d + uptoBulkAll r
def uptoBulkEntries {H : Type} : List (Lit × DataW H) → Nat
  | [] => 0
  | x :: r => uptoBulkEntry x + uptoBulkEntries r
def uptoBulkEntry {H : Type} : Lit × DataW H → Nat
  | (.string bytes, d) => bytes.length + uptoBulk d + 1
  | (_, d) => uptoBulk d + 1
 end
def uptoSmall : (H : Type) → List (DataW H) → Bool := fun _ ds => decide (uptoBulkAll ds ≤ 1048576)
def OpenSpec.upto (s : _root_.Go.ChangeSpec) : _root_.Go.OpenSpec := { _root_.Go.OpenSpec.ofChange s with cond := some uptoSmall }

/-- 'thicketlaw9.BinomialGreat', WHERE WHAT IT READS IS OF BULK AT MOST 1048576: true; the input reads as it did. -/
def binomialGreatUptoRow : OpenClaim := { program := "ytmidmkinclmbdaagreat", sum := "bad2364ddbc9ff873a5b6973395f75f9c5045c0980769bfc05a0aeb76ac38fbf", func := "thicket/thicketlaw9.BinomialGreat", spec := "binomialGreat", inPlace := ["slices.overlaps[thicket/trees.ranked]"], unfollowed := true, recurses := true, apart := false, narrowed := true }
def BinomialGreatUptoSaid : Prop := binomialGreatUptoRow.holds Tryz.pinned (OpenSpec.upto binomialGreatSpec)

/-- 'thicketlaw9.BinomialMelds', WHERE WHAT IT READS IS OF BULK AT MOST 1048576: true; the input reads as it did. -/
def binomialMeldsUptoRow : OpenClaim := { program := "ytmidmkinclmbdaagreat", sum := "bad2364ddbc9ff873a5b6973395f75f9c5045c0980769bfc05a0aeb76ac38fbf", func := "thicket/thicketlaw9.BinomialMelds", spec := "binomialMelds", inPlace := ["slices.overlaps[thicket/trees.ranked]"], unfollowed := true, recurses := true, apart := false, narrowed := true }
def BinomialMeldsUptoSaid : Prop := binomialMeldsUptoRow.holds Tryz.pinned (OpenSpec.upto binomialMeldsSpec)

/-- 'thicketlaw9.BinomialSorts', WHERE WHAT IT READS IS OF BULK AT MOST 1048576: true; the input reads as it did. -/
def binomialSortsUptoRow : OpenClaim := { program := "ytmidmkinclmbdaagreat", sum := "bad2364ddbc9ff873a5b6973395f75f9c5045c0980769bfc05a0aeb76ac38fbf", func := "thicket/thicketlaw9.BinomialSorts", spec := "binomialSorts", inPlace := ["slices.overlaps[thicket/trees.ranked]"], unfollowed := true, recurses := true, apart := false, narrowed := true }
def BinomialSortsUptoSaid : Prop := binomialSortsUptoRow.holds Tryz.pinned (OpenSpec.upto binomialSortsSpec)

/-- 'thicketlaw11.SkewGreat', WHERE WHAT IT READS IS OF BULK AT MOST 1048576: true; the input reads as it did. -/
def skewGreatUptoRow : OpenClaim := { program := "ytmidmkinclmbdaagreat", sum := "bad2364ddbc9ff873a5b6973395f75f9c5045c0980769bfc05a0aeb76ac38fbf", func := "thicket/thicketlaw11.SkewGreat", spec := "skewGreat", inPlace := ["slices.overlaps[thicket/trees.ranked]"], unfollowed := true, recurses := true, apart := false, narrowed := true }
def SkewGreatUptoSaid : Prop := skewGreatUptoRow.holds Tryz.pinned (OpenSpec.upto skewGreatSpec)

/-- 'thicketlaw11.SkewMelds', WHERE WHAT IT READS IS OF BULK AT MOST 1048576: true; the input reads as it did. -/
def skewMeldsUptoRow : OpenClaim := { program := "ytmidmkinclmbdaagreat", sum := "bad2364ddbc9ff873a5b6973395f75f9c5045c0980769bfc05a0aeb76ac38fbf", func := "thicket/thicketlaw11.SkewMelds", spec := "skewMelds", inPlace := ["slices.overlaps[thicket/trees.ranked]"], unfollowed := true, recurses := true, apart := false, narrowed := true }
def SkewMeldsUptoSaid : Prop := skewMeldsUptoRow.holds Tryz.pinned (OpenSpec.upto skewMeldsSpec)

/-- 'thicketlaw9.BinomialFalls', WHERE WHAT IT READS IS OF BULK AT MOST 1048576: true; the input reads as it did. -/
def binomialFallsUptoRow : OpenClaim := { program := "ytmidmkinclmbdaagreat", sum := "bad2364ddbc9ff873a5b6973395f75f9c5045c0980769bfc05a0aeb76ac38fbf", func := "thicket/thicketlaw9.BinomialFalls", spec := "binomialFalls", inPlace := ["slices.overlaps[thicket/trees.ranked]"], unfollowed := true, recurses := true, apart := false, narrowed := true }
def BinomialFallsUptoSaid : Prop := binomialFallsUptoRow.holds Tryz.pinned (OpenSpec.upto binomialFallsSpec)

/-- 'thicketlaw11.SkewSorts', WHERE WHAT IT READS IS OF BULK AT MOST 1048576: true; the input reads as it did. -/
def skewSortsUptoRow : OpenClaim := { program := "ytmidmkinclmbdaagreat", sum := "bad2364ddbc9ff873a5b6973395f75f9c5045c0980769bfc05a0aeb76ac38fbf", func := "thicket/thicketlaw11.SkewSorts", spec := "skewSorts", inPlace := ["slices.overlaps[thicket/trees.ranked]"], unfollowed := true, recurses := true, apart := false, narrowed := true }
def SkewSortsUptoSaid : Prop := skewSortsUptoRow.holds Tryz.pinned (OpenSpec.upto skewSortsSpec)

/-- 'thicketlaw9.BinomialPlays', WHERE WHAT IT READS IS OF BULK AT MOST 1048576: true; the input reads as it did. -/
def binomialPlaysUptoRow : OpenClaim := { program := "ytmidmkinclmbdaagreat", sum := "bad2364ddbc9ff873a5b6973395f75f9c5045c0980769bfc05a0aeb76ac38fbf", func := "thicket/thicketlaw9.BinomialPlays", spec := "binomialPlays", inPlace := ["slices.overlaps[thicket/trees.ranked]"], unfollowed := true, recurses := true, apart := false, narrowed := true }
def BinomialPlaysUptoSaid : Prop := binomialPlaysUptoRow.holds Tryz.pinned (OpenSpec.upto binomialPlaysSpec)

/-- 'thicketlaw9.BinomialFull', WHERE WHAT IT READS IS OF BULK AT MOST 1048576: true; the input reads as it did. -/
def binomialFullUptoRow : OpenClaim := { program := "ytmidmkinclmbdaagreat", sum := "bad2364ddbc9ff873a5b6973395f75f9c5045c0980769bfc05a0aeb76ac38fbf", func := "thicket/thicketlaw9.BinomialFull", spec := "binomialFull", inPlace := ["slices.overlaps[thicket/trees.ranked]"], unfollowed := true, recurses := true, apart := false, narrowed := true }
def BinomialFullUptoSaid : Prop := binomialFullUptoRow.holds Tryz.pinned (OpenSpec.upto binomialFullSpec)

/-- 'thicketlaw9.BinomialDrops', WHERE WHAT IT READS IS OF BULK AT MOST 1048576: true; the input reads as it did. -/
def binomialDropsUptoRow : OpenClaim := { program := "ytmidmkinclmbdaagreat", sum := "bad2364ddbc9ff873a5b6973395f75f9c5045c0980769bfc05a0aeb76ac38fbf", func := "thicket/thicketlaw9.BinomialDrops", spec := "binomialDrops", inPlace := ["slices.overlaps[thicket/trees.ranked]"], unfollowed := true, recurses := true, apart := false, narrowed := true }
def BinomialDropsUptoSaid : Prop := binomialDropsUptoRow.holds Tryz.pinned (OpenSpec.upto binomialDropsSpec)

/-- 'thicketlaw11.SkewFalls', WHERE WHAT IT READS IS OF BULK AT MOST 1048576: true; the input reads as it did. -/
def skewFallsUptoRow : OpenClaim := { program := "ytmidmkinclmbdaagreat", sum := "bad2364ddbc9ff873a5b6973395f75f9c5045c0980769bfc05a0aeb76ac38fbf", func := "thicket/thicketlaw11.SkewFalls", spec := "skewFalls", inPlace := ["slices.overlaps[thicket/trees.ranked]"], unfollowed := true, recurses := true, apart := false, narrowed := true }
def SkewFallsUptoSaid : Prop := skewFallsUptoRow.holds Tryz.pinned (OpenSpec.upto skewFallsSpec)

/-- 'thicketlaw11.SkewPlays', WHERE WHAT IT READS IS OF BULK AT MOST 1048576: true; the input reads as it did. -/
def skewPlaysUptoRow : OpenClaim := { program := "ytmidmkinclmbdaagreat", sum := "bad2364ddbc9ff873a5b6973395f75f9c5045c0980769bfc05a0aeb76ac38fbf", func := "thicket/thicketlaw11.SkewPlays", spec := "skewPlays", inPlace := ["slices.overlaps[thicket/trees.ranked]"], unfollowed := true, recurses := true, apart := false, narrowed := true }
def SkewPlaysUptoSaid : Prop := skewPlaysUptoRow.holds Tryz.pinned (OpenSpec.upto skewPlaysSpec)

/-- 'thicketlaw11.SkewFull', WHERE WHAT IT READS IS OF BULK AT MOST 1048576: true; the input reads as it did. -/
def skewFullUptoRow : OpenClaim := { program := "ytmidmkinclmbdaagreat", sum := "bad2364ddbc9ff873a5b6973395f75f9c5045c0980769bfc05a0aeb76ac38fbf", func := "thicket/thicketlaw11.SkewFull", spec := "skewFull", inPlace := ["slices.overlaps[thicket/trees.ranked]"], unfollowed := true, recurses := true, apart := false, narrowed := true }
def SkewFullUptoSaid : Prop := skewFullUptoRow.holds Tryz.pinned (OpenSpec.upto skewFullSpec)

/-- 'thicketlaw11.SkewDrops', WHERE WHAT IT READS IS OF BULK AT MOST 1048576: true; the input reads as it did. -/
def skewDropsUptoRow : OpenClaim := { program := "ytmidmkinclmbdaagreat", sum := "bad2364ddbc9ff873a5b6973395f75f9c5045c0980769bfc05a0aeb76ac38fbf", func := "thicket/thicketlaw11.SkewDrops", spec := "skewDrops", inPlace := ["slices.overlaps[thicket/trees.ranked]"], unfollowed := true, recurses := true, apart := false, narrowed := true }
def SkewDropsUptoSaid : Prop := skewDropsUptoRow.holds Tryz.pinned (OpenSpec.upto skewDropsSpec)

end Rows
end Go.Proofs.YtmidmkinclmbdaaGreat
