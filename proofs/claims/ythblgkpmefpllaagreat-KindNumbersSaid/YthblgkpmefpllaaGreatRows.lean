/-
  No cell of these rows narrows 'for every input' (looked for: loops, veiled, ifaces, maps, wideKeys, modest, calm, conditions, laid).
  DERIVED. THE GIVEN ROWS OF THIS SEAT. 12 by the template 'for every input the law returns true; each argument reads behind the call as it read before'; 0 by the template 'total and deterministic' (their statements: YthblgkpmefpllaaGreatTotals.lean).
  GIVEN WITH THE SEED: the statements are not yours to turn. If you find one false, say at which input.
  Laid BY PROGRAM, IN A SANDBOX (cutbox-rows.mjs): the forced cells as the released guide's own fill.sh prints them over the translation 3af770ffda26d67a… (all of the seat's roots in one cut). By AI agents, Wed Nov 11 2026. No macro, syntax, notation, axiom, sorry.
-/
import Derived.Test.YthblgkpmefpllaaGreatChecked
import GoSem.Claim
import GoSem.ClaimJoined
import GoSem.ClaimMapViews
import Derived.JoinedTies
import Derived.KernelRfl
namespace Go.Proofs.YthblgkpmefpllaaGreat
/- THE CELL 'sum', in the pinned program and in every row, IS THE sha256 OF THE DUMP (.gsa) THAT YthblgkpmefpllaaGreatProg.lean LOADS. Nothing in Lean hashes anything: it is a label: what it is worth is what the hold of that sum in a sandbox is worth. -/
noncomputable def Tryz.pinned : Pinned := { name := "ythblgkpmefpllaagreat", sum := "3af770ffda26d67a90d6929213df250e9eadfdfcba5b4808199b27dd6606df6c", checked := Tryz.checked }
namespace Rows
def none {H : Type} : Left H := { results := [], args := [] }

/-- 'thicketlaw9.BinomialGreat': WHATEVER THE INPUT: true; the input reads as it did. -/
def binomialGreatSpec : ChangeSpec := { name := "binomialGreat", fn := fun _ => fun
  | [d1, d2, d3] => { results := [.lit (.bool true)], args := [d1, d2, d3] }
  | _ => none }
def binomialGreatRow : OpenClaim := { program := "ythblgkpmefpllaagreat", sum := "3af770ffda26d67a90d6929213df250e9eadfdfcba5b4808199b27dd6606df6c", func := "thicket/thicketlaw9.BinomialGreat", spec := "binomialGreat", inPlace := ["slices.overlaps[thicket/trees.ranked]"], unfollowed := true, recurses := true, apart := false }
def BinomialGreatSaid : Prop := binomialGreatRow.holds Tryz.pinned (OpenSpec.ofChange binomialGreatSpec)

/-- ITS FALSE NEIGHBOUR: 'it returns false'. Refute it at one input. -/
def binomialGreatWrong : ChangeSpec := { name := "binomialGreat", fn := fun _ => fun
  | [d1, d2, d3] => { results := [.lit (.bool false)], args := [d1, d2, d3] }
  | _ => none }
def BinomialGreatWrongFalsely : Prop := binomialGreatRow.holds Tryz.pinned (OpenSpec.ofChange binomialGreatWrong)

/-- 'thicketlaw9.BinomialMelds': WHATEVER THE INPUT: true; the input reads as it did. -/
def binomialMeldsSpec : ChangeSpec := { name := "binomialMelds", fn := fun _ => fun
  | [d1, d2] => { results := [.lit (.bool true)], args := [d1, d2] }
  | _ => none }
def binomialMeldsRow : OpenClaim := { program := "ythblgkpmefpllaagreat", sum := "3af770ffda26d67a90d6929213df250e9eadfdfcba5b4808199b27dd6606df6c", func := "thicket/thicketlaw9.BinomialMelds", spec := "binomialMelds", inPlace := ["slices.overlaps[thicket/trees.ranked]"], unfollowed := true, recurses := true, apart := false }
def BinomialMeldsSaid : Prop := binomialMeldsRow.holds Tryz.pinned (OpenSpec.ofChange binomialMeldsSpec)

/-- ITS FALSE NEIGHBOUR: 'it returns false'. Refute it at one input. -/
def binomialMeldsWrong : ChangeSpec := { name := "binomialMelds", fn := fun _ => fun
  | [d1, d2] => { results := [.lit (.bool false)], args := [d1, d2] }
  | _ => none }
def BinomialMeldsWrongFalsely : Prop := binomialMeldsRow.holds Tryz.pinned (OpenSpec.ofChange binomialMeldsWrong)

/-- 'thicketlaw9.BinomialSorts': WHATEVER THE INPUT: true; the input reads as it did. -/
def binomialSortsSpec : ChangeSpec := { name := "binomialSorts", fn := fun _ => fun
  | [d1, d2] => { results := [.lit (.bool true)], args := [d1, d2] }
  | _ => none }
def binomialSortsRow : OpenClaim := { program := "ythblgkpmefpllaagreat", sum := "3af770ffda26d67a90d6929213df250e9eadfdfcba5b4808199b27dd6606df6c", func := "thicket/thicketlaw9.BinomialSorts", spec := "binomialSorts", inPlace := ["slices.overlaps[thicket/trees.ranked]"], unfollowed := true, recurses := true, apart := false }
def BinomialSortsSaid : Prop := binomialSortsRow.holds Tryz.pinned (OpenSpec.ofChange binomialSortsSpec)

/-- ITS FALSE NEIGHBOUR: 'it returns false'. Refute it at one input. -/
def binomialSortsWrong : ChangeSpec := { name := "binomialSorts", fn := fun _ => fun
  | [d1, d2] => { results := [.lit (.bool false)], args := [d1, d2] }
  | _ => none }
def BinomialSortsWrongFalsely : Prop := binomialSortsRow.holds Tryz.pinned (OpenSpec.ofChange binomialSortsWrong)

/-- 'thicketlaw9.BinomialFalls': WHATEVER THE INPUT: true; the input reads as it did. -/
def binomialFallsSpec : ChangeSpec := { name := "binomialFalls", fn := fun _ => fun
  | [d1, d2, d3] => { results := [.lit (.bool true)], args := [d1, d2, d3] }
  | _ => none }
def binomialFallsRow : OpenClaim := { program := "ythblgkpmefpllaagreat", sum := "3af770ffda26d67a90d6929213df250e9eadfdfcba5b4808199b27dd6606df6c", func := "thicket/thicketlaw9.BinomialFalls", spec := "binomialFalls", inPlace := ["slices.overlaps[thicket/trees.ranked]"], unfollowed := true, recurses := true, apart := false }
def BinomialFallsSaid : Prop := binomialFallsRow.holds Tryz.pinned (OpenSpec.ofChange binomialFallsSpec)

/-- ITS FALSE NEIGHBOUR: 'it returns false'. Refute it at one input. -/
def binomialFallsWrong : ChangeSpec := { name := "binomialFalls", fn := fun _ => fun
  | [d1, d2, d3] => { results := [.lit (.bool false)], args := [d1, d2, d3] }
  | _ => none }
def BinomialFallsWrongFalsely : Prop := binomialFallsRow.holds Tryz.pinned (OpenSpec.ofChange binomialFallsWrong)

/-- 'thicketlaw9.BinomialNumbers': WHATEVER THE INPUT: true; the input reads as it did. -/
def binomialNumbersSpec : ChangeSpec := { name := "binomialNumbers", fn := fun _ => fun
  | [] => { results := [.lit (.bool true)], args := [] }
  | _ => none }
def binomialNumbersRow : OpenClaim := { program := "ythblgkpmefpllaagreat", sum := "3af770ffda26d67a90d6929213df250e9eadfdfcba5b4808199b27dd6606df6c", func := "thicket/thicketlaw9.BinomialNumbers", spec := "binomialNumbers", inPlace := ["slices.overlaps[thicket/trees.ranked]"], unfollowed := true, recurses := true, apart := false }
def BinomialNumbersSaid : Prop := binomialNumbersRow.holds Tryz.pinned (OpenSpec.ofChange binomialNumbersSpec)

/-- ITS FALSE NEIGHBOUR: 'it returns false'. Refute it at one input. -/
def binomialNumbersWrong : ChangeSpec := { name := "binomialNumbers", fn := fun _ => fun
  | [] => { results := [.lit (.bool false)], args := [] }
  | _ => none }
def BinomialNumbersWrongFalsely : Prop := binomialNumbersRow.holds Tryz.pinned (OpenSpec.ofChange binomialNumbersWrong)

/-- 'thicketlaw9.BinomialPlays': WHATEVER THE INPUT: true; the input reads as it did. -/
def binomialPlaysSpec : ChangeSpec := { name := "binomialPlays", fn := fun _ => fun
  | [d] => { results := [.lit (.bool true)], args := [d] }
  | _ => none }
def binomialPlaysRow : OpenClaim := { program := "ythblgkpmefpllaagreat", sum := "3af770ffda26d67a90d6929213df250e9eadfdfcba5b4808199b27dd6606df6c", func := "thicket/thicketlaw9.BinomialPlays", spec := "binomialPlays", inPlace := ["slices.overlaps[thicket/trees.ranked]"], unfollowed := true, recurses := true, apart := false }
def BinomialPlaysSaid : Prop := binomialPlaysRow.holds Tryz.pinned (OpenSpec.ofChange binomialPlaysSpec)

/-- ITS FALSE NEIGHBOUR: 'it returns false'. Refute it at one input. -/
def binomialPlaysWrong : ChangeSpec := { name := "binomialPlays", fn := fun _ => fun
  | [d] => { results := [.lit (.bool false)], args := [d] }
  | _ => none }
def BinomialPlaysWrongFalsely : Prop := binomialPlaysRow.holds Tryz.pinned (OpenSpec.ofChange binomialPlaysWrong)

/-- 'thicketlaw9.BinomialFull': WHATEVER THE INPUT: true; the input reads as it did. -/
def binomialFullSpec : ChangeSpec := { name := "binomialFull", fn := fun _ => fun
  | [d1, d2] => { results := [.lit (.bool true)], args := [d1, d2] }
  | _ => none }
def binomialFullRow : OpenClaim := { program := "ythblgkpmefpllaagreat", sum := "3af770ffda26d67a90d6929213df250e9eadfdfcba5b4808199b27dd6606df6c", func := "thicket/thicketlaw9.BinomialFull", spec := "binomialFull", inPlace := ["slices.overlaps[thicket/trees.ranked]"], unfollowed := true, recurses := true, apart := false }
def BinomialFullSaid : Prop := binomialFullRow.holds Tryz.pinned (OpenSpec.ofChange binomialFullSpec)

/-- ITS FALSE NEIGHBOUR: 'it returns false'. Refute it at one input. -/
def binomialFullWrong : ChangeSpec := { name := "binomialFull", fn := fun _ => fun
  | [d1, d2] => { results := [.lit (.bool false)], args := [d1, d2] }
  | _ => none }
def BinomialFullWrongFalsely : Prop := binomialFullRow.holds Tryz.pinned (OpenSpec.ofChange binomialFullWrong)

/-- 'thicketlaw9.BinomialDrops': WHATEVER THE INPUT: true; the input reads as it did. -/
def binomialDropsSpec : ChangeSpec := { name := "binomialDrops", fn := fun _ => fun
  | [d1, d2] => { results := [.lit (.bool true)], args := [d1, d2] }
  | _ => none }
def binomialDropsRow : OpenClaim := { program := "ythblgkpmefpllaagreat", sum := "3af770ffda26d67a90d6929213df250e9eadfdfcba5b4808199b27dd6606df6c", func := "thicket/thicketlaw9.BinomialDrops", spec := "binomialDrops", inPlace := ["slices.overlaps[thicket/trees.ranked]"], unfollowed := true, recurses := true, apart := false }
def BinomialDropsSaid : Prop := binomialDropsRow.holds Tryz.pinned (OpenSpec.ofChange binomialDropsSpec)

/-- ITS FALSE NEIGHBOUR: 'it returns false'. Refute it at one input. -/
def binomialDropsWrong : ChangeSpec := { name := "binomialDrops", fn := fun _ => fun
  | [d1, d2] => { results := [.lit (.bool false)], args := [d1, d2] }
  | _ => none }
def BinomialDropsWrongFalsely : Prop := binomialDropsRow.holds Tryz.pinned (OpenSpec.ofChange binomialDropsWrong)

/-- 'thicketlaw15.KindTwins': WHATEVER THE INPUT: true; the input reads as it did. -/
def kindTwinsSpec : ChangeSpec := { name := "kindTwins", fn := fun _ => fun
  | [d] => { results := [.lit (.bool true)], args := [d] }
  | _ => none }
def kindTwinsRow : OpenClaim := { program := "ythblgkpmefpllaagreat", sum := "3af770ffda26d67a90d6929213df250e9eadfdfcba5b4808199b27dd6606df6c", func := "thicket/thicketlaw15.KindTwins", spec := "kindTwins", inPlace := ["slices.overlaps[thicket/trees.ranked]"], unfollowed := true, recurses := true, apart := false }
def KindTwinsSaid : Prop := kindTwinsRow.holds Tryz.pinned (OpenSpec.ofChange kindTwinsSpec)

/-- ITS FALSE NEIGHBOUR: 'it returns false'. Refute it at one input. -/
def kindTwinsWrong : ChangeSpec := { name := "kindTwins", fn := fun _ => fun
  | [d] => { results := [.lit (.bool false)], args := [d] }
  | _ => none }
def KindTwinsWrongFalsely : Prop := kindTwinsRow.holds Tryz.pinned (OpenSpec.ofChange kindTwinsWrong)

/-- 'thicketlaw15.KindSorts': WHATEVER THE INPUT: true; the input reads as it did. -/
def kindSortsSpec : ChangeSpec := { name := "kindSorts", fn := fun _ => fun
  | [d1, d2] => { results := [.lit (.bool true)], args := [d1, d2] }
  | _ => none }
def kindSortsRow : OpenClaim := { program := "ythblgkpmefpllaagreat", sum := "3af770ffda26d67a90d6929213df250e9eadfdfcba5b4808199b27dd6606df6c", func := "thicket/thicketlaw15.KindSorts", spec := "kindSorts", inPlace := ["slices.overlaps[thicket/trees.ranked]"], unfollowed := true, recurses := true, apart := false }
def KindSortsSaid : Prop := kindSortsRow.holds Tryz.pinned (OpenSpec.ofChange kindSortsSpec)

/-- ITS FALSE NEIGHBOUR: 'it returns false'. Refute it at one input. -/
def kindSortsWrong : ChangeSpec := { name := "kindSorts", fn := fun _ => fun
  | [d1, d2] => { results := [.lit (.bool false)], args := [d1, d2] }
  | _ => none }
def KindSortsWrongFalsely : Prop := kindSortsRow.holds Tryz.pinned (OpenSpec.ofChange kindSortsWrong)

/-- 'thicketlaw15.KindNumbers': WHATEVER THE INPUT: true; the input reads as it did. -/
def kindNumbersSpec : ChangeSpec := { name := "kindNumbers", fn := fun _ => fun
  | [] => { results := [.lit (.bool true)], args := [] }
  | _ => none }
def kindNumbersRow : OpenClaim := { program := "ythblgkpmefpllaagreat", sum := "3af770ffda26d67a90d6929213df250e9eadfdfcba5b4808199b27dd6606df6c", func := "thicket/thicketlaw15.KindNumbers", spec := "kindNumbers", inPlace := ["slices.overlaps[thicket/trees.ranked]"], unfollowed := true, recurses := true, apart := false }
def KindNumbersSaid : Prop := kindNumbersRow.holds Tryz.pinned (OpenSpec.ofChange kindNumbersSpec)

/-- ITS FALSE NEIGHBOUR: 'it returns false'. Refute it at one input. -/
def kindNumbersWrong : ChangeSpec := { name := "kindNumbers", fn := fun _ => fun
  | [] => { results := [.lit (.bool false)], args := [] }
  | _ => none }
def KindNumbersWrongFalsely : Prop := kindNumbersRow.holds Tryz.pinned (OpenSpec.ofChange kindNumbersWrong)

/-- 'thicketlaw15.KindDrops': WHATEVER THE INPUT: true; the input reads as it did. -/
def kindDropsSpec : ChangeSpec := { name := "kindDrops", fn := fun _ => fun
  | [d1, d2] => { results := [.lit (.bool true)], args := [d1, d2] }
  | _ => none }
def kindDropsRow : OpenClaim := { program := "ythblgkpmefpllaagreat", sum := "3af770ffda26d67a90d6929213df250e9eadfdfcba5b4808199b27dd6606df6c", func := "thicket/thicketlaw15.KindDrops", spec := "kindDrops", inPlace := ["slices.overlaps[thicket/trees.ranked]"], unfollowed := true, recurses := true, apart := false }
def KindDropsSaid : Prop := kindDropsRow.holds Tryz.pinned (OpenSpec.ofChange kindDropsSpec)

/-- ITS FALSE NEIGHBOUR: 'it returns false'. Refute it at one input. -/
def kindDropsWrong : ChangeSpec := { name := "kindDrops", fn := fun _ => fun
  | [d1, d2] => { results := [.lit (.bool false)], args := [d1, d2] }
  | _ => none }
def KindDropsWrongFalsely : Prop := kindDropsRow.holds Tryz.pinned (OpenSpec.ofChange kindDropsWrong)

/- THE SECOND FORM. 'bulk': how many values and letters a reading holds, each counted each time it is reached (what is shared counts as often as it is met; a slice's spare places count too). A statement '..UptoSaid' is the law's where the arguments, and the package variables that the reading takes, are together of bulk at most 1048576: NARROWER than '..Said'. Prove '..Said' where nothing that the law and all that it calls make is longer than what came in: it says more and counts as full. Else prove '..UptoSaid'. A law counts once. -/
mutual
def uptoBulk {H : Type} : DataW H → Nat
  | .lit (.string bytes) => bytes.length + 1
  | .lit _ => 1
  | .nil => 1
  | .ptr d => uptoBulk d + 1
  | .slice elems spare => uptoBulkAll elems + uptoBulkAll spare + 1
  | .agg parts => uptoBulkAll parts + 1
  | .iface _ d => uptoBulk d + 1
  | .map entries => uptoBulkEntries entries + 1
  | .held _ => 1
def uptoBulkAll {H : Type} : List (DataW H) → Nat
  | [] => 0
  | d :: r => uptoBulk d + uptoBulkAll r
def uptoBulkEntries {H : Type} : List (Lit × DataW H) → Nat
  | [] => 0
  | x :: r => uptoBulkEntry x + uptoBulkEntries r
def uptoBulkEntry {H : Type} : Lit × DataW H → Nat
  | (.string bytes, d) => bytes.length + uptoBulk d + 1
  | (_, d) => uptoBulk d + 1
 end
def uptoSmall : (H : Type) → List (DataW H) → Bool := fun _ ds => decide (uptoBulkAll ds ≤ 1048576)
def OpenSpec.upto (s : _root_.Go.ChangeSpec) : _root_.Go.OpenSpec := { _root_.Go.OpenSpec.ofChange s with cond := some uptoSmall }

/-- 'thicketlaw9.BinomialGreat', WHERE WHAT IT READS IS OF BULK AT MOST 1048576: true; the input reads as it did. -/
def binomialGreatUptoRow : OpenClaim := { program := "ythblgkpmefpllaagreat", sum := "3af770ffda26d67a90d6929213df250e9eadfdfcba5b4808199b27dd6606df6c", func := "thicket/thicketlaw9.BinomialGreat", spec := "binomialGreat", inPlace := ["slices.overlaps[thicket/trees.ranked]"], unfollowed := true, recurses := true, apart := false, narrowed := true }
def BinomialGreatUptoSaid : Prop := binomialGreatUptoRow.holds Tryz.pinned (OpenSpec.upto binomialGreatSpec)

/-- 'thicketlaw9.BinomialMelds', WHERE WHAT IT READS IS OF BULK AT MOST 1048576: true; the input reads as it did. -/
def binomialMeldsUptoRow : OpenClaim := { program := "ythblgkpmefpllaagreat", sum := "3af770ffda26d67a90d6929213df250e9eadfdfcba5b4808199b27dd6606df6c", func := "thicket/thicketlaw9.BinomialMelds", spec := "binomialMelds", inPlace := ["slices.overlaps[thicket/trees.ranked]"], unfollowed := true, recurses := true, apart := false, narrowed := true }
def BinomialMeldsUptoSaid : Prop := binomialMeldsUptoRow.holds Tryz.pinned (OpenSpec.upto binomialMeldsSpec)

/-- 'thicketlaw9.BinomialSorts', WHERE WHAT IT READS IS OF BULK AT MOST 1048576: true; the input reads as it did. -/
def binomialSortsUptoRow : OpenClaim := { program := "ythblgkpmefpllaagreat", sum := "3af770ffda26d67a90d6929213df250e9eadfdfcba5b4808199b27dd6606df6c", func := "thicket/thicketlaw9.BinomialSorts", spec := "binomialSorts", inPlace := ["slices.overlaps[thicket/trees.ranked]"], unfollowed := true, recurses := true, apart := false, narrowed := true }
def BinomialSortsUptoSaid : Prop := binomialSortsUptoRow.holds Tryz.pinned (OpenSpec.upto binomialSortsSpec)

/-- 'thicketlaw9.BinomialFalls', WHERE WHAT IT READS IS OF BULK AT MOST 1048576: true; the input reads as it did. -/
def binomialFallsUptoRow : OpenClaim := { program := "ythblgkpmefpllaagreat", sum := "3af770ffda26d67a90d6929213df250e9eadfdfcba5b4808199b27dd6606df6c", func := "thicket/thicketlaw9.BinomialFalls", spec := "binomialFalls", inPlace := ["slices.overlaps[thicket/trees.ranked]"], unfollowed := true, recurses := true, apart := false, narrowed := true }
def BinomialFallsUptoSaid : Prop := binomialFallsUptoRow.holds Tryz.pinned (OpenSpec.upto binomialFallsSpec)

/-- 'thicketlaw9.BinomialNumbers', WHERE WHAT IT READS IS OF BULK AT MOST 1048576: true; the input reads as it did. -/
def binomialNumbersUptoRow : OpenClaim := { program := "ythblgkpmefpllaagreat", sum := "3af770ffda26d67a90d6929213df250e9eadfdfcba5b4808199b27dd6606df6c", func := "thicket/thicketlaw9.BinomialNumbers", spec := "binomialNumbers", inPlace := ["slices.overlaps[thicket/trees.ranked]"], unfollowed := true, recurses := true, apart := false, narrowed := true }
def BinomialNumbersUptoSaid : Prop := binomialNumbersUptoRow.holds Tryz.pinned (OpenSpec.upto binomialNumbersSpec)

/-- 'thicketlaw9.BinomialPlays', WHERE WHAT IT READS IS OF BULK AT MOST 1048576: true; the input reads as it did. -/
def binomialPlaysUptoRow : OpenClaim := { program := "ythblgkpmefpllaagreat", sum := "3af770ffda26d67a90d6929213df250e9eadfdfcba5b4808199b27dd6606df6c", func := "thicket/thicketlaw9.BinomialPlays", spec := "binomialPlays", inPlace := ["slices.overlaps[thicket/trees.ranked]"], unfollowed := true, recurses := true, apart := false, narrowed := true }
def BinomialPlaysUptoSaid : Prop := binomialPlaysUptoRow.holds Tryz.pinned (OpenSpec.upto binomialPlaysSpec)

/-- 'thicketlaw9.BinomialFull', WHERE WHAT IT READS IS OF BULK AT MOST 1048576: true; the input reads as it did. -/
def binomialFullUptoRow : OpenClaim := { program := "ythblgkpmefpllaagreat", sum := "3af770ffda26d67a90d6929213df250e9eadfdfcba5b4808199b27dd6606df6c", func := "thicket/thicketlaw9.BinomialFull", spec := "binomialFull", inPlace := ["slices.overlaps[thicket/trees.ranked]"], unfollowed := true, recurses := true, apart := false, narrowed := true }
def BinomialFullUptoSaid : Prop := binomialFullUptoRow.holds Tryz.pinned (OpenSpec.upto binomialFullSpec)

/-- 'thicketlaw9.BinomialDrops', WHERE WHAT IT READS IS OF BULK AT MOST 1048576: true; the input reads as it did. -/
def binomialDropsUptoRow : OpenClaim := { program := "ythblgkpmefpllaagreat", sum := "3af770ffda26d67a90d6929213df250e9eadfdfcba5b4808199b27dd6606df6c", func := "thicket/thicketlaw9.BinomialDrops", spec := "binomialDrops", inPlace := ["slices.overlaps[thicket/trees.ranked]"], unfollowed := true, recurses := true, apart := false, narrowed := true }
def BinomialDropsUptoSaid : Prop := binomialDropsUptoRow.holds Tryz.pinned (OpenSpec.upto binomialDropsSpec)

/-- 'thicketlaw15.KindTwins', WHERE WHAT IT READS IS OF BULK AT MOST 1048576: true; the input reads as it did. -/
def kindTwinsUptoRow : OpenClaim := { program := "ythblgkpmefpllaagreat", sum := "3af770ffda26d67a90d6929213df250e9eadfdfcba5b4808199b27dd6606df6c", func := "thicket/thicketlaw15.KindTwins", spec := "kindTwins", inPlace := ["slices.overlaps[thicket/trees.ranked]"], unfollowed := true, recurses := true, apart := false, narrowed := true }
def KindTwinsUptoSaid : Prop := kindTwinsUptoRow.holds Tryz.pinned (OpenSpec.upto kindTwinsSpec)

/-- 'thicketlaw15.KindSorts', WHERE WHAT IT READS IS OF BULK AT MOST 1048576: true; the input reads as it did. -/
def kindSortsUptoRow : OpenClaim := { program := "ythblgkpmefpllaagreat", sum := "3af770ffda26d67a90d6929213df250e9eadfdfcba5b4808199b27dd6606df6c", func := "thicket/thicketlaw15.KindSorts", spec := "kindSorts", inPlace := ["slices.overlaps[thicket/trees.ranked]"], unfollowed := true, recurses := true, apart := false, narrowed := true }
def KindSortsUptoSaid : Prop := kindSortsUptoRow.holds Tryz.pinned (OpenSpec.upto kindSortsSpec)

/-- 'thicketlaw15.KindNumbers', WHERE WHAT IT READS IS OF BULK AT MOST 1048576: true; the input reads as it did. -/
def kindNumbersUptoRow : OpenClaim := { program := "ythblgkpmefpllaagreat", sum := "3af770ffda26d67a90d6929213df250e9eadfdfcba5b4808199b27dd6606df6c", func := "thicket/thicketlaw15.KindNumbers", spec := "kindNumbers", inPlace := ["slices.overlaps[thicket/trees.ranked]"], unfollowed := true, recurses := true, apart := false, narrowed := true }
def KindNumbersUptoSaid : Prop := kindNumbersUptoRow.holds Tryz.pinned (OpenSpec.upto kindNumbersSpec)

/-- 'thicketlaw15.KindDrops', WHERE WHAT IT READS IS OF BULK AT MOST 1048576: true; the input reads as it did. -/
def kindDropsUptoRow : OpenClaim := { program := "ythblgkpmefpllaagreat", sum := "3af770ffda26d67a90d6929213df250e9eadfdfcba5b4808199b27dd6606df6c", func := "thicket/thicketlaw15.KindDrops", spec := "kindDrops", inPlace := ["slices.overlaps[thicket/trees.ranked]"], unfollowed := true, recurses := true, apart := false, narrowed := true }
def KindDropsUptoSaid : Prop := kindDropsUptoRow.holds Tryz.pinned (OpenSpec.upto kindDropsSpec)

end Rows
end Go.Proofs.YthblgkpmefpllaaGreat
