/-
  No cell of these rows narrows 'for every input' (looked for: loops, veiled, ifaces, maps, wideKeys, modest, calm, conditions, laid).
  DERIVED. THE GIVEN ROWS OF THIS SEAT. 12 by the template 'for every input the law returns true; each argument reads behind the call as it read before'; 0 by the template 'total and deterministic' (their statements: YtefmjpbmdoebaaaTotals.lean).
  GIVEN WITH THE SEED: the statements are not yours to turn. If you find one false, say at which input.
  Laid BY PROGRAM, IN A SANDBOX (cutbox-rows.mjs): the forced cells as the released guide's own fill.sh prints them over the translation 451cccef7f524019… (all of the seat's roots in one cut). By AI agents, Wed Nov 11 2026. No macro, syntax, notation, axiom, sorry.
-/
import Derived.Test.YtefmjpbmdoebaaaChecked
import GoSem.Claim
import GoSem.ClaimJoined
import GoSem.ClaimMapViews
import Derived.JoinedTies
import Derived.KernelRfl
namespace Go.Proofs.Ytefmjpbmdoebaaa
/- THE CELL 'sum', in the pinned program and in every row, IS THE sha256 OF THE DUMP (.gsa) THAT YtefmjpbmdoebaaaProg.lean LOADS. Nothing in Lean hashes anything: it is a label: what it is worth is what the hold of that sum in a sandbox is worth. -/
noncomputable def Try.pinned : Pinned := { name := "ytefmjpbmdoebaaa", sum := "451cccef7f524019f5d8530014fbec15a3e029e051a6a8fc9fb7cc61cd7f8f1e", checked := Try.checked }
namespace Rows
def none {H : Type} : Left H := { results := [], args := [] }

/-- 'laws.FnLeastFresh': WHATEVER THE INPUT: true; the input reads as it did. -/
def fnLeastFreshSpec : ChangeSpec := { name := "fnLeastFresh", fn := fun _ => fun
  | [d] => { results := [.lit (.bool true)], args := [d] }
  | _ => none }
def fnLeastFreshRow : OpenClaim := { program := "ytefmjpbmdoebaaa", sum := "451cccef7f524019f5d8530014fbec15a3e029e051a6a8fc9fb7cc61cd7f8f1e", func := "loop.example/g03112/laws.FnLeastFresh", spec := "fnLeastFresh", apart := false }
def FnLeastFreshSaid : Prop := fnLeastFreshRow.holds Try.pinned (OpenSpec.ofChange fnLeastFreshSpec)

/-- ITS FALSE NEIGHBOUR: 'it returns false'. Refute it at one input. -/
def fnLeastFreshWrong : ChangeSpec := { name := "fnLeastFresh", fn := fun _ => fun
  | [d] => { results := [.lit (.bool false)], args := [d] }
  | _ => none }
def FnLeastFreshWrongFalsely : Prop := fnLeastFreshRow.holds Try.pinned (OpenSpec.ofChange fnLeastFreshWrong)

/-- 'laws.FnExactPatternsOf': WHATEVER THE INPUT: true; the input reads as it did. -/
def fnExactPatternsOfSpec : ChangeSpec := { name := "fnExactPatternsOf", fn := fun _ => fun
  | [d1, d2] => { results := [.lit (.bool true)], args := [d1, d2] }
  | _ => none }
def fnExactPatternsOfRow : OpenClaim := { program := "ytefmjpbmdoebaaa", sum := "451cccef7f524019f5d8530014fbec15a3e029e051a6a8fc9fb7cc61cd7f8f1e", func := "loop.example/g03112/laws.FnExactPatternsOf", spec := "fnExactPatternsOf", recurses := true, apart := false }
def FnExactPatternsOfSaid : Prop := fnExactPatternsOfRow.holds Try.pinned (OpenSpec.ofChange fnExactPatternsOfSpec)

/-- ITS FALSE NEIGHBOUR: 'it returns false'. Refute it at one input. -/
def fnExactPatternsOfWrong : ChangeSpec := { name := "fnExactPatternsOf", fn := fun _ => fun
  | [d1, d2] => { results := [.lit (.bool false)], args := [d1, d2] }
  | _ => none }
def FnExactPatternsOfWrongFalsely : Prop := fnExactPatternsOfRow.holds Try.pinned (OpenSpec.ofChange fnExactPatternsOfWrong)

/-- 'laws.FnExactPatternOf': WHATEVER THE INPUT: true; the input reads as it did. -/
def fnExactPatternOfSpec : ChangeSpec := { name := "fnExactPatternOf", fn := fun _ => fun
  | [d1, d2] => { results := [.lit (.bool true)], args := [d1, d2] }
  | _ => none }
def fnExactPatternOfRow : OpenClaim := { program := "ytefmjpbmdoebaaa", sum := "451cccef7f524019f5d8530014fbec15a3e029e051a6a8fc9fb7cc61cd7f8f1e", func := "loop.example/g03112/laws.FnExactPatternOf", spec := "fnExactPatternOf", unfollowed := true, recurses := true, apart := false }
def FnExactPatternOfSaid : Prop := fnExactPatternOfRow.holds Try.pinned (OpenSpec.ofChange fnExactPatternOfSpec)

/-- ITS FALSE NEIGHBOUR: 'it returns false'. Refute it at one input. -/
def fnExactPatternOfWrong : ChangeSpec := { name := "fnExactPatternOf", fn := fun _ => fun
  | [d1, d2] => { results := [.lit (.bool false)], args := [d1, d2] }
  | _ => none }
def FnExactPatternOfWrongFalsely : Prop := fnExactPatternOfRow.holds Try.pinned (OpenSpec.ofChange fnExactPatternOfWrong)

/-- 'laws.FnPatterns': WHATEVER THE INPUT: true; the input reads as it did. -/
def fnPatternsSpec : ChangeSpec := { name := "fnPatterns", fn := fun _ => fun
  | [d] => { results := [.lit (.bool true)], args := [d] }
  | _ => none }
def fnPatternsRow : OpenClaim := { program := "ytefmjpbmdoebaaa", sum := "451cccef7f524019f5d8530014fbec15a3e029e051a6a8fc9fb7cc61cd7f8f1e", func := "loop.example/g03112/laws.FnPatterns", spec := "fnPatterns", unfollowed := true, recurses := true, apart := false }
def FnPatternsSaid : Prop := fnPatternsRow.holds Try.pinned (OpenSpec.ofChange fnPatternsSpec)

/-- ITS FALSE NEIGHBOUR: 'it returns false'. Refute it at one input. -/
def fnPatternsWrong : ChangeSpec := { name := "fnPatterns", fn := fun _ => fun
  | [d] => { results := [.lit (.bool false)], args := [d] }
  | _ => none }
def FnPatternsWrongFalsely : Prop := fnPatternsRow.holds Try.pinned (OpenSpec.ofChange fnPatternsWrong)

/-- 'laws.FnExactIsOrbitSet': WHATEVER THE INPUT: true; the input reads as it did. -/
def fnExactIsOrbitSetSpec : ChangeSpec := { name := "fnExactIsOrbitSet", fn := fun _ => fun
  | [d] => { results := [.lit (.bool true)], args := [d] }
  | _ => none }
def fnExactIsOrbitSetRow : OpenClaim := { program := "ytefmjpbmdoebaaa", sum := "451cccef7f524019f5d8530014fbec15a3e029e051a6a8fc9fb7cc61cd7f8f1e", func := "loop.example/g03112/laws.FnExactIsOrbitSet", spec := "fnExactIsOrbitSet", recurses := true, apart := false }
def FnExactIsOrbitSetSaid : Prop := fnExactIsOrbitSetRow.holds Try.pinned (OpenSpec.ofChange fnExactIsOrbitSetSpec)

/-- ITS FALSE NEIGHBOUR: 'it returns false'. Refute it at one input. -/
def fnExactIsOrbitSetWrong : ChangeSpec := { name := "fnExactIsOrbitSet", fn := fun _ => fun
  | [d] => { results := [.lit (.bool false)], args := [d] }
  | _ => none }
def FnExactIsOrbitSetWrongFalsely : Prop := fnExactIsOrbitSetRow.holds Try.pinned (OpenSpec.ofChange fnExactIsOrbitSetWrong)

/-- 'laws.FnExactCountTuples': WHATEVER THE INPUT: true; the input reads as it did. -/
def fnExactCountTuplesSpec : ChangeSpec := { name := "fnExactCountTuples", fn := fun _ => fun
  | [d1, d2] => { results := [.lit (.bool true)], args := [d1, d2] }
  | _ => none }
def fnExactCountTuplesRow : OpenClaim := { program := "ytefmjpbmdoebaaa", sum := "451cccef7f524019f5d8530014fbec15a3e029e051a6a8fc9fb7cc61cd7f8f1e", func := "loop.example/g03112/laws.FnExactCountTuples", spec := "fnExactCountTuples", recurses := true, apart := false }
def FnExactCountTuplesSaid : Prop := fnExactCountTuplesRow.holds Try.pinned (OpenSpec.ofChange fnExactCountTuplesSpec)

/-- ITS FALSE NEIGHBOUR: 'it returns false'. Refute it at one input. -/
def fnExactCountTuplesWrong : ChangeSpec := { name := "fnExactCountTuples", fn := fun _ => fun
  | [d1, d2] => { results := [.lit (.bool false)], args := [d1, d2] }
  | _ => none }
def FnExactCountTuplesWrongFalsely : Prop := fnExactCountTuplesRow.holds Try.pinned (OpenSpec.ofChange fnExactCountTuplesWrong)

/-- 'laws.FnExactHasTuple': WHATEVER THE INPUT: true; the input reads as it did. -/
def fnExactHasTupleSpec : ChangeSpec := { name := "fnExactHasTuple", fn := fun _ => fun
  | [d1, d2] => { results := [.lit (.bool true)], args := [d1, d2] }
  | _ => none }
def fnExactHasTupleRow : OpenClaim := { program := "ytefmjpbmdoebaaa", sum := "451cccef7f524019f5d8530014fbec15a3e029e051a6a8fc9fb7cc61cd7f8f1e", func := "loop.example/g03112/laws.FnExactHasTuple", spec := "fnExactHasTuple", unfollowed := true, recurses := true, apart := false }
def FnExactHasTupleSaid : Prop := fnExactHasTupleRow.holds Try.pinned (OpenSpec.ofChange fnExactHasTupleSpec)

/-- ITS FALSE NEIGHBOUR: 'it returns false'. Refute it at one input. -/
def fnExactHasTupleWrong : ChangeSpec := { name := "fnExactHasTuple", fn := fun _ => fun
  | [d1, d2] => { results := [.lit (.bool false)], args := [d1, d2] }
  | _ => none }
def FnExactHasTupleWrongFalsely : Prop := fnExactHasTupleRow.holds Try.pinned (OpenSpec.ofChange fnExactHasTupleWrong)

/-- 'laws.FnExactExamplesOf': WHATEVER THE INPUT: true; the input reads as it did. -/
def fnExactExamplesOfSpec : ChangeSpec := { name := "fnExactExamplesOf", fn := fun _ => fun
  | [d] => { results := [.lit (.bool true)], args := [d] }
  | _ => none }
def fnExactExamplesOfRow : OpenClaim := { program := "ytefmjpbmdoebaaa", sum := "451cccef7f524019f5d8530014fbec15a3e029e051a6a8fc9fb7cc61cd7f8f1e", func := "loop.example/g03112/laws.FnExactExamplesOf", spec := "fnExactExamplesOf", recurses := true, apart := false }
def FnExactExamplesOfSaid : Prop := fnExactExamplesOfRow.holds Try.pinned (OpenSpec.ofChange fnExactExamplesOfSpec)

/-- ITS FALSE NEIGHBOUR: 'it returns false'. Refute it at one input. -/
def fnExactExamplesOfWrong : ChangeSpec := { name := "fnExactExamplesOf", fn := fun _ => fun
  | [d] => { results := [.lit (.bool false)], args := [d] }
  | _ => none }
def FnExactExamplesOfWrongFalsely : Prop := fnExactExamplesOfRow.holds Try.pinned (OpenSpec.ofChange fnExactExamplesOfWrong)

/-- 'laws.FnExactSetOf': WHATEVER THE INPUT: true; the input reads as it did. -/
def fnExactSetOfSpec : ChangeSpec := { name := "fnExactSetOf", fn := fun _ => fun
  | [d1, d2, d3] => { results := [.lit (.bool true)], args := [d1, d2, d3] }
  | _ => none }
def fnExactSetOfRow : OpenClaim := { program := "ytefmjpbmdoebaaa", sum := "451cccef7f524019f5d8530014fbec15a3e029e051a6a8fc9fb7cc61cd7f8f1e", func := "loop.example/g03112/laws.FnExactSetOf", spec := "fnExactSetOf", unfollowed := true, recurses := true, apart := false }
def FnExactSetOfSaid : Prop := fnExactSetOfRow.holds Try.pinned (OpenSpec.ofChange fnExactSetOfSpec)

/-- ITS FALSE NEIGHBOUR: 'it returns false'. Refute it at one input. -/
def fnExactSetOfWrong : ChangeSpec := { name := "fnExactSetOf", fn := fun _ => fun
  | [d1, d2, d3] => { results := [.lit (.bool false)], args := [d1, d2, d3] }
  | _ => none }
def FnExactSetOfWrongFalsely : Prop := fnExactSetOfRow.holds Try.pinned (OpenSpec.ofChange fnExactSetOfWrong)

/-- 'laws.FnExactWidenSet': WHATEVER THE INPUT: true; the input reads as it did. -/
def fnExactWidenSetSpec : ChangeSpec := { name := "fnExactWidenSet", fn := fun _ => fun
  | [d] => { results := [.lit (.bool true)], args := [d] }
  | _ => none }
def fnExactWidenSetRow : OpenClaim := { program := "ytefmjpbmdoebaaa", sum := "451cccef7f524019f5d8530014fbec15a3e029e051a6a8fc9fb7cc61cd7f8f1e", func := "loop.example/g03112/laws.FnExactWidenSet", spec := "fnExactWidenSet", unfollowed := true, recurses := true, apart := false }
def FnExactWidenSetSaid : Prop := fnExactWidenSetRow.holds Try.pinned (OpenSpec.ofChange fnExactWidenSetSpec)

/-- ITS FALSE NEIGHBOUR: 'it returns false'. Refute it at one input. -/
def fnExactWidenSetWrong : ChangeSpec := { name := "fnExactWidenSet", fn := fun _ => fun
  | [d] => { results := [.lit (.bool false)], args := [d] }
  | _ => none }
def FnExactWidenSetWrongFalsely : Prop := fnExactWidenSetRow.holds Try.pinned (OpenSpec.ofChange fnExactWidenSetWrong)

/-- 'laws.FnExactComplementSet': WHATEVER THE INPUT: true; the input reads as it did. -/
def fnExactComplementSetSpec : ChangeSpec := { name := "fnExactComplementSet", fn := fun _ => fun
  | [d] => { results := [.lit (.bool true)], args := [d] }
  | _ => none }
def fnExactComplementSetRow : OpenClaim := { program := "ytefmjpbmdoebaaa", sum := "451cccef7f524019f5d8530014fbec15a3e029e051a6a8fc9fb7cc61cd7f8f1e", func := "loop.example/g03112/laws.FnExactComplementSet", spec := "fnExactComplementSet", unfollowed := true, recurses := true, apart := false }
def FnExactComplementSetSaid : Prop := fnExactComplementSetRow.holds Try.pinned (OpenSpec.ofChange fnExactComplementSetSpec)

/-- ITS FALSE NEIGHBOUR: 'it returns false'. Refute it at one input. -/
def fnExactComplementSetWrong : ChangeSpec := { name := "fnExactComplementSet", fn := fun _ => fun
  | [d] => { results := [.lit (.bool false)], args := [d] }
  | _ => none }
def FnExactComplementSetWrongFalsely : Prop := fnExactComplementSetRow.holds Try.pinned (OpenSpec.ofChange fnExactComplementSetWrong)

/-- 'laws.FnExactPlacesOfSet': WHATEVER THE INPUT: true; the input reads as it did. -/
def fnExactPlacesOfSetSpec : ChangeSpec := { name := "fnExactPlacesOfSet", fn := fun _ => fun
  | [d1, d2] => { results := [.lit (.bool true)], args := [d1, d2] }
  | _ => none }
def fnExactPlacesOfSetRow : OpenClaim := { program := "ytefmjpbmdoebaaa", sum := "451cccef7f524019f5d8530014fbec15a3e029e051a6a8fc9fb7cc61cd7f8f1e", func := "loop.example/g03112/laws.FnExactPlacesOfSet", spec := "fnExactPlacesOfSet", unfollowed := true, recurses := true, apart := false }
def FnExactPlacesOfSetSaid : Prop := fnExactPlacesOfSetRow.holds Try.pinned (OpenSpec.ofChange fnExactPlacesOfSetSpec)

/-- ITS FALSE NEIGHBOUR: 'it returns false'. Refute it at one input. -/
def fnExactPlacesOfSetWrong : ChangeSpec := { name := "fnExactPlacesOfSet", fn := fun _ => fun
  | [d1, d2] => { results := [.lit (.bool false)], args := [d1, d2] }
  | _ => none }
def FnExactPlacesOfSetWrongFalsely : Prop := fnExactPlacesOfSetRow.holds Try.pinned (OpenSpec.ofChange fnExactPlacesOfSetWrong)

/- THE SECOND FORM. 'bulk': how many values and letters a reading holds, each counted each time it is reached (what is shared counts as often as it is met; a slice's spare places count too). A statement '..UptoSaid' is the law's where the arguments, and the package variables that the reading takes, are together of bulk at most 1048576: NARROWER than '..Said'. Prove '..Said' where nothing that the law and all that it calls make is longer than what came in: it says more and counts as full. Else prove '..UptoSaid'. A law counts once. -/
mutual
def uptoBulk {H : Type} : DataW H → Nat
  | .lit (.string bytes) => bytes.length + 1
  | .lit _ => 1
  | .nil => 1
  | .ptr d => uptoBulk d + 1
  | .slice elems spare => uptoBulkAll elems + uptoBulkAll spare + 1
  | .agg parts => uptoBulkAll parts + 1
  | .iface _ d => uptoBulk d + 1
  | .map entries => uptoBulkEntries entries + 1
  | .held _ => 1
def uptoBulkAll {H : Type} : List (DataW H) → Nat
  | [] => 0
  | d :: r => uptoBulk d + uptoBulkAll r
def uptoBulkEntries {H : Type} : List (Lit × DataW H) → Nat
  | [] => 0
  | x :: r => uptoBulkEntry x + uptoBulkEntries r
def uptoBulkEntry {H : Type} : Lit × DataW H → Nat
  | (.string bytes, d) => bytes.length + uptoBulk d + 1
  | (_, d) => uptoBulk d + 1
 end
def uptoSmall : (H : Type) → List (DataW H) → Bool := fun _ ds => decide (uptoBulkAll ds ≤ 1048576)
def OpenSpec.upto (s : _root_.Go.ChangeSpec) : _root_.Go.OpenSpec := { _root_.Go.OpenSpec.ofChange s with cond := some uptoSmall }

/-- 'laws.FnLeastFresh', WHERE WHAT IT READS IS OF BULK AT MOST 1048576: true; the input reads as it did. -/
def fnLeastFreshUptoRow : OpenClaim := { program := "ytefmjpbmdoebaaa", sum := "451cccef7f524019f5d8530014fbec15a3e029e051a6a8fc9fb7cc61cd7f8f1e", func := "loop.example/g03112/laws.FnLeastFresh", spec := "fnLeastFresh", apart := false, narrowed := true }
def FnLeastFreshUptoSaid : Prop := fnLeastFreshUptoRow.holds Try.pinned (OpenSpec.upto fnLeastFreshSpec)

/-- 'laws.FnExactPatternsOf', WHERE WHAT IT READS IS OF BULK AT MOST 1048576: true; the input reads as it did. -/
def fnExactPatternsOfUptoRow : OpenClaim := { program := "ytefmjpbmdoebaaa", sum := "451cccef7f524019f5d8530014fbec15a3e029e051a6a8fc9fb7cc61cd7f8f1e", func := "loop.example/g03112/laws.FnExactPatternsOf", spec := "fnExactPatternsOf", recurses := true, apart := false, narrowed := true }
def FnExactPatternsOfUptoSaid : Prop := fnExactPatternsOfUptoRow.holds Try.pinned (OpenSpec.upto fnExactPatternsOfSpec)

/-- 'laws.FnExactPatternOf', WHERE WHAT IT READS IS OF BULK AT MOST 1048576: true; the input reads as it did. -/
def fnExactPatternOfUptoRow : OpenClaim := { program := "ytefmjpbmdoebaaa", sum := "451cccef7f524019f5d8530014fbec15a3e029e051a6a8fc9fb7cc61cd7f8f1e", func := "loop.example/g03112/laws.FnExactPatternOf", spec := "fnExactPatternOf", unfollowed := true, recurses := true, apart := false, narrowed := true }
def FnExactPatternOfUptoSaid : Prop := fnExactPatternOfUptoRow.holds Try.pinned (OpenSpec.upto fnExactPatternOfSpec)

/-- 'laws.FnPatterns', WHERE WHAT IT READS IS OF BULK AT MOST 1048576: true; the input reads as it did. -/
def fnPatternsUptoRow : OpenClaim := { program := "ytefmjpbmdoebaaa", sum := "451cccef7f524019f5d8530014fbec15a3e029e051a6a8fc9fb7cc61cd7f8f1e", func := "loop.example/g03112/laws.FnPatterns", spec := "fnPatterns", unfollowed := true, recurses := true, apart := false, narrowed := true }
def FnPatternsUptoSaid : Prop := fnPatternsUptoRow.holds Try.pinned (OpenSpec.upto fnPatternsSpec)

/-- 'laws.FnExactIsOrbitSet', WHERE WHAT IT READS IS OF BULK AT MOST 1048576: true; the input reads as it did. -/
def fnExactIsOrbitSetUptoRow : OpenClaim := { program := "ytefmjpbmdoebaaa", sum := "451cccef7f524019f5d8530014fbec15a3e029e051a6a8fc9fb7cc61cd7f8f1e", func := "loop.example/g03112/laws.FnExactIsOrbitSet", spec := "fnExactIsOrbitSet", recurses := true, apart := false, narrowed := true }
def FnExactIsOrbitSetUptoSaid : Prop := fnExactIsOrbitSetUptoRow.holds Try.pinned (OpenSpec.upto fnExactIsOrbitSetSpec)

/-- 'laws.FnExactCountTuples', WHERE WHAT IT READS IS OF BULK AT MOST 1048576: true; the input reads as it did. -/
def fnExactCountTuplesUptoRow : OpenClaim := { program := "ytefmjpbmdoebaaa", sum := "451cccef7f524019f5d8530014fbec15a3e029e051a6a8fc9fb7cc61cd7f8f1e", func := "loop.example/g03112/laws.FnExactCountTuples", spec := "fnExactCountTuples", recurses := true, apart := false, narrowed := true }
def FnExactCountTuplesUptoSaid : Prop := fnExactCountTuplesUptoRow.holds Try.pinned (OpenSpec.upto fnExactCountTuplesSpec)

/-- 'laws.FnExactHasTuple', WHERE WHAT IT READS IS OF BULK AT MOST 1048576: true; the input reads as it did. -/
def fnExactHasTupleUptoRow : OpenClaim := { program := "ytefmjpbmdoebaaa", sum := "451cccef7f524019f5d8530014fbec15a3e029e051a6a8fc9fb7cc61cd7f8f1e", func := "loop.example/g03112/laws.FnExactHasTuple", spec := "fnExactHasTuple", unfollowed := true, recurses := true, apart := false, narrowed := true }
def FnExactHasTupleUptoSaid : Prop := fnExactHasTupleUptoRow.holds Try.pinned (OpenSpec.upto fnExactHasTupleSpec)

/-- 'laws.FnExactExamplesOf', WHERE WHAT IT READS IS OF BULK AT MOST 1048576: true; the input reads as it did. -/
def fnExactExamplesOfUptoRow : OpenClaim := { program := "ytefmjpbmdoebaaa", sum := "451cccef7f524019f5d8530014fbec15a3e029e051a6a8fc9fb7cc61cd7f8f1e", func := "loop.example/g03112/laws.FnExactExamplesOf", spec := "fnExactExamplesOf", recurses := true, apart := false, narrowed := true }
def FnExactExamplesOfUptoSaid : Prop := fnExactExamplesOfUptoRow.holds Try.pinned (OpenSpec.upto fnExactExamplesOfSpec)

/-- 'laws.FnExactSetOf', WHERE WHAT IT READS IS OF BULK AT MOST 1048576: true; the input reads as it did. -/
def fnExactSetOfUptoRow : OpenClaim := { program := "ytefmjpbmdoebaaa", sum := "451cccef7f524019f5d8530014fbec15a3e029e051a6a8fc9fb7cc61cd7f8f1e", func := "loop.example/g03112/laws.FnExactSetOf", spec := "fnExactSetOf", unfollowed := true, recurses := true, apart := false, narrowed := true }
def FnExactSetOfUptoSaid : Prop := fnExactSetOfUptoRow.holds Try.pinned (OpenSpec.upto fnExactSetOfSpec)

/-- 'laws.FnExactWidenSet', WHERE WHAT IT READS IS OF BULK AT MOST 1048576: true; the input reads as it did. -/
def fnExactWidenSetUptoRow : OpenClaim := { program := "ytefmjpbmdoebaaa", sum := "451cccef7f524019f5d8530014fbec15a3e029e051a6a8fc9fb7cc61cd7f8f1e", func := "loop.example/g03112/laws.FnExactWidenSet", spec := "fnExactWidenSet", unfollowed := true, recurses := true, apart := false, narrowed := true }
def FnExactWidenSetUptoSaid : Prop := fnExactWidenSetUptoRow.holds Try.pinned (OpenSpec.upto fnExactWidenSetSpec)

/-- 'laws.FnExactComplementSet', WHERE WHAT IT READS IS OF BULK AT MOST 1048576: true; the input reads as it did. -/
def fnExactComplementSetUptoRow : OpenClaim := { program := "ytefmjpbmdoebaaa", sum := "451cccef7f524019f5d8530014fbec15a3e029e051a6a8fc9fb7cc61cd7f8f1e", func := "loop.example/g03112/laws.FnExactComplementSet", spec := "fnExactComplementSet", unfollowed := true, recurses := true, apart := false, narrowed := true }
def FnExactComplementSetUptoSaid : Prop := fnExactComplementSetUptoRow.holds Try.pinned (OpenSpec.upto fnExactComplementSetSpec)

/-- 'laws.FnExactPlacesOfSet', WHERE WHAT IT READS IS OF BULK AT MOST 1048576: true; the input reads as it did. -/
def fnExactPlacesOfSetUptoRow : OpenClaim := { program := "ytefmjpbmdoebaaa", sum := "451cccef7f524019f5d8530014fbec15a3e029e051a6a8fc9fb7cc61cd7f8f1e", func := "loop.example/g03112/laws.FnExactPlacesOfSet", spec := "fnExactPlacesOfSet", unfollowed := true, recurses := true, apart := false, narrowed := true }
def FnExactPlacesOfSetUptoSaid : Prop := fnExactPlacesOfSetUptoRow.holds Try.pinned (OpenSpec.upto fnExactPlacesOfSetSpec)

end Rows
end Go.Proofs.Ytefmjpbmdoebaaa
