/-
  No cell of these rows narrows 'for every input' (looked for: loops, veiled, ifaces, maps, wideKeys, modest, calm, conditions, laid).
  DERIVED. THE GIVEN ROWS OF THIS SEAT. 14 by the template 'for every input the law returns true; each argument reads behind the call as it read before'; 0 by the template 'total and deterministic' (their statements: YthdgcikdekkjkaaTotals.lean).
  GIVEN WITH THE SEED: the statements are not yours to turn. If you find one false, say at which input.
  Laid BY PROGRAM, IN A SANDBOX (cutbox-rows.mjs): the forced cells as the released guide's own fill.sh prints them over the translation fd7dd09a2fd17cf1… (all of the seat's roots in one cut). By AI agents, Wed Nov 11 2026. No macro, syntax, notation, axiom, sorry.
-/
import Derived.Test.YthdgcikdekkjkaaChecked
import GoSem.Claim
import GoSem.ClaimJoined
import GoSem.ClaimMapViews
import Derived.JoinedTies
import Derived.KernelRfl
namespace Go.Proofs.Ythdgcikdekkjkaa
/- THE CELL 'sum', in the pinned program and in every row, IS THE sha256 OF THE DUMP (.gsa) THAT YthdgcikdekkjkaaProg.lean LOADS. Nothing in Lean hashes anything: it is a label: what it is worth is what the hold of that sum in a sandbox is worth. -/
noncomputable def Try.pinned : Pinned := { name := "ythdgcikdekkjkaa", sum := "fd7dd09a2fd17cf14145979a4ea8100d6a0674550d5b6151e24dfe6ac38e7760", checked := Try.checked }
namespace Rows
def none {H : Type} : Left H := { results := [], args := [] }

/-- 'laws.FnExactAllWhitehead': WHATEVER THE INPUT: true; the input reads as it did. -/
def fnExactAllWhiteheadSpec : ChangeSpec := { name := "fnExactAllWhitehead", fn := fun _ => fun
  | [d] => { results := [.lit (.bool true)], args := [d] }
  | _ => none }
def fnExactAllWhiteheadRow : OpenClaim := { program := "ythdgcikdekkjkaa", sum := "fd7dd09a2fd17cf14145979a4ea8100d6a0674550d5b6151e24dfe6ac38e7760", func := "loop.example/g02075/laws.FnExactAllWhitehead", spec := "fnExactAllWhitehead", apart := false }
def FnExactAllWhiteheadSaid : Prop := fnExactAllWhiteheadRow.holds Try.pinned (OpenSpec.ofChange fnExactAllWhiteheadSpec)

/-- ITS FALSE NEIGHBOUR: 'it returns false'. Refute it at one input. -/
def fnExactAllWhiteheadWrong : ChangeSpec := { name := "fnExactAllWhitehead", fn := fun _ => fun
  | [d] => { results := [.lit (.bool false)], args := [d] }
  | _ => none }
def FnExactAllWhiteheadWrongFalsely : Prop := fnExactAllWhiteheadRow.holds Try.pinned (OpenSpec.ofChange fnExactAllWhiteheadWrong)

/-- 'laws.FnExactIsListed': WHATEVER THE INPUT: true; the input reads as it did. -/
def fnExactIsListedSpec : ChangeSpec := { name := "fnExactIsListed", fn := fun _ => fun
  | [d1, d2] => { results := [.lit (.bool true)], args := [d1, d2] }
  | _ => none }
def fnExactIsListedRow : OpenClaim := { program := "ythdgcikdekkjkaa", sum := "fd7dd09a2fd17cf14145979a4ea8100d6a0674550d5b6151e24dfe6ac38e7760", func := "loop.example/g02075/laws.FnExactIsListed", spec := "fnExactIsListed", apart := false }
def FnExactIsListedSaid : Prop := fnExactIsListedRow.holds Try.pinned (OpenSpec.ofChange fnExactIsListedSpec)

/-- ITS FALSE NEIGHBOUR: 'it returns false'. Refute it at one input. -/
def fnExactIsListedWrong : ChangeSpec := { name := "fnExactIsListed", fn := fun _ => fun
  | [d1, d2] => { results := [.lit (.bool false)], args := [d1, d2] }
  | _ => none }
def FnExactIsListedWrongFalsely : Prop := fnExactIsListedRow.holds Try.pinned (OpenSpec.ofChange fnExactIsListedWrong)

/-- 'laws.FnExactSolveSingle': WHATEVER THE INPUT: true; the input reads as it did. -/
def fnExactSolveSingleSpec : ChangeSpec := { name := "fnExactSolveSingle", fn := fun _ => fun
  | [d1, d2] => { results := [.lit (.bool true)], args := [d1, d2] }
  | _ => none }
def fnExactSolveSingleRow : OpenClaim := { program := "ythdgcikdekkjkaa", sum := "fd7dd09a2fd17cf14145979a4ea8100d6a0674550d5b6151e24dfe6ac38e7760", func := "loop.example/g02075/laws.FnExactSolveSingle", spec := "fnExactSolveSingle", apart := false }
def FnExactSolveSingleSaid : Prop := fnExactSolveSingleRow.holds Try.pinned (OpenSpec.ofChange fnExactSolveSingleSpec)

/-- ITS FALSE NEIGHBOUR: 'it returns false'. Refute it at one input. -/
def fnExactSolveSingleWrong : ChangeSpec := { name := "fnExactSolveSingle", fn := fun _ => fun
  | [d1, d2] => { results := [.lit (.bool false)], args := [d1, d2] }
  | _ => none }
def FnExactSolveSingleWrongFalsely : Prop := fnExactSolveSingleRow.holds Try.pinned (OpenSpec.ofChange fnExactSolveSingleWrong)

/-- 'laws.FnExactParseEquation': WHATEVER THE INPUT: true; the input reads as it did. -/
def fnExactParseEquationSpec : ChangeSpec := { name := "fnExactParseEquation", fn := fun _ => fun
  | [d1, d2] => { results := [.lit (.bool true)], args := [d1, d2] }
  | _ => none }
def fnExactParseEquationRow : OpenClaim := { program := "ythdgcikdekkjkaa", sum := "fd7dd09a2fd17cf14145979a4ea8100d6a0674550d5b6151e24dfe6ac38e7760", func := "loop.example/g02075/laws.FnExactParseEquation", spec := "fnExactParseEquation", apart := false }
def FnExactParseEquationSaid : Prop := fnExactParseEquationRow.holds Try.pinned (OpenSpec.ofChange fnExactParseEquationSpec)

/-- ITS FALSE NEIGHBOUR: 'it returns false'. Refute it at one input. -/
def fnExactParseEquationWrong : ChangeSpec := { name := "fnExactParseEquation", fn := fun _ => fun
  | [d1, d2] => { results := [.lit (.bool false)], args := [d1, d2] }
  | _ => none }
def FnExactParseEquationWrongFalsely : Prop := fnExactParseEquationRow.holds Try.pinned (OpenSpec.ofChange fnExactParseEquationWrong)

/-- 'laws.FnExactAllRelabellings': WHATEVER THE INPUT: true; the input reads as it did. -/
def fnExactAllRelabellingsSpec : ChangeSpec := { name := "fnExactAllRelabellings", fn := fun _ => fun
  | [d] => { results := [.lit (.bool true)], args := [d] }
  | _ => none }
def fnExactAllRelabellingsRow : OpenClaim := { program := "ythdgcikdekkjkaa", sum := "fd7dd09a2fd17cf14145979a4ea8100d6a0674550d5b6151e24dfe6ac38e7760", func := "loop.example/g02075/laws.FnExactAllRelabellings", spec := "fnExactAllRelabellings", unfollowed := true, recurses := true, apart := false }
def FnExactAllRelabellingsSaid : Prop := fnExactAllRelabellingsRow.holds Try.pinned (OpenSpec.ofChange fnExactAllRelabellingsSpec)

/-- ITS FALSE NEIGHBOUR: 'it returns false'. Refute it at one input. -/
def fnExactAllRelabellingsWrong : ChangeSpec := { name := "fnExactAllRelabellings", fn := fun _ => fun
  | [d] => { results := [.lit (.bool false)], args := [d] }
  | _ => none }
def FnExactAllRelabellingsWrongFalsely : Prop := fnExactAllRelabellingsRow.holds Try.pinned (OpenSpec.ofChange fnExactAllRelabellingsWrong)

/-- 'laws.FnExactWhiteheadMorphism': WHATEVER THE INPUT: true; the input reads as it did. -/
def fnExactWhiteheadMorphismSpec : ChangeSpec := { name := "fnExactWhiteheadMorphism", fn := fun _ => fun
  | [d1, d2] => { results := [.lit (.bool true)], args := [d1, d2] }
  | _ => none }
def fnExactWhiteheadMorphismRow : OpenClaim := { program := "ythdgcikdekkjkaa", sum := "fd7dd09a2fd17cf14145979a4ea8100d6a0674550d5b6151e24dfe6ac38e7760", func := "loop.example/g02075/laws.FnExactWhiteheadMorphism", spec := "fnExactWhiteheadMorphism", apart := false }
def FnExactWhiteheadMorphismSaid : Prop := fnExactWhiteheadMorphismRow.holds Try.pinned (OpenSpec.ofChange fnExactWhiteheadMorphismSpec)

/-- ITS FALSE NEIGHBOUR: 'it returns false'. Refute it at one input. -/
def fnExactWhiteheadMorphismWrong : ChangeSpec := { name := "fnExactWhiteheadMorphism", fn := fun _ => fun
  | [d1, d2] => { results := [.lit (.bool false)], args := [d1, d2] }
  | _ => none }
def FnExactWhiteheadMorphismWrongFalsely : Prop := fnExactWhiteheadMorphismRow.holds Try.pinned (OpenSpec.ofChange fnExactWhiteheadMorphismWrong)

/-- 'laws.FnExactLatticeIndex': WHATEVER THE INPUT: true; the input reads as it did. -/
def fnExactLatticeIndexSpec : ChangeSpec := { name := "fnExactLatticeIndex", fn := fun _ => fun
  | [d1, d2] => { results := [.lit (.bool true)], args := [d1, d2] }
  | _ => none }
def fnExactLatticeIndexRow : OpenClaim := { program := "ythdgcikdekkjkaa", sum := "fd7dd09a2fd17cf14145979a4ea8100d6a0674550d5b6151e24dfe6ac38e7760", func := "loop.example/g02075/laws.FnExactLatticeIndex", spec := "fnExactLatticeIndex", apart := false }
def FnExactLatticeIndexSaid : Prop := fnExactLatticeIndexRow.holds Try.pinned (OpenSpec.ofChange fnExactLatticeIndexSpec)

/-- ITS FALSE NEIGHBOUR: 'it returns false'. Refute it at one input. -/
def fnExactLatticeIndexWrong : ChangeSpec := { name := "fnExactLatticeIndex", fn := fun _ => fun
  | [d1, d2] => { results := [.lit (.bool false)], args := [d1, d2] }
  | _ => none }
def FnExactLatticeIndexWrongFalsely : Prop := fnExactLatticeIndexRow.holds Try.pinned (OpenSpec.ofChange fnExactLatticeIndexWrong)

/-- 'laws.FnExactInLattice': WHATEVER THE INPUT: true; the input reads as it did. -/
def fnExactInLatticeSpec : ChangeSpec := { name := "fnExactInLattice", fn := fun _ => fun
  | [d1, d2] => { results := [.lit (.bool true)], args := [d1, d2] }
  | _ => none }
def fnExactInLatticeRow : OpenClaim := { program := "ythdgcikdekkjkaa", sum := "fd7dd09a2fd17cf14145979a4ea8100d6a0674550d5b6151e24dfe6ac38e7760", func := "loop.example/g02075/laws.FnExactInLattice", spec := "fnExactInLattice", apart := false }
def FnExactInLatticeSaid : Prop := fnExactInLatticeRow.holds Try.pinned (OpenSpec.ofChange fnExactInLatticeSpec)

/-- ITS FALSE NEIGHBOUR: 'it returns false'. Refute it at one input. -/
def fnExactInLatticeWrong : ChangeSpec := { name := "fnExactInLattice", fn := fun _ => fun
  | [d1, d2] => { results := [.lit (.bool false)], args := [d1, d2] }
  | _ => none }
def FnExactInLatticeWrongFalsely : Prop := fnExactInLatticeRow.holds Try.pinned (OpenSpec.ofChange fnExactInLatticeWrong)

/-- 'laws.FnExactHermiteForm': WHATEVER THE INPUT: true; the input reads as it did. -/
def fnExactHermiteFormSpec : ChangeSpec := { name := "fnExactHermiteForm", fn := fun _ => fun
  | [d1, d2] => { results := [.lit (.bool true)], args := [d1, d2] }
  | _ => none }
def fnExactHermiteFormRow : OpenClaim := { program := "ythdgcikdekkjkaa", sum := "fd7dd09a2fd17cf14145979a4ea8100d6a0674550d5b6151e24dfe6ac38e7760", func := "loop.example/g02075/laws.FnExactHermiteForm", spec := "fnExactHermiteForm", apart := false }
def FnExactHermiteFormSaid : Prop := fnExactHermiteFormRow.holds Try.pinned (OpenSpec.ofChange fnExactHermiteFormSpec)

/-- ITS FALSE NEIGHBOUR: 'it returns false'. Refute it at one input. -/
def fnExactHermiteFormWrong : ChangeSpec := { name := "fnExactHermiteForm", fn := fun _ => fun
  | [d1, d2] => { results := [.lit (.bool false)], args := [d1, d2] }
  | _ => none }
def FnExactHermiteFormWrongFalsely : Prop := fnExactHermiteFormRow.holds Try.pinned (OpenSpec.ofChange fnExactHermiteFormWrong)

/-- 'laws.FnExactSolutionsUpTo': WHATEVER THE INPUT: true; the input reads as it did. -/
def fnExactSolutionsUpToSpec : ChangeSpec := { name := "fnExactSolutionsUpTo", fn := fun _ => fun
  | [d1, d2, d3] => { results := [.lit (.bool true)], args := [d1, d2, d3] }
  | _ => none }
def fnExactSolutionsUpToRow : OpenClaim := { program := "ythdgcikdekkjkaa", sum := "fd7dd09a2fd17cf14145979a4ea8100d6a0674550d5b6151e24dfe6ac38e7760", func := "loop.example/g02075/laws.FnExactSolutionsUpTo", spec := "fnExactSolutionsUpTo", apart := false }
def FnExactSolutionsUpToSaid : Prop := fnExactSolutionsUpToRow.holds Try.pinned (OpenSpec.ofChange fnExactSolutionsUpToSpec)

/-- ITS FALSE NEIGHBOUR: 'it returns false'. Refute it at one input. -/
def fnExactSolutionsUpToWrong : ChangeSpec := { name := "fnExactSolutionsUpTo", fn := fun _ => fun
  | [d1, d2, d3] => { results := [.lit (.bool false)], args := [d1, d2, d3] }
  | _ => none }
def FnExactSolutionsUpToWrongFalsely : Prop := fnExactSolutionsUpToRow.holds Try.pinned (OpenSpec.ofChange fnExactSolutionsUpToWrong)

/-- 'laws.FnExactIsPrimitive': WHATEVER THE INPUT: true; the input reads as it did. -/
def fnExactIsPrimitiveSpec : ChangeSpec := { name := "fnExactIsPrimitive", fn := fun _ => fun
  | [d1, d2] => { results := [.lit (.bool true)], args := [d1, d2] }
  | _ => none }
def fnExactIsPrimitiveRow : OpenClaim := { program := "ythdgcikdekkjkaa", sum := "fd7dd09a2fd17cf14145979a4ea8100d6a0674550d5b6151e24dfe6ac38e7760", func := "loop.example/g02075/laws.FnExactIsPrimitive", spec := "fnExactIsPrimitive", apart := false }
def FnExactIsPrimitiveSaid : Prop := fnExactIsPrimitiveRow.holds Try.pinned (OpenSpec.ofChange fnExactIsPrimitiveSpec)

/-- ITS FALSE NEIGHBOUR: 'it returns false'. Refute it at one input. -/
def fnExactIsPrimitiveWrong : ChangeSpec := { name := "fnExactIsPrimitive", fn := fun _ => fun
  | [d1, d2] => { results := [.lit (.bool false)], args := [d1, d2] }
  | _ => none }
def FnExactIsPrimitiveWrongFalsely : Prop := fnExactIsPrimitiveRow.holds Try.pinned (OpenSpec.ofChange fnExactIsPrimitiveWrong)

/-- 'laws.FnExactShortenCyclic': WHATEVER THE INPUT: true; the input reads as it did. -/
def fnExactShortenCyclicSpec : ChangeSpec := { name := "fnExactShortenCyclic", fn := fun _ => fun
  | [d1, d2] => { results := [.lit (.bool true)], args := [d1, d2] }
  | _ => none }
def fnExactShortenCyclicRow : OpenClaim := { program := "ythdgcikdekkjkaa", sum := "fd7dd09a2fd17cf14145979a4ea8100d6a0674550d5b6151e24dfe6ac38e7760", func := "loop.example/g02075/laws.FnExactShortenCyclic", spec := "fnExactShortenCyclic", apart := false }
def FnExactShortenCyclicSaid : Prop := fnExactShortenCyclicRow.holds Try.pinned (OpenSpec.ofChange fnExactShortenCyclicSpec)

/-- ITS FALSE NEIGHBOUR: 'it returns false'. Refute it at one input. -/
def fnExactShortenCyclicWrong : ChangeSpec := { name := "fnExactShortenCyclic", fn := fun _ => fun
  | [d1, d2] => { results := [.lit (.bool false)], args := [d1, d2] }
  | _ => none }
def FnExactShortenCyclicWrongFalsely : Prop := fnExactShortenCyclicRow.holds Try.pinned (OpenSpec.ofChange fnExactShortenCyclicWrong)

/-- 'laws.FnExactOrbitLength': WHATEVER THE INPUT: true; the input reads as it did. -/
def fnExactOrbitLengthSpec : ChangeSpec := { name := "fnExactOrbitLength", fn := fun _ => fun
  | [d1, d2] => { results := [.lit (.bool true)], args := [d1, d2] }
  | _ => none }
def fnExactOrbitLengthRow : OpenClaim := { program := "ythdgcikdekkjkaa", sum := "fd7dd09a2fd17cf14145979a4ea8100d6a0674550d5b6151e24dfe6ac38e7760", func := "loop.example/g02075/laws.FnExactOrbitLength", spec := "fnExactOrbitLength", apart := false }
def FnExactOrbitLengthSaid : Prop := fnExactOrbitLengthRow.holds Try.pinned (OpenSpec.ofChange fnExactOrbitLengthSpec)

/-- ITS FALSE NEIGHBOUR: 'it returns false'. Refute it at one input. -/
def fnExactOrbitLengthWrong : ChangeSpec := { name := "fnExactOrbitLength", fn := fun _ => fun
  | [d1, d2] => { results := [.lit (.bool false)], args := [d1, d2] }
  | _ => none }
def FnExactOrbitLengthWrongFalsely : Prop := fnExactOrbitLengthRow.holds Try.pinned (OpenSpec.ofChange fnExactOrbitLengthWrong)

/-- 'laws.FnExactReduceCyclic': WHATEVER THE INPUT: true; the input reads as it did. -/
def fnExactReduceCyclicSpec : ChangeSpec := { name := "fnExactReduceCyclic", fn := fun _ => fun
  | [d1, d2] => { results := [.lit (.bool true)], args := [d1, d2] }
  | _ => none }
def fnExactReduceCyclicRow : OpenClaim := { program := "ythdgcikdekkjkaa", sum := "fd7dd09a2fd17cf14145979a4ea8100d6a0674550d5b6151e24dfe6ac38e7760", func := "loop.example/g02075/laws.FnExactReduceCyclic", spec := "fnExactReduceCyclic", apart := false }
def FnExactReduceCyclicSaid : Prop := fnExactReduceCyclicRow.holds Try.pinned (OpenSpec.ofChange fnExactReduceCyclicSpec)

/-- ITS FALSE NEIGHBOUR: 'it returns false'. Refute it at one input. -/
def fnExactReduceCyclicWrong : ChangeSpec := { name := "fnExactReduceCyclic", fn := fun _ => fun
  | [d1, d2] => { results := [.lit (.bool false)], args := [d1, d2] }
  | _ => none }
def FnExactReduceCyclicWrongFalsely : Prop := fnExactReduceCyclicRow.holds Try.pinned (OpenSpec.ofChange fnExactReduceCyclicWrong)

/- THE SECOND FORM. 'bulk': how many values and letters a reading holds, each counted each time it is reached (what is shared counts as often as it is met; a slice's spare places count too). A statement '..UptoSaid' is the law's where the arguments, and the package variables that the reading takes, are together of bulk at most 1048576: NARROWER than '..Said'. Prove '..Said' where nothing that the law and all that it calls make is longer than what came in: it says more and counts as full. Else prove '..UptoSaid'. A law counts once. -/
mutual
def uptoBulk {H : Type} : DataW H → Nat
  | .lit (.string bytes) => bytes.length + 1
  | .lit _ => 1
  | .nil => 1
  | .ptr d => uptoBulk d + 1
  | .slice elems spare => uptoBulkAll elems + uptoBulkAll spare + 1
  | .agg parts => uptoBulkAll parts + 1
  | .iface _ d => uptoBulk d + 1
  | .map entries => uptoBulkEntries entries + 1
  | .held _ => 1
def uptoBulkAll {H : Type} : List (DataW H) → Nat
  | [] => 0
  | d :: r => uptoBulk d + uptoBulkAll r
def uptoBulkEntries {H : Type} : List (Lit × DataW H) → Nat
  | [] => 0
  | x :: r => uptoBulkEntry x + uptoBulkEntries r
def uptoBulkEntry {H : Type} : Lit × DataW H → Nat
  | (.string bytes, d) => bytes.length + uptoBulk d + 1
  | (_, d) => uptoBulk d + 1
 end
def uptoSmall : (H : Type) → List (DataW H) → Bool := fun _ ds => decide (uptoBulkAll ds ≤ 1048576)
def OpenSpec.upto (s : _root_.Go.ChangeSpec) : _root_.Go.OpenSpec := { _root_.Go.OpenSpec.ofChange s with cond := some uptoSmall }

/-- 'laws.FnExactAllWhitehead', WHERE WHAT IT READS IS OF BULK AT MOST 1048576: true; the input reads as it did. -/
def fnExactAllWhiteheadUptoRow : OpenClaim := { program := "ythdgcikdekkjkaa", sum := "fd7dd09a2fd17cf14145979a4ea8100d6a0674550d5b6151e24dfe6ac38e7760", func := "loop.example/g02075/laws.FnExactAllWhitehead", spec := "fnExactAllWhitehead", apart := false, narrowed := true }
def FnExactAllWhiteheadUptoSaid : Prop := fnExactAllWhiteheadUptoRow.holds Try.pinned (OpenSpec.upto fnExactAllWhiteheadSpec)

/-- 'laws.FnExactIsListed', WHERE WHAT IT READS IS OF BULK AT MOST 1048576: true; the input reads as it did. -/
def fnExactIsListedUptoRow : OpenClaim := { program := "ythdgcikdekkjkaa", sum := "fd7dd09a2fd17cf14145979a4ea8100d6a0674550d5b6151e24dfe6ac38e7760", func := "loop.example/g02075/laws.FnExactIsListed", spec := "fnExactIsListed", apart := false, narrowed := true }
def FnExactIsListedUptoSaid : Prop := fnExactIsListedUptoRow.holds Try.pinned (OpenSpec.upto fnExactIsListedSpec)

/-- 'laws.FnExactSolveSingle', WHERE WHAT IT READS IS OF BULK AT MOST 1048576: true; the input reads as it did. -/
def fnExactSolveSingleUptoRow : OpenClaim := { program := "ythdgcikdekkjkaa", sum := "fd7dd09a2fd17cf14145979a4ea8100d6a0674550d5b6151e24dfe6ac38e7760", func := "loop.example/g02075/laws.FnExactSolveSingle", spec := "fnExactSolveSingle", apart := false, narrowed := true }
def FnExactSolveSingleUptoSaid : Prop := fnExactSolveSingleUptoRow.holds Try.pinned (OpenSpec.upto fnExactSolveSingleSpec)

/-- 'laws.FnExactParseEquation', WHERE WHAT IT READS IS OF BULK AT MOST 1048576: true; the input reads as it did. -/
def fnExactParseEquationUptoRow : OpenClaim := { program := "ythdgcikdekkjkaa", sum := "fd7dd09a2fd17cf14145979a4ea8100d6a0674550d5b6151e24dfe6ac38e7760", func := "loop.example/g02075/laws.FnExactParseEquation", spec := "fnExactParseEquation", apart := false, narrowed := true }
def FnExactParseEquationUptoSaid : Prop := fnExactParseEquationUptoRow.holds Try.pinned (OpenSpec.upto fnExactParseEquationSpec)

/-- 'laws.FnExactAllRelabellings', WHERE WHAT IT READS IS OF BULK AT MOST 1048576: true; the input reads as it did. -/
def fnExactAllRelabellingsUptoRow : OpenClaim := { program := "ythdgcikdekkjkaa", sum := "fd7dd09a2fd17cf14145979a4ea8100d6a0674550d5b6151e24dfe6ac38e7760", func := "loop.example/g02075/laws.FnExactAllRelabellings", spec := "fnExactAllRelabellings", unfollowed := true, recurses := true, apart := false, narrowed := true }
def FnExactAllRelabellingsUptoSaid : Prop := fnExactAllRelabellingsUptoRow.holds Try.pinned (OpenSpec.upto fnExactAllRelabellingsSpec)

/-- 'laws.FnExactWhiteheadMorphism', WHERE WHAT IT READS IS OF BULK AT MOST 1048576: true; the input reads as it did. -/
def fnExactWhiteheadMorphismUptoRow : OpenClaim := { program := "ythdgcikdekkjkaa", sum := "fd7dd09a2fd17cf14145979a4ea8100d6a0674550d5b6151e24dfe6ac38e7760", func := "loop.example/g02075/laws.FnExactWhiteheadMorphism", spec := "fnExactWhiteheadMorphism", apart := false, narrowed := true }
def FnExactWhiteheadMorphismUptoSaid : Prop := fnExactWhiteheadMorphismUptoRow.holds Try.pinned (OpenSpec.upto fnExactWhiteheadMorphismSpec)

/-- 'laws.FnExactLatticeIndex', WHERE WHAT IT READS IS OF BULK AT MOST 1048576: true; the input reads as it did. -/
def fnExactLatticeIndexUptoRow : OpenClaim := { program := "ythdgcikdekkjkaa", sum := "fd7dd09a2fd17cf14145979a4ea8100d6a0674550d5b6151e24dfe6ac38e7760", func := "loop.example/g02075/laws.FnExactLatticeIndex", spec := "fnExactLatticeIndex", apart := false, narrowed := true }
def FnExactLatticeIndexUptoSaid : Prop := fnExactLatticeIndexUptoRow.holds Try.pinned (OpenSpec.upto fnExactLatticeIndexSpec)

/-- 'laws.FnExactInLattice', WHERE WHAT IT READS IS OF BULK AT MOST 1048576: true; the input reads as it did. -/
def fnExactInLatticeUptoRow : OpenClaim := { program := "ythdgcikdekkjkaa", sum := "fd7dd09a2fd17cf14145979a4ea8100d6a0674550d5b6151e24dfe6ac38e7760", func := "loop.example/g02075/laws.FnExactInLattice", spec := "fnExactInLattice", apart := false, narrowed := true }
def FnExactInLatticeUptoSaid : Prop := fnExactInLatticeUptoRow.holds Try.pinned (OpenSpec.upto fnExactInLatticeSpec)

/-- 'laws.FnExactHermiteForm', WHERE WHAT IT READS IS OF BULK AT MOST 1048576: true; the input reads as it did. -/
def fnExactHermiteFormUptoRow : OpenClaim := { program := "ythdgcikdekkjkaa", sum := "fd7dd09a2fd17cf14145979a4ea8100d6a0674550d5b6151e24dfe6ac38e7760", func := "loop.example/g02075/laws.FnExactHermiteForm", spec := "fnExactHermiteForm", apart := false, narrowed := true }
def FnExactHermiteFormUptoSaid : Prop := fnExactHermiteFormUptoRow.holds Try.pinned (OpenSpec.upto fnExactHermiteFormSpec)

/-- 'laws.FnExactSolutionsUpTo', WHERE WHAT IT READS IS OF BULK AT MOST 1048576: true; the input reads as it did. -/
def fnExactSolutionsUpToUptoRow : OpenClaim := { program := "ythdgcikdekkjkaa", sum := "fd7dd09a2fd17cf14145979a4ea8100d6a0674550d5b6151e24dfe6ac38e7760", func := "loop.example/g02075/laws.FnExactSolutionsUpTo", spec := "fnExactSolutionsUpTo", apart := false, narrowed := true }
def FnExactSolutionsUpToUptoSaid : Prop := fnExactSolutionsUpToUptoRow.holds Try.pinned (OpenSpec.upto fnExactSolutionsUpToSpec)

/-- 'laws.FnExactIsPrimitive', WHERE WHAT IT READS IS OF BULK AT MOST 1048576: true; the input reads as it did. -/
def fnExactIsPrimitiveUptoRow : OpenClaim := { program := "ythdgcikdekkjkaa", sum := "fd7dd09a2fd17cf14145979a4ea8100d6a0674550d5b6151e24dfe6ac38e7760", func := "loop.example/g02075/laws.FnExactIsPrimitive", spec := "fnExactIsPrimitive", apart := false, narrowed := true }
def FnExactIsPrimitiveUptoSaid : Prop := fnExactIsPrimitiveUptoRow.holds Try.pinned (OpenSpec.upto fnExactIsPrimitiveSpec)

/-- 'laws.FnExactShortenCyclic', WHERE WHAT IT READS IS OF BULK AT MOST 1048576: true; the input reads as it did. -/
def fnExactShortenCyclicUptoRow : OpenClaim := { program := "ythdgcikdekkjkaa", sum := "fd7dd09a2fd17cf14145979a4ea8100d6a0674550d5b6151e24dfe6ac38e7760", func := "loop.example/g02075/laws.FnExactShortenCyclic", spec := "fnExactShortenCyclic", apart := false, narrowed := true }
def FnExactShortenCyclicUptoSaid : Prop := fnExactShortenCyclicUptoRow.holds Try.pinned (OpenSpec.upto fnExactShortenCyclicSpec)

/-- 'laws.FnExactOrbitLength', WHERE WHAT IT READS IS OF BULK AT MOST 1048576: true; the input reads as it did. -/
def fnExactOrbitLengthUptoRow : OpenClaim := { program := "ythdgcikdekkjkaa", sum := "fd7dd09a2fd17cf14145979a4ea8100d6a0674550d5b6151e24dfe6ac38e7760", func := "loop.example/g02075/laws.FnExactOrbitLength", spec := "fnExactOrbitLength", apart := false, narrowed := true }
def FnExactOrbitLengthUptoSaid : Prop := fnExactOrbitLengthUptoRow.holds Try.pinned (OpenSpec.upto fnExactOrbitLengthSpec)

/-- 'laws.FnExactReduceCyclic', WHERE WHAT IT READS IS OF BULK AT MOST 1048576: true; the input reads as it did. -/
def fnExactReduceCyclicUptoRow : OpenClaim := { program := "ythdgcikdekkjkaa", sum := "fd7dd09a2fd17cf14145979a4ea8100d6a0674550d5b6151e24dfe6ac38e7760", func := "loop.example/g02075/laws.FnExactReduceCyclic", spec := "fnExactReduceCyclic", apart := false, narrowed := true }
def FnExactReduceCyclicUptoSaid : Prop := fnExactReduceCyclicUptoRow.holds Try.pinned (OpenSpec.upto fnExactReduceCyclicSpec)

end Rows
end Go.Proofs.Ythdgcikdekkjkaa
