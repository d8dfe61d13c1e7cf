/-
  No cell of these rows narrows 'for every input' (looked for: loops, veiled, ifaces, maps, wideKeys, modest, calm, conditions, laid).
  DERIVED. THE GIVEN ROWS OF THIS SEAT. 12 by the template 'for every input the law returns true; each argument reads behind the call as it read before'; 0 by the template 'total and deterministic' (their statements: YtnjbebicnmnnkaaTotals.lean).
  GIVEN WITH THE SEED: the statements are not yours to turn. If you find one false, say at which input.
  Laid BY PROGRAM, IN A SANDBOX (cutbox-rows.mjs): the forced cells as the released guide's own fill.sh prints them over the translation 944d750f401152db… (all of the seat's roots in one cut). By AI agents, Wed Nov 11 2026. No macro, syntax, notation, axiom, sorry.
-/
import Derived.Test.YtnjbebicnmnnkaaChecked
import GoSem.Claim
import GoSem.ClaimJoined
import GoSem.ClaimMapViews
import Derived.JoinedTies
import Derived.KernelRfl
namespace Go.Proofs.Ytnjbebicnmnnkaa
/- THE CELL 'sum', in the pinned program and in every row, IS THE sha256 OF THE DUMP (.gsa) THAT YtnjbebicnmnnkaaProg.lean LOADS. Nothing in Lean hashes anything: it is a label: what it is worth is what the hold of that sum in a sandbox is worth. -/
noncomputable def Try.pinned : Pinned := { name := "ytnjbebicnmnnkaa", sum := "944d750f401152db1fce66677fca78b67207ca7806c250c57a058ec915a9f4ea", checked := Try.checked }
namespace Rows
def none {H : Type} : Left H := { results := [], args := [] }

/-- 'laws.FnExactSchreierRank': WHATEVER THE INPUT: true; the input reads as it did. -/
def fnExactSchreierRankSpec : ChangeSpec := { name := "fnExactSchreierRank", fn := fun _ => fun
  | [d1, d2] => { results := [.lit (.bool true)], args := [d1, d2] }
  | _ => none }
def fnExactSchreierRankRow : OpenClaim := { program := "ytnjbebicnmnnkaa", sum := "944d750f401152db1fce66677fca78b67207ca7806c250c57a058ec915a9f4ea", func := "loop.example/g02075/laws.FnExactSchreierRank", spec := "fnExactSchreierRank", apart := false }
def FnExactSchreierRankSaid : Prop := fnExactSchreierRankRow.holds Try.pinned (OpenSpec.ofChange fnExactSchreierRankSpec)

/-- ITS FALSE NEIGHBOUR: 'it returns false'. Refute it at one input. -/
def fnExactSchreierRankWrong : ChangeSpec := { name := "fnExactSchreierRank", fn := fun _ => fun
  | [d1, d2] => { results := [.lit (.bool false)], args := [d1, d2] }
  | _ => none }
def FnExactSchreierRankWrongFalsely : Prop := fnExactSchreierRankRow.holds Try.pinned (OpenSpec.ofChange fnExactSchreierRankWrong)

/-- 'laws.FnExactUnknownSum': WHATEVER THE INPUT: true; the input reads as it did. -/
def fnExactUnknownSumSpec : ChangeSpec := { name := "fnExactUnknownSum", fn := fun _ => fun
  | [d] => { results := [.lit (.bool true)], args := [d] }
  | _ => none }
def fnExactUnknownSumRow : OpenClaim := { program := "ytnjbebicnmnnkaa", sum := "944d750f401152db1fce66677fca78b67207ca7806c250c57a058ec915a9f4ea", func := "loop.example/g02075/laws.FnExactUnknownSum", spec := "fnExactUnknownSum", apart := false }
def FnExactUnknownSumSaid : Prop := fnExactUnknownSumRow.holds Try.pinned (OpenSpec.ofChange fnExactUnknownSumSpec)

/-- ITS FALSE NEIGHBOUR: 'it returns false'. Refute it at one input. -/
def fnExactUnknownSumWrong : ChangeSpec := { name := "fnExactUnknownSum", fn := fun _ => fun
  | [d] => { results := [.lit (.bool false)], args := [d] }
  | _ => none }
def FnExactUnknownSumWrongFalsely : Prop := fnExactUnknownSumRow.holds Try.pinned (OpenSpec.ofChange fnExactUnknownSumWrong)

/-- 'laws.FnExactIsEquation': WHATEVER THE INPUT: true; the input reads as it did. -/
def fnExactIsEquationSpec : ChangeSpec := { name := "fnExactIsEquation", fn := fun _ => fun
  | [d1, d2] => { results := [.lit (.bool true)], args := [d1, d2] }
  | _ => none }
def fnExactIsEquationRow : OpenClaim := { program := "ytnjbebicnmnnkaa", sum := "944d750f401152db1fce66677fca78b67207ca7806c250c57a058ec915a9f4ea", func := "loop.example/g02075/laws.FnExactIsEquation", spec := "fnExactIsEquation", apart := false }
def FnExactIsEquationSaid : Prop := fnExactIsEquationRow.holds Try.pinned (OpenSpec.ofChange fnExactIsEquationSpec)

/-- ITS FALSE NEIGHBOUR: 'it returns false'. Refute it at one input. -/
def fnExactIsEquationWrong : ChangeSpec := { name := "fnExactIsEquation", fn := fun _ => fun
  | [d1, d2] => { results := [.lit (.bool false)], args := [d1, d2] }
  | _ => none }
def FnExactIsEquationWrongFalsely : Prop := fnExactIsEquationRow.holds Try.pinned (OpenSpec.ofChange fnExactIsEquationWrong)

/-- 'laws.FnExactExponentSums': WHATEVER THE INPUT: true; the input reads as it did. -/
def fnExactExponentSumsSpec : ChangeSpec := { name := "fnExactExponentSums", fn := fun _ => fun
  | [d1, d2] => { results := [.lit (.bool true)], args := [d1, d2] }
  | _ => none }
def fnExactExponentSumsRow : OpenClaim := { program := "ytnjbebicnmnnkaa", sum := "944d750f401152db1fce66677fca78b67207ca7806c250c57a058ec915a9f4ea", func := "loop.example/g02075/laws.FnExactExponentSums", spec := "fnExactExponentSums", apart := false }
def FnExactExponentSumsSaid : Prop := fnExactExponentSumsRow.holds Try.pinned (OpenSpec.ofChange fnExactExponentSumsSpec)

/-- ITS FALSE NEIGHBOUR: 'it returns false'. Refute it at one input. -/
def fnExactExponentSumsWrong : ChangeSpec := { name := "fnExactExponentSums", fn := fun _ => fun
  | [d1, d2] => { results := [.lit (.bool false)], args := [d1, d2] }
  | _ => none }
def FnExactExponentSumsWrongFalsely : Prop := fnExactExponentSumsRow.holds Try.pinned (OpenSpec.ofChange fnExactExponentSumsWrong)

/-- 'laws.FnExactFormatEquation': WHATEVER THE INPUT: true; the input reads as it did. -/
def fnExactFormatEquationSpec : ChangeSpec := { name := "fnExactFormatEquation", fn := fun _ => fun
  | [d] => { results := [.lit (.bool true)], args := [d] }
  | _ => none }
def fnExactFormatEquationRow : OpenClaim := { program := "ytnjbebicnmnnkaa", sum := "944d750f401152db1fce66677fca78b67207ca7806c250c57a058ec915a9f4ea", func := "loop.example/g02075/laws.FnExactFormatEquation", spec := "fnExactFormatEquation", apart := false }
def FnExactFormatEquationSaid : Prop := fnExactFormatEquationRow.holds Try.pinned (OpenSpec.ofChange fnExactFormatEquationSpec)

/-- ITS FALSE NEIGHBOUR: 'it returns false'. Refute it at one input. -/
def fnExactFormatEquationWrong : ChangeSpec := { name := "fnExactFormatEquation", fn := fun _ => fun
  | [d] => { results := [.lit (.bool false)], args := [d] }
  | _ => none }
def FnExactFormatEquationWrongFalsely : Prop := fnExactFormatEquationRow.holds Try.pinned (OpenSpec.ofChange fnExactFormatEquationWrong)

/-- 'laws.FnExactInverseWhitehead': WHATEVER THE INPUT: true; the input reads as it did. -/
def fnExactInverseWhiteheadSpec : ChangeSpec := { name := "fnExactInverseWhitehead", fn := fun _ => fun
  | [d] => { results := [.lit (.bool true)], args := [d] }
  | _ => none }
def fnExactInverseWhiteheadRow : OpenClaim := { program := "ytnjbebicnmnnkaa", sum := "944d750f401152db1fce66677fca78b67207ca7806c250c57a058ec915a9f4ea", func := "loop.example/g02075/laws.FnExactInverseWhitehead", spec := "fnExactInverseWhitehead", apart := false }
def FnExactInverseWhiteheadSaid : Prop := fnExactInverseWhiteheadRow.holds Try.pinned (OpenSpec.ofChange fnExactInverseWhiteheadSpec)

/-- ITS FALSE NEIGHBOUR: 'it returns false'. Refute it at one input. -/
def fnExactInverseWhiteheadWrong : ChangeSpec := { name := "fnExactInverseWhitehead", fn := fun _ => fun
  | [d] => { results := [.lit (.bool false)], args := [d] }
  | _ => none }
def FnExactInverseWhiteheadWrongFalsely : Prop := fnExactInverseWhiteheadRow.holds Try.pinned (OpenSpec.ofChange fnExactInverseWhiteheadWrong)

/-- 'laws.FnExactInDerived': WHATEVER THE INPUT: true; the input reads as it did. -/
def fnExactInDerivedSpec : ChangeSpec := { name := "fnExactInDerived", fn := fun _ => fun
  | [d1, d2] => { results := [.lit (.bool true)], args := [d1, d2] }
  | _ => none }
def fnExactInDerivedRow : OpenClaim := { program := "ytnjbebicnmnnkaa", sum := "944d750f401152db1fce66677fca78b67207ca7806c250c57a058ec915a9f4ea", func := "loop.example/g02075/laws.FnExactInDerived", spec := "fnExactInDerived", apart := false }
def FnExactInDerivedSaid : Prop := fnExactInDerivedRow.holds Try.pinned (OpenSpec.ofChange fnExactInDerivedSpec)

/-- ITS FALSE NEIGHBOUR: 'it returns false'. Refute it at one input. -/
def fnExactInDerivedWrong : ChangeSpec := { name := "fnExactInDerived", fn := fun _ => fun
  | [d1, d2] => { results := [.lit (.bool false)], args := [d1, d2] }
  | _ => none }
def FnExactInDerivedWrongFalsely : Prop := fnExactInDerivedRow.holds Try.pinned (OpenSpec.ofChange fnExactInDerivedWrong)

/-- 'laws.FnExactSubstituteIn': WHATEVER THE INPUT: true; the input reads as it did. -/
def fnExactSubstituteInSpec : ChangeSpec := { name := "fnExactSubstituteIn", fn := fun _ => fun
  | [d1, d2] => { results := [.lit (.bool true)], args := [d1, d2] }
  | _ => none }
def fnExactSubstituteInRow : OpenClaim := { program := "ytnjbebicnmnnkaa", sum := "944d750f401152db1fce66677fca78b67207ca7806c250c57a058ec915a9f4ea", func := "loop.example/g02075/laws.FnExactSubstituteIn", spec := "fnExactSubstituteIn", apart := false }
def FnExactSubstituteInSaid : Prop := fnExactSubstituteInRow.holds Try.pinned (OpenSpec.ofChange fnExactSubstituteInSpec)

/-- ITS FALSE NEIGHBOUR: 'it returns false'. Refute it at one input. -/
def fnExactSubstituteInWrong : ChangeSpec := { name := "fnExactSubstituteIn", fn := fun _ => fun
  | [d1, d2] => { results := [.lit (.bool false)], args := [d1, d2] }
  | _ => none }
def FnExactSubstituteInWrongFalsely : Prop := fnExactSubstituteInRow.holds Try.pinned (OpenSpec.ofChange fnExactSubstituteInWrong)

/-- 'laws.FnExactIsWhitehead': WHATEVER THE INPUT: true; the input reads as it did. -/
def fnExactIsWhiteheadSpec : ChangeSpec := { name := "fnExactIsWhitehead", fn := fun _ => fun
  | [d1, d2] => { results := [.lit (.bool true)], args := [d1, d2] }
  | _ => none }
def fnExactIsWhiteheadRow : OpenClaim := { program := "ytnjbebicnmnnkaa", sum := "944d750f401152db1fce66677fca78b67207ca7806c250c57a058ec915a9f4ea", func := "loop.example/g02075/laws.FnExactIsWhitehead", spec := "fnExactIsWhitehead", apart := false }
def FnExactIsWhiteheadSaid : Prop := fnExactIsWhiteheadRow.holds Try.pinned (OpenSpec.ofChange fnExactIsWhiteheadSpec)

/-- ITS FALSE NEIGHBOUR: 'it returns false'. Refute it at one input. -/
def fnExactIsWhiteheadWrong : ChangeSpec := { name := "fnExactIsWhitehead", fn := fun _ => fun
  | [d1, d2] => { results := [.lit (.bool false)], args := [d1, d2] }
  | _ => none }
def FnExactIsWhiteheadWrongFalsely : Prop := fnExactIsWhiteheadRow.holds Try.pinned (OpenSpec.ofChange fnExactIsWhiteheadWrong)

/-- 'laws.FnExactFormatWhitehead': WHATEVER THE INPUT: true; the input reads as it did. -/
def fnExactFormatWhiteheadSpec : ChangeSpec := { name := "fnExactFormatWhitehead", fn := fun _ => fun
  | [d] => { results := [.lit (.bool true)], args := [d] }
  | _ => none }
def fnExactFormatWhiteheadRow : OpenClaim := { program := "ytnjbebicnmnnkaa", sum := "944d750f401152db1fce66677fca78b67207ca7806c250c57a058ec915a9f4ea", func := "loop.example/g02075/laws.FnExactFormatWhitehead", spec := "fnExactFormatWhitehead", apart := false }
def FnExactFormatWhiteheadSaid : Prop := fnExactFormatWhiteheadRow.holds Try.pinned (OpenSpec.ofChange fnExactFormatWhiteheadSpec)

/-- ITS FALSE NEIGHBOUR: 'it returns false'. Refute it at one input. -/
def fnExactFormatWhiteheadWrong : ChangeSpec := { name := "fnExactFormatWhitehead", fn := fun _ => fun
  | [d] => { results := [.lit (.bool false)], args := [d] }
  | _ => none }
def FnExactFormatWhiteheadWrongFalsely : Prop := fnExactFormatWhiteheadRow.holds Try.pinned (OpenSpec.ofChange fnExactFormatWhiteheadWrong)

/-- 'laws.FnExactIsSolution': WHATEVER THE INPUT: true; the input reads as it did. -/
def fnExactIsSolutionSpec : ChangeSpec := { name := "fnExactIsSolution", fn := fun _ => fun
  | [d1, d2, d3] => { results := [.lit (.bool true)], args := [d1, d2, d3] }
  | _ => none }
def fnExactIsSolutionRow : OpenClaim := { program := "ytnjbebicnmnnkaa", sum := "944d750f401152db1fce66677fca78b67207ca7806c250c57a058ec915a9f4ea", func := "loop.example/g02075/laws.FnExactIsSolution", spec := "fnExactIsSolution", apart := false }
def FnExactIsSolutionSaid : Prop := fnExactIsSolutionRow.holds Try.pinned (OpenSpec.ofChange fnExactIsSolutionSpec)

/-- ITS FALSE NEIGHBOUR: 'it returns false'. Refute it at one input. -/
def fnExactIsSolutionWrong : ChangeSpec := { name := "fnExactIsSolution", fn := fun _ => fun
  | [d1, d2, d3] => { results := [.lit (.bool false)], args := [d1, d2, d3] }
  | _ => none }
def FnExactIsSolutionWrongFalsely : Prop := fnExactIsSolutionRow.holds Try.pinned (OpenSpec.ofChange fnExactIsSolutionWrong)

/-- 'laws.FnExactAllWhitehead': WHATEVER THE INPUT: true; the input reads as it did. -/
def fnExactAllWhiteheadSpec : ChangeSpec := { name := "fnExactAllWhitehead", fn := fun _ => fun
  | [d] => { results := [.lit (.bool true)], args := [d] }
  | _ => none }
def fnExactAllWhiteheadRow : OpenClaim := { program := "ytnjbebicnmnnkaa", sum := "944d750f401152db1fce66677fca78b67207ca7806c250c57a058ec915a9f4ea", func := "loop.example/g02075/laws.FnExactAllWhitehead", spec := "fnExactAllWhitehead", apart := false }
def FnExactAllWhiteheadSaid : Prop := fnExactAllWhiteheadRow.holds Try.pinned (OpenSpec.ofChange fnExactAllWhiteheadSpec)

/-- ITS FALSE NEIGHBOUR: 'it returns false'. Refute it at one input. -/
def fnExactAllWhiteheadWrong : ChangeSpec := { name := "fnExactAllWhitehead", fn := fun _ => fun
  | [d] => { results := [.lit (.bool false)], args := [d] }
  | _ => none }
def FnExactAllWhiteheadWrongFalsely : Prop := fnExactAllWhiteheadRow.holds Try.pinned (OpenSpec.ofChange fnExactAllWhiteheadWrong)

/- THE SECOND FORM. 'bulk': how many values and letters a reading holds, each counted each time it is reached (what is shared counts as often as it is met; a slice's spare places count too). A statement '..UptoSaid' is the law's where the arguments, and the package variables that the reading takes, are together of bulk at most 1048576: NARROWER than '..Said'. Prove '..Said' where nothing that the law and all that it calls make is longer than what came in: it says more and counts as full. Else prove '..UptoSaid'. A law counts once. -/
mutual
def uptoBulk {H : Type} : DataW H → Nat
  | .lit (.string bytes) => bytes.length + 1
  | .lit _ => 1
  | .nil => 1
  | .ptr d => uptoBulk d + 1
  | .slice elems spare => uptoBulkAll elems + uptoBulkAll spare + 1
  | .agg parts => uptoBulkAll parts + 1
  | .iface _ d => uptoBulk d + 1
  | .map entries => uptoBulkEntries entries + 1
  | .held _ => 1
def uptoBulkAll {H : Type} : List (DataW H) → Nat
  | [] => 0
  | d :: r => uptoBulk d + uptoBulkAll r
def uptoBulkEntries {H : Type} : List (Lit × DataW H) → Nat
  | [] => 0
  | x :: r => uptoBulkEntry x + uptoBulkEntries r
def uptoBulkEntry {H : Type} : Lit × DataW H → Nat
  | (.string bytes, d) => bytes.length + uptoBulk d + 1
  | (_, d) => uptoBulk d + 1
 end
def uptoSmall : (H : Type) → List (DataW H) → Bool := fun _ ds => decide (uptoBulkAll ds ≤ 1048576)
def OpenSpec.upto (s : _root_.Go.ChangeSpec) : _root_.Go.OpenSpec := { _root_.Go.OpenSpec.ofChange s with cond := some uptoSmall }

/-- 'laws.FnExactSchreierRank', WHERE WHAT IT READS IS OF BULK AT MOST 1048576: true; the input reads as it did. -/
def fnExactSchreierRankUptoRow : OpenClaim := { program := "ytnjbebicnmnnkaa", sum := "944d750f401152db1fce66677fca78b67207ca7806c250c57a058ec915a9f4ea", func := "loop.example/g02075/laws.FnExactSchreierRank", spec := "fnExactSchreierRank", apart := false, narrowed := true }
def FnExactSchreierRankUptoSaid : Prop := fnExactSchreierRankUptoRow.holds Try.pinned (OpenSpec.upto fnExactSchreierRankSpec)

/-- 'laws.FnExactUnknownSum', WHERE WHAT IT READS IS OF BULK AT MOST 1048576: true; the input reads as it did. -/
def fnExactUnknownSumUptoRow : OpenClaim := { program := "ytnjbebicnmnnkaa", sum := "944d750f401152db1fce66677fca78b67207ca7806c250c57a058ec915a9f4ea", func := "loop.example/g02075/laws.FnExactUnknownSum", spec := "fnExactUnknownSum", apart := false, narrowed := true }
def FnExactUnknownSumUptoSaid : Prop := fnExactUnknownSumUptoRow.holds Try.pinned (OpenSpec.upto fnExactUnknownSumSpec)

/-- 'laws.FnExactIsEquation', WHERE WHAT IT READS IS OF BULK AT MOST 1048576: true; the input reads as it did. -/
def fnExactIsEquationUptoRow : OpenClaim := { program := "ytnjbebicnmnnkaa", sum := "944d750f401152db1fce66677fca78b67207ca7806c250c57a058ec915a9f4ea", func := "loop.example/g02075/laws.FnExactIsEquation", spec := "fnExactIsEquation", apart := false, narrowed := true }
def FnExactIsEquationUptoSaid : Prop := fnExactIsEquationUptoRow.holds Try.pinned (OpenSpec.upto fnExactIsEquationSpec)

/-- 'laws.FnExactExponentSums', WHERE WHAT IT READS IS OF BULK AT MOST 1048576: true; the input reads as it did. -/
def fnExactExponentSumsUptoRow : OpenClaim := { program := "ytnjbebicnmnnkaa", sum := "944d750f401152db1fce66677fca78b67207ca7806c250c57a058ec915a9f4ea", func := "loop.example/g02075/laws.FnExactExponentSums", spec := "fnExactExponentSums", apart := false, narrowed := true }
def FnExactExponentSumsUptoSaid : Prop := fnExactExponentSumsUptoRow.holds Try.pinned (OpenSpec.upto fnExactExponentSumsSpec)

/-- 'laws.FnExactFormatEquation', WHERE WHAT IT READS IS OF BULK AT MOST 1048576: true; the input reads as it did. -/
def fnExactFormatEquationUptoRow : OpenClaim := { program := "ytnjbebicnmnnkaa", sum := "944d750f401152db1fce66677fca78b67207ca7806c250c57a058ec915a9f4ea", func := "loop.example/g02075/laws.FnExactFormatEquation", spec := "fnExactFormatEquation", apart := false, narrowed := true }
def FnExactFormatEquationUptoSaid : Prop := fnExactFormatEquationUptoRow.holds Try.pinned (OpenSpec.upto fnExactFormatEquationSpec)

/-- 'laws.FnExactInverseWhitehead', WHERE WHAT IT READS IS OF BULK AT MOST 1048576: true; the input reads as it did. -/
def fnExactInverseWhiteheadUptoRow : OpenClaim := { program := "ytnjbebicnmnnkaa", sum := "944d750f401152db1fce66677fca78b67207ca7806c250c57a058ec915a9f4ea", func := "loop.example/g02075/laws.FnExactInverseWhitehead", spec := "fnExactInverseWhitehead", apart := false, narrowed := true }
def FnExactInverseWhiteheadUptoSaid : Prop := fnExactInverseWhiteheadUptoRow.holds Try.pinned (OpenSpec.upto fnExactInverseWhiteheadSpec)

/-- 'laws.FnExactInDerived', WHERE WHAT IT READS IS OF BULK AT MOST 1048576: true; the input reads as it did. -/
def fnExactInDerivedUptoRow : OpenClaim := { program := "ytnjbebicnmnnkaa", sum := "944d750f401152db1fce66677fca78b67207ca7806c250c57a058ec915a9f4ea", func := "loop.example/g02075/laws.FnExactInDerived", spec := "fnExactInDerived", apart := false, narrowed := true }
def FnExactInDerivedUptoSaid : Prop := fnExactInDerivedUptoRow.holds Try.pinned (OpenSpec.upto fnExactInDerivedSpec)

/-- 'laws.FnExactSubstituteIn', WHERE WHAT IT READS IS OF BULK AT MOST 1048576: true; the input reads as it did. -/
def fnExactSubstituteInUptoRow : OpenClaim := { program := "ytnjbebicnmnnkaa", sum := "944d750f401152db1fce66677fca78b67207ca7806c250c57a058ec915a9f4ea", func := "loop.example/g02075/laws.FnExactSubstituteIn", spec := "fnExactSubstituteIn", apart := false, narrowed := true }
def FnExactSubstituteInUptoSaid : Prop := fnExactSubstituteInUptoRow.holds Try.pinned (OpenSpec.upto fnExactSubstituteInSpec)

/-- 'laws.FnExactIsWhitehead', WHERE WHAT IT READS IS OF BULK AT MOST 1048576: true; the input reads as it did. -/
def fnExactIsWhiteheadUptoRow : OpenClaim := { program := "ytnjbebicnmnnkaa", sum := "944d750f401152db1fce66677fca78b67207ca7806c250c57a058ec915a9f4ea", func := "loop.example/g02075/laws.FnExactIsWhitehead", spec := "fnExactIsWhitehead", apart := false, narrowed := true }
def FnExactIsWhiteheadUptoSaid : Prop := fnExactIsWhiteheadUptoRow.holds Try.pinned (OpenSpec.upto fnExactIsWhiteheadSpec)

/-- 'laws.FnExactFormatWhitehead', WHERE WHAT IT READS IS OF BULK AT MOST 1048576: true; the input reads as it did. -/
def fnExactFormatWhiteheadUptoRow : OpenClaim := { program := "ytnjbebicnmnnkaa", sum := "944d750f401152db1fce66677fca78b67207ca7806c250c57a058ec915a9f4ea", func := "loop.example/g02075/laws.FnExactFormatWhitehead", spec := "fnExactFormatWhitehead", apart := false, narrowed := true }
def FnExactFormatWhiteheadUptoSaid : Prop := fnExactFormatWhiteheadUptoRow.holds Try.pinned (OpenSpec.upto fnExactFormatWhiteheadSpec)

/-- 'laws.FnExactIsSolution', WHERE WHAT IT READS IS OF BULK AT MOST 1048576: true; the input reads as it did. -/
def fnExactIsSolutionUptoRow : OpenClaim := { program := "ytnjbebicnmnnkaa", sum := "944d750f401152db1fce66677fca78b67207ca7806c250c57a058ec915a9f4ea", func := "loop.example/g02075/laws.FnExactIsSolution", spec := "fnExactIsSolution", apart := false, narrowed := true }
def FnExactIsSolutionUptoSaid : Prop := fnExactIsSolutionUptoRow.holds Try.pinned (OpenSpec.upto fnExactIsSolutionSpec)

/-- 'laws.FnExactAllWhitehead', WHERE WHAT IT READS IS OF BULK AT MOST 1048576: true; the input reads as it did. -/
def fnExactAllWhiteheadUptoRow : OpenClaim := { program := "ytnjbebicnmnnkaa", sum := "944d750f401152db1fce66677fca78b67207ca7806c250c57a058ec915a9f4ea", func := "loop.example/g02075/laws.FnExactAllWhitehead", spec := "fnExactAllWhitehead", apart := false, narrowed := true }
def FnExactAllWhiteheadUptoSaid : Prop := fnExactAllWhiteheadUptoRow.holds Try.pinned (OpenSpec.upto fnExactAllWhiteheadSpec)

end Rows
end Go.Proofs.Ytnjbebicnmnnkaa
