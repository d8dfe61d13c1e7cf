/-
  No cell of these rows narrows 'for every input' (looked for: loops, veiled, ifaces, maps, wideKeys, modest, calm, conditions, laid).
  DERIVED. THE GIVEN ROWS OF THIS SEAT. 4 by the template 'for every input the law returns true; each argument reads behind the call as it read before'; 0 by the template 'total and deterministic' (their statements: YtfadnkjlilhneaaGreatTotals.lean).
  GIVEN WITH THE SEED: the statements are not yours to turn. If you find one false, say at which input.
  Laid BY PROGRAM, IN A SANDBOX (cutbox-rows.mjs): the forced cells as the released guide's own fill.sh prints them over the translation c6ee6de78c81fd6d… (all of the seat's roots in one cut). By AI agents, Wed Nov 11 2026. No macro, syntax, notation, axiom, sorry.
-/
import Derived.Test.YtfadnkjlilhneaaGreatChecked
import GoSem.Claim
import GoSem.ClaimJoined
import GoSem.ClaimMapViews
import Derived.JoinedTies
import Derived.KernelRfl
namespace Go.Proofs.YtfadnkjlilhneaaGreat
/- THE CELL 'sum', in the pinned program and in every row, IS THE sha256 OF THE DUMP (.gsa) THAT YtfadnkjlilhneaaGreatProg.lean LOADS. Nothing in Lean hashes anything: it is a label: what it is worth is what the hold of that sum in a sandbox is worth. -/
noncomputable def Tryz.pinned : Pinned := { name := "ytfadnkjlilhneaagreat", sum := "c6ee6de78c81fd6d61eadc96e994b85e2c5f18811ba1ccd1290e09184d0b5e56", checked := Tryz.checked }
namespace Rows
def none {H : Type} : Left H := { results := [], args := [] }

/-- 'laws.FnExactMalnormalWitness': WHATEVER THE INPUT: true; the input reads as it did. -/
def fnExactMalnormalWitnessSpec : ChangeSpec := { name := "fnExactMalnormalWitness", fn := fun _ => fun
  | [d] => { results := [.lit (.bool true)], args := [d] }
  | _ => none }
def fnExactMalnormalWitnessRow : OpenClaim := { program := "ytfadnkjlilhneaagreat", sum := "c6ee6de78c81fd6d61eadc96e994b85e2c5f18811ba1ccd1290e09184d0b5e56", func := "loop.example/g02075/laws.FnExactMalnormalWitness", spec := "fnExactMalnormalWitness", unfollowed := true, recurses := true, plainKeys := false, apart := false }
def FnExactMalnormalWitnessSaid : Prop := fnExactMalnormalWitnessRow.holds Tryz.pinned (OpenSpec.ofChange fnExactMalnormalWitnessSpec)

/-- ITS FALSE NEIGHBOUR: 'it returns false'. Refute it at one input. -/
def fnExactMalnormalWitnessWrong : ChangeSpec := { name := "fnExactMalnormalWitness", fn := fun _ => fun
  | [d] => { results := [.lit (.bool false)], args := [d] }
  | _ => none }
def FnExactMalnormalWitnessWrongFalsely : Prop := fnExactMalnormalWitnessRow.holds Tryz.pinned (OpenSpec.ofChange fnExactMalnormalWitnessWrong)

/-- 'laws.FnExactDoubleCosetLoops': WHATEVER THE INPUT: true; the input reads as it did. -/
def fnExactDoubleCosetLoopsSpec : ChangeSpec := { name := "fnExactDoubleCosetLoops", fn := fun _ => fun
  | [d1, d2, d3] => { results := [.lit (.bool true)], args := [d1, d2, d3] }
  | _ => none }
def fnExactDoubleCosetLoopsRow : OpenClaim := { program := "ytfadnkjlilhneaagreat", sum := "c6ee6de78c81fd6d61eadc96e994b85e2c5f18811ba1ccd1290e09184d0b5e56", func := "loop.example/g02075/laws.FnExactDoubleCosetLoops", spec := "fnExactDoubleCosetLoops", unfollowed := true, recurses := true, plainKeys := false, apart := false }
def FnExactDoubleCosetLoopsSaid : Prop := fnExactDoubleCosetLoopsRow.holds Tryz.pinned (OpenSpec.ofChange fnExactDoubleCosetLoopsSpec)

/-- ITS FALSE NEIGHBOUR: 'it returns false'. Refute it at one input. -/
def fnExactDoubleCosetLoopsWrong : ChangeSpec := { name := "fnExactDoubleCosetLoops", fn := fun _ => fun
  | [d1, d2, d3] => { results := [.lit (.bool false)], args := [d1, d2, d3] }
  | _ => none }
def FnExactDoubleCosetLoopsWrongFalsely : Prop := fnExactDoubleCosetLoopsRow.holds Tryz.pinned (OpenSpec.ofChange fnExactDoubleCosetLoopsWrong)

/-- 'laws.FnExactIntersectionIndices': WHATEVER THE INPUT: true; the input reads as it did. -/
def fnExactIntersectionIndicesSpec : ChangeSpec := { name := "fnExactIntersectionIndices", fn := fun _ => fun
  | [d1, d2] => { results := [.lit (.bool true)], args := [d1, d2] }
  | _ => none }
def fnExactIntersectionIndicesRow : OpenClaim := { program := "ytfadnkjlilhneaagreat", sum := "c6ee6de78c81fd6d61eadc96e994b85e2c5f18811ba1ccd1290e09184d0b5e56", func := "loop.example/g02075/laws.FnExactIntersectionIndices", spec := "fnExactIntersectionIndices", unfollowed := true, recurses := true, plainKeys := false, apart := false }
def FnExactIntersectionIndicesSaid : Prop := fnExactIntersectionIndicesRow.holds Tryz.pinned (OpenSpec.ofChange fnExactIntersectionIndicesSpec)

/-- ITS FALSE NEIGHBOUR: 'it returns false'. Refute it at one input. -/
def fnExactIntersectionIndicesWrong : ChangeSpec := { name := "fnExactIntersectionIndices", fn := fun _ => fun
  | [d1, d2] => { results := [.lit (.bool false)], args := [d1, d2] }
  | _ => none }
def FnExactIntersectionIndicesWrongFalsely : Prop := fnExactIntersectionIndicesRow.holds Tryz.pinned (OpenSpec.ofChange fnExactIntersectionIndicesWrong)

/-- 'laws.FnExactAreCommensurable': WHATEVER THE INPUT: true; the input reads as it did. -/
def fnExactAreCommensurableSpec : ChangeSpec := { name := "fnExactAreCommensurable", fn := fun _ => fun
  | [d1, d2] => { results := [.lit (.bool true)], args := [d1, d2] }
  | _ => none }
def fnExactAreCommensurableRow : OpenClaim := { program := "ytfadnkjlilhneaagreat", sum := "c6ee6de78c81fd6d61eadc96e994b85e2c5f18811ba1ccd1290e09184d0b5e56", func := "loop.example/g02075/laws.FnExactAreCommensurable", spec := "fnExactAreCommensurable", unfollowed := true, recurses := true, plainKeys := false, apart := false }
def FnExactAreCommensurableSaid : Prop := fnExactAreCommensurableRow.holds Tryz.pinned (OpenSpec.ofChange fnExactAreCommensurableSpec)

/-- ITS FALSE NEIGHBOUR: 'it returns false'. Refute it at one input. -/
def fnExactAreCommensurableWrong : ChangeSpec := { name := "fnExactAreCommensurable", fn := fun _ => fun
  | [d1, d2] => { results := [.lit (.bool false)], args := [d1, d2] }
  | _ => none }
def FnExactAreCommensurableWrongFalsely : Prop := fnExactAreCommensurableRow.holds Tryz.pinned (OpenSpec.ofChange fnExactAreCommensurableWrong)

/- THE SECOND FORM. 'bulk': how many values and letters a reading holds, each counted each time it is reached (what is shared counts as often as it is met; a slice's spare places count too). A statement '..UptoSaid' is the law's where the arguments, and the package variables that the reading takes, are together of bulk at most 1048576: NARROWER than '..Said'. Prove '..Said' where nothing that the law and all that it calls make is longer than what came in: it says more and counts as full. Else prove '..UptoSaid'. A law counts once. -/
mutual
def uptoBulk {H : Type} : DataW H → Nat
  | .lit (.string bytes) => bytes.length + 1
  | .lit _ => 1
  | .nil => 1
  | .ptr d => uptoBulk d + 1
  | .slice elems spare => uptoBulkAll elems + uptoBulkAll spare + 1
  | .agg parts => uptoBulkAll parts + 1
  | .iface _ d => uptoBulk d + 1
  | .map entries => uptoBulkEntries entries + 1
  | .held _ => 1
def uptoBulkAll {H : Type} : List (DataW H) → Nat
  | [] => 0
  | d :: r => uptoBulk d + uptoBulkAll r
def uptoBulkEntries {H : Type} : List (Lit × DataW H) → Nat
  | [] => 0
  | x :: r => uptoBulkEntry x + uptoBulkEntries r
def uptoBulkEntry {H : Type} : Lit × DataW H → Nat
  | (.string bytes, d) => bytes.length + uptoBulk d + 1
  | (_, d) => uptoBulk d + 1
 end
def uptoSmall : (H : Type) → List (DataW H) → Bool := fun _ ds => decide (uptoBulkAll ds ≤ 1048576)
def OpenSpec.upto (s : _root_.Go.ChangeSpec) : _root_.Go.OpenSpec := { _root_.Go.OpenSpec.ofChange s with cond := some uptoSmall }

/-- 'laws.FnExactMalnormalWitness', WHERE WHAT IT READS IS OF BULK AT MOST 1048576: true; the input reads as it did. -/
def fnExactMalnormalWitnessUptoRow : OpenClaim := { program := "ytfadnkjlilhneaagreat", sum := "c6ee6de78c81fd6d61eadc96e994b85e2c5f18811ba1ccd1290e09184d0b5e56", func := "loop.example/g02075/laws.FnExactMalnormalWitness", spec := "fnExactMalnormalWitness", unfollowed := true, recurses := true, plainKeys := false, apart := false, narrowed := true }
def FnExactMalnormalWitnessUptoSaid : Prop := fnExactMalnormalWitnessUptoRow.holds Tryz.pinned (OpenSpec.upto fnExactMalnormalWitnessSpec)

/-- 'laws.FnExactDoubleCosetLoops', WHERE WHAT IT READS IS OF BULK AT MOST 1048576: true; the input reads as it did. -/
def fnExactDoubleCosetLoopsUptoRow : OpenClaim := { program := "ytfadnkjlilhneaagreat", sum := "c6ee6de78c81fd6d61eadc96e994b85e2c5f18811ba1ccd1290e09184d0b5e56", func := "loop.example/g02075/laws.FnExactDoubleCosetLoops", spec := "fnExactDoubleCosetLoops", unfollowed := true, recurses := true, plainKeys := false, apart := false, narrowed := true }
def FnExactDoubleCosetLoopsUptoSaid : Prop := fnExactDoubleCosetLoopsUptoRow.holds Tryz.pinned (OpenSpec.upto fnExactDoubleCosetLoopsSpec)

/-- 'laws.FnExactIntersectionIndices', WHERE WHAT IT READS IS OF BULK AT MOST 1048576: true; the input reads as it did. -/
def fnExactIntersectionIndicesUptoRow : OpenClaim := { program := "ytfadnkjlilhneaagreat", sum := "c6ee6de78c81fd6d61eadc96e994b85e2c5f18811ba1ccd1290e09184d0b5e56", func := "loop.example/g02075/laws.FnExactIntersectionIndices", spec := "fnExactIntersectionIndices", unfollowed := true, recurses := true, plainKeys := false, apart := false, narrowed := true }
def FnExactIntersectionIndicesUptoSaid : Prop := fnExactIntersectionIndicesUptoRow.holds Tryz.pinned (OpenSpec.upto fnExactIntersectionIndicesSpec)

/-- 'laws.FnExactAreCommensurable', WHERE WHAT IT READS IS OF BULK AT MOST 1048576: true; the input reads as it did. -/
def fnExactAreCommensurableUptoRow : OpenClaim := { program := "ytfadnkjlilhneaagreat", sum := "c6ee6de78c81fd6d61eadc96e994b85e2c5f18811ba1ccd1290e09184d0b5e56", func := "loop.example/g02075/laws.FnExactAreCommensurable", spec := "fnExactAreCommensurable", unfollowed := true, recurses := true, plainKeys := false, apart := false, narrowed := true }
def FnExactAreCommensurableUptoSaid : Prop := fnExactAreCommensurableUptoRow.holds Tryz.pinned (OpenSpec.upto fnExactAreCommensurableSpec)

end Rows
end Go.Proofs.YtfadnkjlilhneaaGreat
