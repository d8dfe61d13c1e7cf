/-
  No cell of these rows narrows 'for every input' (looked for: loops, veiled, ifaces, maps, wideKeys, modest, calm, conditions, laid).
  DERIVED. THE GIVEN ROWS OF THIS SEAT. 4 by the template 'for every input the law returns true; each argument reads behind the call as it read before'; 0 by the template 'total and deterministic' (their statements: YtnmkbkpegkchpaaTotals.lean).
  GIVEN WITH THE SEED: the statements are not yours to turn. If you find one false, say at which input.
  Laid BY PROGRAM, IN A SANDBOX (cutbox-rows.mjs): the forced cells as the released guide's own fill.sh prints them over the translation 37bffc3816d85440… (all of the seat's roots in one cut). By AI agents, Wed Nov 11 2026. No macro, syntax, notation, axiom, sorry.
-/
import Derived.Test.YtnmkbkpegkchpaaChecked
import GoSem.Claim
import GoSem.ClaimJoined
import GoSem.ClaimMapViews
import Derived.JoinedTies
import Derived.KernelRfl
namespace Go.Proofs.Ytnmkbkpegkchpaa
/- THE CELL 'sum', in the pinned program and in every row, IS THE sha256 OF THE DUMP (.gsa) THAT YtnmkbkpegkchpaaProg.lean LOADS. Nothing in Lean hashes anything: it is a label: what it is worth is what the hold of that sum in a sandbox is worth. -/
noncomputable def Try.pinned : Pinned := { name := "ytnmkbkpegkchpaa", sum := "37bffc3816d854408ed91676a49f95880f633f6476e9d02542efe08b5e70daea", checked := Try.checked }
namespace Rows
def none {H : Type} : Left H := { results := [], args := [] }

/-- 'laws.FnExactAllRelabellings': WHATEVER THE INPUT: true; the input reads as it did. -/
def fnExactAllRelabellingsSpec : ChangeSpec := { name := "fnExactAllRelabellings", fn := fun _ => fun
  | [d] => { results := [.lit (.bool true)], args := [d] }
  | _ => none }
def fnExactAllRelabellingsRow : OpenClaim := { program := "ytnmkbkpegkchpaa", sum := "37bffc3816d854408ed91676a49f95880f633f6476e9d02542efe08b5e70daea", func := "loop.example/g02075/laws.FnExactAllRelabellings", spec := "fnExactAllRelabellings", unfollowed := true, recurses := true, apart := false }
def FnExactAllRelabellingsSaid : Prop := fnExactAllRelabellingsRow.holds Try.pinned (OpenSpec.ofChange fnExactAllRelabellingsSpec)

/-- ITS FALSE NEIGHBOUR: 'it returns false'. Refute it at one input. -/
def fnExactAllRelabellingsWrong : ChangeSpec := { name := "fnExactAllRelabellings", fn := fun _ => fun
  | [d] => { results := [.lit (.bool false)], args := [d] }
  | _ => none }
def FnExactAllRelabellingsWrongFalsely : Prop := fnExactAllRelabellingsRow.holds Try.pinned (OpenSpec.ofChange fnExactAllRelabellingsWrong)

/-- 'laws.FnExactOrbitForm': WHATEVER THE INPUT: true; the input reads as it did. -/
def fnExactOrbitFormSpec : ChangeSpec := { name := "fnExactOrbitForm", fn := fun _ => fun
  | [d1, d2] => { results := [.lit (.bool true)], args := [d1, d2] }
  | _ => none }
def fnExactOrbitFormRow : OpenClaim := { program := "ytnmkbkpegkchpaa", sum := "37bffc3816d854408ed91676a49f95880f633f6476e9d02542efe08b5e70daea", func := "loop.example/g02075/laws.FnExactOrbitForm", spec := "fnExactOrbitForm", unfollowed := true, recurses := true, apart := false }
def FnExactOrbitFormSaid : Prop := fnExactOrbitFormRow.holds Try.pinned (OpenSpec.ofChange fnExactOrbitFormSpec)

/-- ITS FALSE NEIGHBOUR: 'it returns false'. Refute it at one input. -/
def fnExactOrbitFormWrong : ChangeSpec := { name := "fnExactOrbitForm", fn := fun _ => fun
  | [d1, d2] => { results := [.lit (.bool false)], args := [d1, d2] }
  | _ => none }
def FnExactOrbitFormWrongFalsely : Prop := fnExactOrbitFormRow.holds Try.pinned (OpenSpec.ofChange fnExactOrbitFormWrong)

/-- 'laws.FnExactAreAutomorphic': WHATEVER THE INPUT: true; the input reads as it did. -/
def fnExactAreAutomorphicSpec : ChangeSpec := { name := "fnExactAreAutomorphic", fn := fun _ => fun
  | [d1, d2, d3] => { results := [.lit (.bool true)], args := [d1, d2, d3] }
  | _ => none }
def fnExactAreAutomorphicRow : OpenClaim := { program := "ytnmkbkpegkchpaa", sum := "37bffc3816d854408ed91676a49f95880f633f6476e9d02542efe08b5e70daea", func := "loop.example/g02075/laws.FnExactAreAutomorphic", spec := "fnExactAreAutomorphic", unfollowed := true, recurses := true, apart := false }
def FnExactAreAutomorphicSaid : Prop := fnExactAreAutomorphicRow.holds Try.pinned (OpenSpec.ofChange fnExactAreAutomorphicSpec)

/-- ITS FALSE NEIGHBOUR: 'it returns false'. Refute it at one input. -/
def fnExactAreAutomorphicWrong : ChangeSpec := { name := "fnExactAreAutomorphic", fn := fun _ => fun
  | [d1, d2, d3] => { results := [.lit (.bool false)], args := [d1, d2, d3] }
  | _ => none }
def FnExactAreAutomorphicWrongFalsely : Prop := fnExactAreAutomorphicRow.holds Try.pinned (OpenSpec.ofChange fnExactAreAutomorphicWrong)

/-- 'laws.FnExactLevelOf': WHATEVER THE INPUT: true; the input reads as it did. -/
def fnExactLevelOfSpec : ChangeSpec := { name := "fnExactLevelOf", fn := fun _ => fun
  | [d1, d2] => { results := [.lit (.bool true)], args := [d1, d2] }
  | _ => none }
def fnExactLevelOfRow : OpenClaim := { program := "ytnmkbkpegkchpaa", sum := "37bffc3816d854408ed91676a49f95880f633f6476e9d02542efe08b5e70daea", func := "loop.example/g02075/laws.FnExactLevelOf", spec := "fnExactLevelOf", unfollowed := true, recurses := true, apart := false }
def FnExactLevelOfSaid : Prop := fnExactLevelOfRow.holds Try.pinned (OpenSpec.ofChange fnExactLevelOfSpec)

/-- ITS FALSE NEIGHBOUR: 'it returns false'. Refute it at one input. -/
def fnExactLevelOfWrong : ChangeSpec := { name := "fnExactLevelOf", fn := fun _ => fun
  | [d1, d2] => { results := [.lit (.bool false)], args := [d1, d2] }
  | _ => none }
def FnExactLevelOfWrongFalsely : Prop := fnExactLevelOfRow.holds Try.pinned (OpenSpec.ofChange fnExactLevelOfWrong)

/- THE SECOND FORM. 'bulk': how many values and letters a reading holds, each counted each time it is reached (what is shared counts as often as it is met; a slice's spare places count too). A statement '..UptoSaid' is the law's where the arguments, and the package variables that the reading takes, are together of bulk at most 1048576: NARROWER than '..Said'. Prove '..Said' where nothing that the law and all that it calls make is longer than what came in: it says more and counts as full. Else prove '..UptoSaid'. A law counts once. -/
mutual
def uptoBulk {H : Type} : DataW H → Nat
  | .lit (.string bytes) => bytes.length + 1
  | .lit _ => 1
  | .nil => 1
  | .ptr d => uptoBulk d + 1
  | .slice elems spare => uptoBulkAll elems + uptoBulkAll spare + 1
  | .agg parts => uptoBulkAll parts + 1
  | .iface _ d => uptoBulk d + 1
  | .map entries => uptoBulkEntries entries + 1
  | .held _ => 1
def uptoBulkAll {H : Type} : List (DataW H) → Nat
  | [] => 0
  | d :: r => uptoBulk d + uptoBulkAll r
def uptoBulkEntries {H : Type} : List (Lit × DataW H) → Nat
  | [] => 0
  | x :: r => uptoBulkEntry x + uptoBulkEntries r
def uptoBulkEntry {H : Type} : Lit × DataW H → Nat
  | (.string bytes, d) => bytes.length + uptoBulk d + 1
  | (_, d) => uptoBulk d + 1
 end
def uptoSmall : (H : Type) → List (DataW H) → Bool := fun _ ds => decide (uptoBulkAll ds ≤ 1048576)
def OpenSpec.upto (s : _root_.Go.ChangeSpec) : _root_.Go.OpenSpec := { _root_.Go.OpenSpec.ofChange s with cond := some uptoSmall }

/-- 'laws.FnExactAllRelabellings', WHERE WHAT IT READS IS OF BULK AT MOST 1048576: true; the input reads as it did. -/
def fnExactAllRelabellingsUptoRow : OpenClaim := { program := "ytnmkbkpegkchpaa", sum := "37bffc3816d854408ed91676a49f95880f633f6476e9d02542efe08b5e70daea", func := "loop.example/g02075/laws.FnExactAllRelabellings", spec := "fnExactAllRelabellings", unfollowed := true, recurses := true, apart := false, narrowed := true }
def FnExactAllRelabellingsUptoSaid : Prop := fnExactAllRelabellingsUptoRow.holds Try.pinned (OpenSpec.upto fnExactAllRelabellingsSpec)

/-- 'laws.FnExactOrbitForm', WHERE WHAT IT READS IS OF BULK AT MOST 1048576: true; the input reads as it did. -/
def fnExactOrbitFormUptoRow : OpenClaim := { program := "ytnmkbkpegkchpaa", sum := "37bffc3816d854408ed91676a49f95880f633f6476e9d02542efe08b5e70daea", func := "loop.example/g02075/laws.FnExactOrbitForm", spec := "fnExactOrbitForm", unfollowed := true, recurses := true, apart := false, narrowed := true }
def FnExactOrbitFormUptoSaid : Prop := fnExactOrbitFormUptoRow.holds Try.pinned (OpenSpec.upto fnExactOrbitFormSpec)

/-- 'laws.FnExactAreAutomorphic', WHERE WHAT IT READS IS OF BULK AT MOST 1048576: true; the input reads as it did. -/
def fnExactAreAutomorphicUptoRow : OpenClaim := { program := "ytnmkbkpegkchpaa", sum := "37bffc3816d854408ed91676a49f95880f633f6476e9d02542efe08b5e70daea", func := "loop.example/g02075/laws.FnExactAreAutomorphic", spec := "fnExactAreAutomorphic", unfollowed := true, recurses := true, apart := false, narrowed := true }
def FnExactAreAutomorphicUptoSaid : Prop := fnExactAreAutomorphicUptoRow.holds Try.pinned (OpenSpec.upto fnExactAreAutomorphicSpec)

/-- 'laws.FnExactLevelOf', WHERE WHAT IT READS IS OF BULK AT MOST 1048576: true; the input reads as it did. -/
def fnExactLevelOfUptoRow : OpenClaim := { program := "ytnmkbkpegkchpaa", sum := "37bffc3816d854408ed91676a49f95880f633f6476e9d02542efe08b5e70daea", func := "loop.example/g02075/laws.FnExactLevelOf", spec := "fnExactLevelOf", unfollowed := true, recurses := true, apart := false, narrowed := true }
def FnExactLevelOfUptoSaid : Prop := fnExactLevelOfUptoRow.holds Try.pinned (OpenSpec.upto fnExactLevelOfSpec)

end Rows
end Go.Proofs.Ytnmkbkpegkchpaa
