/-
  No cell of these rows narrows 'for every input' (looked for: loops, veiled, ifaces, maps, wideKeys, modest, calm, conditions, laid).
  DERIVED. THE GIVEN ROWS OF THIS SEAT. 4 by the template 'for every input the law returns true; each argument reads behind the call as it read before'; 0 by the template 'total and deterministic' (their statements: YtodkandjcodnjaaTotals.lean).
  GIVEN WITH THE SEED: the statements are not yours to turn. If you find one false, say at which input.
  Laid BY PROGRAM, IN A SANDBOX (cutbox-rows.mjs): the forced cells as the released guide's own fill.sh prints them over the translation ba669301ff3e1557… (all of the seat's roots in one cut). By AI agents, Wed Nov 11 2026. No macro, syntax, notation, axiom, sorry.
-/
import Derived.Test.YtodkandjcodnjaaChecked
import GoSem.Claim
import GoSem.ClaimJoined
import GoSem.ClaimMapViews
import Derived.JoinedTies
import Derived.KernelRfl
namespace Go.Proofs.Ytodkandjcodnjaa
/- THE CELL 'sum', in the pinned program and in every row, IS THE sha256 OF THE DUMP (.gsa) THAT YtodkandjcodnjaaProg.lean LOADS. Nothing in Lean hashes anything: it is a label: what it is worth is what the hold of that sum in a sandbox is worth. -/
noncomputable def Try.pinned : Pinned := { name := "ytodkandjcodnjaa", sum := "ba669301ff3e15573f1b8f86d7f4067023aaf216ede64b011916cb8c46b392e4", checked := Try.checked }
namespace Rows
def none {H : Type} : Left H := { results := [], args := [] }

/-- 'laws.FnExactLeastRank': WHATEVER THE INPUT: true; the input reads as it did. -/
def fnExactLeastRankSpec : ChangeSpec := { name := "fnExactLeastRank", fn := fun _ => fun
  | [d] => { results := [.lit (.bool true)], args := [d] }
  | _ => none }
def fnExactLeastRankRow : OpenClaim := { program := "ytodkandjcodnjaa", sum := "ba669301ff3e15573f1b8f86d7f4067023aaf216ede64b011916cb8c46b392e4", func := "loop.example/g02075/laws.FnExactLeastRank", spec := "fnExactLeastRank", unfollowed := true, recurses := true, apart := false }
def FnExactLeastRankSaid : Prop := fnExactLeastRankRow.holds Try.pinned (OpenSpec.ofChange fnExactLeastRankSpec)

/-- ITS FALSE NEIGHBOUR: 'it returns false'. Refute it at one input. -/
def fnExactLeastRankWrong : ChangeSpec := { name := "fnExactLeastRank", fn := fun _ => fun
  | [d] => { results := [.lit (.bool false)], args := [d] }
  | _ => none }
def FnExactLeastRankWrongFalsely : Prop := fnExactLeastRankRow.holds Try.pinned (OpenSpec.ofChange fnExactLeastRankWrong)

/-- 'laws.FnExactIsIndependent': WHATEVER THE INPUT: true; the input reads as it did. -/
def fnExactIsIndependentSpec : ChangeSpec := { name := "fnExactIsIndependent", fn := fun _ => fun
  | [d1, d2] => { results := [.lit (.bool true)], args := [d1, d2] }
  | _ => none }
def fnExactIsIndependentRow : OpenClaim := { program := "ytodkandjcodnjaa", sum := "ba669301ff3e15573f1b8f86d7f4067023aaf216ede64b011916cb8c46b392e4", func := "loop.example/g02075/laws.FnExactIsIndependent", spec := "fnExactIsIndependent", unfollowed := true, recurses := true, apart := false }
def FnExactIsIndependentSaid : Prop := fnExactIsIndependentRow.holds Try.pinned (OpenSpec.ofChange fnExactIsIndependentSpec)

/-- ITS FALSE NEIGHBOUR: 'it returns false'. Refute it at one input. -/
def fnExactIsIndependentWrong : ChangeSpec := { name := "fnExactIsIndependent", fn := fun _ => fun
  | [d1, d2] => { results := [.lit (.bool false)], args := [d1, d2] }
  | _ => none }
def FnExactIsIndependentWrongFalsely : Prop := fnExactIsIndependentRow.holds Try.pinned (OpenSpec.ofChange fnExactIsIndependentWrong)

/-- 'laws.FnExactIsMalnormal': WHATEVER THE INPUT: true; the input reads as it did. -/
def fnExactIsMalnormalSpec : ChangeSpec := { name := "fnExactIsMalnormal", fn := fun _ => fun
  | [d] => { results := [.lit (.bool true)], args := [d] }
  | _ => none }
def fnExactIsMalnormalRow : OpenClaim := { program := "ytodkandjcodnjaa", sum := "ba669301ff3e15573f1b8f86d7f4067023aaf216ede64b011916cb8c46b392e4", func := "loop.example/g02075/laws.FnExactIsMalnormal", spec := "fnExactIsMalnormal", unfollowed := true, recurses := true, apart := false }
def FnExactIsMalnormalSaid : Prop := fnExactIsMalnormalRow.holds Try.pinned (OpenSpec.ofChange fnExactIsMalnormalSpec)

/-- ITS FALSE NEIGHBOUR: 'it returns false'. Refute it at one input. -/
def fnExactIsMalnormalWrong : ChangeSpec := { name := "fnExactIsMalnormal", fn := fun _ => fun
  | [d] => { results := [.lit (.bool false)], args := [d] }
  | _ => none }
def FnExactIsMalnormalWrongFalsely : Prop := fnExactIsMalnormalRow.holds Try.pinned (OpenSpec.ofChange fnExactIsMalnormalWrong)

/-- 'laws.FnExactOffDiagonal': WHATEVER THE INPUT: true; the input reads as it did. -/
def fnExactOffDiagonalSpec : ChangeSpec := { name := "fnExactOffDiagonal", fn := fun _ => fun
  | [d] => { results := [.lit (.bool true)], args := [d] }
  | _ => none }
def fnExactOffDiagonalRow : OpenClaim := { program := "ytodkandjcodnjaa", sum := "ba669301ff3e15573f1b8f86d7f4067023aaf216ede64b011916cb8c46b392e4", func := "loop.example/g02075/laws.FnExactOffDiagonal", spec := "fnExactOffDiagonal", unfollowed := true, recurses := true, apart := false }
def FnExactOffDiagonalSaid : Prop := fnExactOffDiagonalRow.holds Try.pinned (OpenSpec.ofChange fnExactOffDiagonalSpec)

/-- ITS FALSE NEIGHBOUR: 'it returns false'. Refute it at one input. -/
def fnExactOffDiagonalWrong : ChangeSpec := { name := "fnExactOffDiagonal", fn := fun _ => fun
  | [d] => { results := [.lit (.bool false)], args := [d] }
  | _ => none }
def FnExactOffDiagonalWrongFalsely : Prop := fnExactOffDiagonalRow.holds Try.pinned (OpenSpec.ofChange fnExactOffDiagonalWrong)

/- THE SECOND FORM. 'bulk': how many values and letters a reading holds, each counted each time it is reached (what is shared counts as often as it is met; a slice's spare places count too). A statement '..UptoSaid' is the law's where the arguments, and the package variables that the reading takes, are together of bulk at most 1048576: NARROWER than '..Said'. Prove '..Said' where nothing that the law and all that it calls make is longer than what came in: it says more and counts as full. Else prove '..UptoSaid'. A law counts once. -/
mutual
def uptoBulk {H : Type} : DataW H → Nat
  | .lit (.string bytes) => bytes.length + 1
  | .lit _ => 1
  | .nil => 1
  | .ptr d => uptoBulk d + 1
  | .slice elems spare => uptoBulkAll elems + uptoBulkAll spare + 1
  | .agg parts => uptoBulkAll parts + 1
  | .iface _ d => uptoBulk d + 1
  | .map entries => uptoBulkEntries entries + 1
  | .held _ => 1
def uptoBulkAll {H : Type} : List (DataW H) → Nat
  | [] => 0
  | d :: r => uptoBulk d + uptoBulkAll r
def uptoBulkEntries {H : Type} : List (Lit × DataW H) → Nat
  | [] => 0
  | x :: r => uptoBulkEntry x + uptoBulkEntries r
def uptoBulkEntry {H : Type} : Lit × DataW H → Nat
  | (.string bytes, d) => bytes.length + uptoBulk d + 1
  | (_, d) => uptoBulk d + 1
 end
def uptoSmall : (H : Type) → List (DataW H) → Bool := fun _ ds => decide (uptoBulkAll ds ≤ 1048576)
def OpenSpec.upto (s : _root_.Go.ChangeSpec) : _root_.Go.OpenSpec := { _root_.Go.OpenSpec.ofChange s with cond := some uptoSmall }

/-- 'laws.FnExactLeastRank', WHERE WHAT IT READS IS OF BULK AT MOST 1048576: true; the input reads as it did. -/
def fnExactLeastRankUptoRow : OpenClaim := { program := "ytodkandjcodnjaa", sum := "ba669301ff3e15573f1b8f86d7f4067023aaf216ede64b011916cb8c46b392e4", func := "loop.example/g02075/laws.FnExactLeastRank", spec := "fnExactLeastRank", unfollowed := true, recurses := true, apart := false, narrowed := true }
def FnExactLeastRankUptoSaid : Prop := fnExactLeastRankUptoRow.holds Try.pinned (OpenSpec.upto fnExactLeastRankSpec)

/-- 'laws.FnExactIsIndependent', WHERE WHAT IT READS IS OF BULK AT MOST 1048576: true; the input reads as it did. -/
def fnExactIsIndependentUptoRow : OpenClaim := { program := "ytodkandjcodnjaa", sum := "ba669301ff3e15573f1b8f86d7f4067023aaf216ede64b011916cb8c46b392e4", func := "loop.example/g02075/laws.FnExactIsIndependent", spec := "fnExactIsIndependent", unfollowed := true, recurses := true, apart := false, narrowed := true }
def FnExactIsIndependentUptoSaid : Prop := fnExactIsIndependentUptoRow.holds Try.pinned (OpenSpec.upto fnExactIsIndependentSpec)

/-- 'laws.FnExactIsMalnormal', WHERE WHAT IT READS IS OF BULK AT MOST 1048576: true; the input reads as it did. -/
def fnExactIsMalnormalUptoRow : OpenClaim := { program := "ytodkandjcodnjaa", sum := "ba669301ff3e15573f1b8f86d7f4067023aaf216ede64b011916cb8c46b392e4", func := "loop.example/g02075/laws.FnExactIsMalnormal", spec := "fnExactIsMalnormal", unfollowed := true, recurses := true, apart := false, narrowed := true }
def FnExactIsMalnormalUptoSaid : Prop := fnExactIsMalnormalUptoRow.holds Try.pinned (OpenSpec.upto fnExactIsMalnormalSpec)

/-- 'laws.FnExactOffDiagonal', WHERE WHAT IT READS IS OF BULK AT MOST 1048576: true; the input reads as it did. -/
def fnExactOffDiagonalUptoRow : OpenClaim := { program := "ytodkandjcodnjaa", sum := "ba669301ff3e15573f1b8f86d7f4067023aaf216ede64b011916cb8c46b392e4", func := "loop.example/g02075/laws.FnExactOffDiagonal", spec := "fnExactOffDiagonal", unfollowed := true, recurses := true, apart := false, narrowed := true }
def FnExactOffDiagonalUptoSaid : Prop := fnExactOffDiagonalUptoRow.holds Try.pinned (OpenSpec.upto fnExactOffDiagonalSpec)

end Rows
end Go.Proofs.Ytodkandjcodnjaa
