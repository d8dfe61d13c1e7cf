/-
  No cell of these rows narrows 'for every input' (looked for: loops, veiled, ifaces, maps, wideKeys, modest, calm, conditions, laid).
  DERIVED. THE GIVEN ROWS OF THIS SEAT. 3 by the template 'for every input the law returns true; each argument reads behind the call as it read before'; 0 by the template 'total and deterministic' (their statements: YtnnckojpmnpgbaaTotals.lean).
  GIVEN WITH THE SEED: the statements are not yours to turn. If you find one false, say at which input.
  Laid BY PROGRAM, IN A SANDBOX (cutbox-rows.mjs): the forced cells as the released guide's own fill.sh prints them over the translation 19c48581d3f8fc37… (all of the seat's roots in one cut). By AI agents, Wed Nov 11 2026. No macro, syntax, notation, axiom, sorry.
-/
import Derived.Test.YtnnckojpmnpgbaaChecked
import GoSem.Claim
import GoSem.ClaimJoined
import GoSem.ClaimMapViews
import Derived.JoinedTies
import Derived.KernelRfl
namespace Go.Proofs.Ytnnckojpmnpgbaa
/- THE CELL 'sum', in the pinned program and in every row, IS THE sha256 OF THE DUMP (.gsa) THAT YtnnckojpmnpgbaaProg.lean LOADS. Nothing in Lean hashes anything: it is a label: what it is worth is what the hold of that sum in a sandbox is worth. -/
noncomputable def Try.pinned : Pinned := { name := "ytnnckojpmnpgbaa", sum := "19c48581d3f8fc370912b1314913783bf47d56d49b5743947dec384f7b6a5541", checked := Try.checked }
namespace Rows
def none {H : Type} : Left H := { results := [], args := [] }

/-- 'laws.FnExactLatticeIndex': WHATEVER THE INPUT: true; the input reads as it did. -/
def fnExactLatticeIndexSpec : ChangeSpec := { name := "fnExactLatticeIndex", fn := fun _ => fun
  | [d1, d2] => { results := [.lit (.bool true)], args := [d1, d2] }
  | _ => none }
def fnExactLatticeIndexRow : OpenClaim := { program := "ytnnckojpmnpgbaa", sum := "19c48581d3f8fc370912b1314913783bf47d56d49b5743947dec384f7b6a5541", func := "loop.example/g02075/laws.FnExactLatticeIndex", spec := "fnExactLatticeIndex", apart := false }
def FnExactLatticeIndexSaid : Prop := fnExactLatticeIndexRow.holds Try.pinned (OpenSpec.ofChange fnExactLatticeIndexSpec)

/-- ITS FALSE NEIGHBOUR: 'it returns false'. Refute it at one input. -/
def fnExactLatticeIndexWrong : ChangeSpec := { name := "fnExactLatticeIndex", fn := fun _ => fun
  | [d1, d2] => { results := [.lit (.bool false)], args := [d1, d2] }
  | _ => none }
def FnExactLatticeIndexWrongFalsely : Prop := fnExactLatticeIndexRow.holds Try.pinned (OpenSpec.ofChange fnExactLatticeIndexWrong)

/-- 'laws.FnExactInLattice': WHATEVER THE INPUT: true; the input reads as it did. -/
def fnExactInLatticeSpec : ChangeSpec := { name := "fnExactInLattice", fn := fun _ => fun
  | [d1, d2] => { results := [.lit (.bool true)], args := [d1, d2] }
  | _ => none }
def fnExactInLatticeRow : OpenClaim := { program := "ytnnckojpmnpgbaa", sum := "19c48581d3f8fc370912b1314913783bf47d56d49b5743947dec384f7b6a5541", func := "loop.example/g02075/laws.FnExactInLattice", spec := "fnExactInLattice", apart := false }
def FnExactInLatticeSaid : Prop := fnExactInLatticeRow.holds Try.pinned (OpenSpec.ofChange fnExactInLatticeSpec)

/-- ITS FALSE NEIGHBOUR: 'it returns false'. Refute it at one input. -/
def fnExactInLatticeWrong : ChangeSpec := { name := "fnExactInLattice", fn := fun _ => fun
  | [d1, d2] => { results := [.lit (.bool false)], args := [d1, d2] }
  | _ => none }
def FnExactInLatticeWrongFalsely : Prop := fnExactInLatticeRow.holds Try.pinned (OpenSpec.ofChange fnExactInLatticeWrong)

/-- 'laws.FnExactHermiteForm': WHATEVER THE INPUT: true; the input reads as it did. -/
def fnExactHermiteFormSpec : ChangeSpec := { name := "fnExactHermiteForm", fn := fun _ => fun
  | [d1, d2] => { results := [.lit (.bool true)], args := [d1, d2] }
  | _ => none }
def fnExactHermiteFormRow : OpenClaim := { program := "ytnnckojpmnpgbaa", sum := "19c48581d3f8fc370912b1314913783bf47d56d49b5743947dec384f7b6a5541", func := "loop.example/g02075/laws.FnExactHermiteForm", spec := "fnExactHermiteForm", apart := false }
def FnExactHermiteFormSaid : Prop := fnExactHermiteFormRow.holds Try.pinned (OpenSpec.ofChange fnExactHermiteFormSpec)

/-- ITS FALSE NEIGHBOUR: 'it returns false'. Refute it at one input. -/
def fnExactHermiteFormWrong : ChangeSpec := { name := "fnExactHermiteForm", fn := fun _ => fun
  | [d1, d2] => { results := [.lit (.bool false)], args := [d1, d2] }
  | _ => none }
def FnExactHermiteFormWrongFalsely : Prop := fnExactHermiteFormRow.holds Try.pinned (OpenSpec.ofChange fnExactHermiteFormWrong)

/- THE SECOND FORM. 'bulk': how many values and letters a reading holds, each counted each time it is reached (what is shared counts as often as it is met; a slice's spare places count too). A statement '..UptoSaid' is the law's where the arguments, and the package variables that the reading takes, are together of bulk at most 1048576: NARROWER than '..Said'. Prove '..Said' where nothing that the law and all that it calls make is longer than what came in: it says more and counts as full. Else prove '..UptoSaid'. A law counts once. -/
mutual
def uptoBulk {H : Type} : DataW H → Nat
  | .lit (.string bytes) => bytes.length + 1
  | .lit _ => 1
  | .nil => 1
  | .ptr d => uptoBulk d + 1
  | .slice elems spare => uptoBulkAll elems + uptoBulkAll spare + 1
  | .agg parts => uptoBulkAll parts + 1
  | .iface _ d => uptoBulk d + 1
  | .map entries => uptoBulkEntries entries + 1
  | .held _ => 1
def uptoBulkAll {H : Type} : List (DataW H) → Nat
  | [] => 0
  | d :: r => uptoBulk d + uptoBulkAll r
def uptoBulkEntries {H : Type} : List (Lit × DataW H) → Nat
  | [] => 0
  | x :: r => uptoBulkEntry x + uptoBulkEntries r
def uptoBulkEntry {H : Type} : Lit × DataW H → Nat
  | (.string bytes, d) => bytes.length + uptoBulk d + 1
  | (_, d) => uptoBulk d + 1
 end
def uptoSmall : (H : Type) → List (DataW H) → Bool := fun _ ds => decide (uptoBulkAll ds ≤ 1048576)
def OpenSpec.upto (s : _root_.Go.ChangeSpec) : _root_.Go.OpenSpec := { _root_.Go.OpenSpec.ofChange s with cond := some uptoSmall }

/-- 'laws.FnExactLatticeIndex', WHERE WHAT IT READS IS OF BULK AT MOST 1048576: true; the input reads as it did. -/
def fnExactLatticeIndexUptoRow : OpenClaim := { program := "ytnnckojpmnpgbaa", sum := "19c48581d3f8fc370912b1314913783bf47d56d49b5743947dec384f7b6a5541", func := "loop.example/g02075/laws.FnExactLatticeIndex", spec := "fnExactLatticeIndex", apart := false, narrowed := true }
def FnExactLatticeIndexUptoSaid : Prop := fnExactLatticeIndexUptoRow.holds Try.pinned (OpenSpec.upto fnExactLatticeIndexSpec)

/-- 'laws.FnExactInLattice', WHERE WHAT IT READS IS OF BULK AT MOST 1048576: true; the input reads as it did. -/
def fnExactInLatticeUptoRow : OpenClaim := { program := "ytnnckojpmnpgbaa", sum := "19c48581d3f8fc370912b1314913783bf47d56d49b5743947dec384f7b6a5541", func := "loop.example/g02075/laws.FnExactInLattice", spec := "fnExactInLattice", apart := false, narrowed := true }
def FnExactInLatticeUptoSaid : Prop := fnExactInLatticeUptoRow.holds Try.pinned (OpenSpec.upto fnExactInLatticeSpec)

/-- 'laws.FnExactHermiteForm', WHERE WHAT IT READS IS OF BULK AT MOST 1048576: true; the input reads as it did. -/
def fnExactHermiteFormUptoRow : OpenClaim := { program := "ytnnckojpmnpgbaa", sum := "19c48581d3f8fc370912b1314913783bf47d56d49b5743947dec384f7b6a5541", func := "loop.example/g02075/laws.FnExactHermiteForm", spec := "fnExactHermiteForm", apart := false, narrowed := true }
def FnExactHermiteFormUptoSaid : Prop := fnExactHermiteFormUptoRow.holds Try.pinned (OpenSpec.upto fnExactHermiteFormSpec)

end Rows
end Go.Proofs.Ytnnckojpmnpgbaa
