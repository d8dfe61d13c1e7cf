/-
  No cell of these rows narrows 'for every input' (looked for: loops, veiled, ifaces, maps, wideKeys, modest, calm, conditions, laid).
  DERIVED. THE GIVEN ROWS OF THIS SEAT. 5 by the template 'for every input the law returns true; each argument reads behind the call as it read before'; 0 by the template 'total and deterministic' (their statements: YtpemfkncjhhagaaGreatTotals.lean).
  GIVEN WITH THE SEED: the statements are not yours to turn. If you find one false, say at which input.
  Laid BY PROGRAM, IN A SANDBOX (cutbox-rows.mjs): the forced cells as the released guide's own fill.sh prints them over the translation 5a65497d81a7d558… (all of the seat's roots in one cut). By AI agents, Wed Nov 11 2026. No macro, syntax, notation, axiom, sorry.
-/
import Derived.Test.YtpemfkncjhhagaaGreatChecked
import GoSem.Claim
import GoSem.ClaimJoined
import GoSem.ClaimMapViews
import Derived.JoinedTies
import Derived.KernelRfl
namespace Go.Proofs.YtpemfkncjhhagaaGreat
/- THE CELL 'sum', in the pinned program and in every row, IS THE sha256 OF THE DUMP (.gsa) THAT YtpemfkncjhhagaaGreatProg.lean LOADS. Nothing in Lean hashes anything: it is a label: what it is worth is what the hold of that sum in a sandbox is worth. -/
noncomputable def Tryz.pinned : Pinned := { name := "ytpemfkncjhhagaagreat", sum := "5a65497d81a7d558b0338a4553e9aecee8cfefa594e67f45d440aac7b780d047", checked := Tryz.checked }
namespace Rows
def none {H : Type} : Left H := { results := [], args := [] }

/-- 'laws.FnExactInclusionTable': WHATEVER THE INPUT: true; the input reads as it did. -/
def fnExactInclusionTableSpec : ChangeSpec := { name := "fnExactInclusionTable", fn := fun _ => fun
  | [d] => { results := [.lit (.bool true)], args := [d] }
  | _ => none }
def fnExactInclusionTableRow : OpenClaim := { program := "ytpemfkncjhhagaagreat", sum := "5a65497d81a7d558b0338a4553e9aecee8cfefa594e67f45d440aac7b780d047", func := "loop.example/g02075/laws.FnExactInclusionTable", spec := "fnExactInclusionTable", unfollowed := true, recurses := true, apart := false }
def FnExactInclusionTableSaid : Prop := fnExactInclusionTableRow.holds Tryz.pinned (OpenSpec.ofChange fnExactInclusionTableSpec)

/-- ITS FALSE NEIGHBOUR: 'it returns false'. Refute it at one input. -/
def fnExactInclusionTableWrong : ChangeSpec := { name := "fnExactInclusionTable", fn := fun _ => fun
  | [d] => { results := [.lit (.bool false)], args := [d] }
  | _ => none }
def FnExactInclusionTableWrongFalsely : Prop := fnExactInclusionTableRow.holds Tryz.pinned (OpenSpec.ofChange fnExactInclusionTableWrong)

/-- 'laws.FnExactMaximalOnes': WHATEVER THE INPUT: true; the input reads as it did. -/
def fnExactMaximalOnesSpec : ChangeSpec := { name := "fnExactMaximalOnes", fn := fun _ => fun
  | [d] => { results := [.lit (.bool true)], args := [d] }
  | _ => none }
def fnExactMaximalOnesRow : OpenClaim := { program := "ytpemfkncjhhagaagreat", sum := "5a65497d81a7d558b0338a4553e9aecee8cfefa594e67f45d440aac7b780d047", func := "loop.example/g02075/laws.FnExactMaximalOnes", spec := "fnExactMaximalOnes", unfollowed := true, recurses := true, apart := false }
def FnExactMaximalOnesSaid : Prop := fnExactMaximalOnesRow.holds Tryz.pinned (OpenSpec.ofChange fnExactMaximalOnesSpec)

/-- ITS FALSE NEIGHBOUR: 'it returns false'. Refute it at one input. -/
def fnExactMaximalOnesWrong : ChangeSpec := { name := "fnExactMaximalOnes", fn := fun _ => fun
  | [d] => { results := [.lit (.bool false)], args := [d] }
  | _ => none }
def FnExactMaximalOnesWrongFalsely : Prop := fnExactMaximalOnesRow.holds Tryz.pinned (OpenSpec.ofChange fnExactMaximalOnesWrong)

/-- 'laws.FnExactLatticeOf': WHATEVER THE INPUT: true; the input reads as it did. -/
def fnExactLatticeOfSpec : ChangeSpec := { name := "fnExactLatticeOf", fn := fun _ => fun
  | [d] => { results := [.lit (.bool true)], args := [d] }
  | _ => none }
def fnExactLatticeOfRow : OpenClaim := { program := "ytpemfkncjhhagaagreat", sum := "5a65497d81a7d558b0338a4553e9aecee8cfefa594e67f45d440aac7b780d047", func := "loop.example/g02075/laws.FnExactLatticeOf", spec := "fnExactLatticeOf", unfollowed := true, recurses := true, apart := false }
def FnExactLatticeOfSaid : Prop := fnExactLatticeOfRow.holds Tryz.pinned (OpenSpec.ofChange fnExactLatticeOfSpec)

/-- ITS FALSE NEIGHBOUR: 'it returns false'. Refute it at one input. -/
def fnExactLatticeOfWrong : ChangeSpec := { name := "fnExactLatticeOf", fn := fun _ => fun
  | [d] => { results := [.lit (.bool false)], args := [d] }
  | _ => none }
def FnExactLatticeOfWrongFalsely : Prop := fnExactLatticeOfRow.holds Tryz.pinned (OpenSpec.ofChange fnExactLatticeOfWrong)

/-- 'laws.FnExactAbelianIndex': WHATEVER THE INPUT: true; the input reads as it did. -/
def fnExactAbelianIndexSpec : ChangeSpec := { name := "fnExactAbelianIndex", fn := fun _ => fun
  | [d] => { results := [.lit (.bool true)], args := [d] }
  | _ => none }
def fnExactAbelianIndexRow : OpenClaim := { program := "ytpemfkncjhhagaagreat", sum := "5a65497d81a7d558b0338a4553e9aecee8cfefa594e67f45d440aac7b780d047", func := "loop.example/g02075/laws.FnExactAbelianIndex", spec := "fnExactAbelianIndex", unfollowed := true, recurses := true, apart := false }
def FnExactAbelianIndexSaid : Prop := fnExactAbelianIndexRow.holds Tryz.pinned (OpenSpec.ofChange fnExactAbelianIndexSpec)

/-- ITS FALSE NEIGHBOUR: 'it returns false'. Refute it at one input. -/
def fnExactAbelianIndexWrong : ChangeSpec := { name := "fnExactAbelianIndex", fn := fun _ => fun
  | [d] => { results := [.lit (.bool false)], args := [d] }
  | _ => none }
def FnExactAbelianIndexWrongFalsely : Prop := fnExactAbelianIndexRow.holds Tryz.pinned (OpenSpec.ofChange fnExactAbelianIndexWrong)

/-- 'laws.FnExactIndexIn': WHATEVER THE INPUT: true; the input reads as it did. -/
def fnExactIndexInSpec : ChangeSpec := { name := "fnExactIndexIn", fn := fun _ => fun
  | [d1, d2] => { results := [.lit (.bool true)], args := [d1, d2] }
  | _ => none }
def fnExactIndexInRow : OpenClaim := { program := "ytpemfkncjhhagaagreat", sum := "5a65497d81a7d558b0338a4553e9aecee8cfefa594e67f45d440aac7b780d047", func := "loop.example/g02075/laws.FnExactIndexIn", spec := "fnExactIndexIn", unfollowed := true, recurses := true, apart := false }
def FnExactIndexInSaid : Prop := fnExactIndexInRow.holds Tryz.pinned (OpenSpec.ofChange fnExactIndexInSpec)

/-- ITS FALSE NEIGHBOUR: 'it returns false'. Refute it at one input. -/
def fnExactIndexInWrong : ChangeSpec := { name := "fnExactIndexIn", fn := fun _ => fun
  | [d1, d2] => { results := [.lit (.bool false)], args := [d1, d2] }
  | _ => none }
def FnExactIndexInWrongFalsely : Prop := fnExactIndexInRow.holds Tryz.pinned (OpenSpec.ofChange fnExactIndexInWrong)

/- THE SECOND FORM. 'bulk': how many values and letters a reading holds, each counted each time it is reached (what is shared counts as often as it is met; a slice's spare places count too). A statement '..UptoSaid' is the law's where the arguments, and the package variables that the reading takes, are together of bulk at most 1048576: NARROWER than '..Said'. Prove '..Said' where nothing that the law and all that it calls make is longer than what came in: it says more and counts as full. Else prove '..UptoSaid'. A law counts once. -/
mutual
def uptoBulk {H : Type} : DataW H → Nat
  | .lit (.string bytes) => bytes.length + 1
  | .lit _ => 1
  | .nil => 1
  | .ptr d => uptoBulk d + 1
  | .slice elems spare => uptoBulkAll elems + uptoBulkAll spare + 1
  | .agg parts => uptoBulkAll parts + 1
  | .iface _ d => uptoBulk d + 1
  | .map entries => uptoBulkEntries entries + 1
  | .held _ => 1
def uptoBulkAll {H : Type} : List (DataW H) → Nat
  | [] => 0
  | d :: r => uptoBulk d + uptoBulkAll r
def uptoBulkEntries {H : Type} : List (Lit × DataW H) → Nat
  | [] => 0
  | x :: r => uptoBulkEntry x + uptoBulkEntries r
def uptoBulkEntry {H : Type} : Lit × DataW H → Nat
  | (.string bytes, d) => bytes.length + uptoBulk d + 1
  | (_, d) => uptoBulk d + 1
 end
def uptoSmall : (H : Type) → List (DataW H) → Bool := fun _ ds => decide (uptoBulkAll ds ≤ 1048576)
def OpenSpec.upto (s : _root_.Go.ChangeSpec) : _root_.Go.OpenSpec := { _root_.Go.OpenSpec.ofChange s with cond := some uptoSmall }

/-- 'laws.FnExactInclusionTable', WHERE WHAT IT READS IS OF BULK AT MOST 1048576: true; the input reads as it did. -/
def fnExactInclusionTableUptoRow : OpenClaim := { program := "ytpemfkncjhhagaagreat", sum := "5a65497d81a7d558b0338a4553e9aecee8cfefa594e67f45d440aac7b780d047", func := "loop.example/g02075/laws.FnExactInclusionTable", spec := "fnExactInclusionTable", unfollowed := true, recurses := true, apart := false, narrowed := true }
def FnExactInclusionTableUptoSaid : Prop := fnExactInclusionTableUptoRow.holds Tryz.pinned (OpenSpec.upto fnExactInclusionTableSpec)

/-- 'laws.FnExactMaximalOnes', WHERE WHAT IT READS IS OF BULK AT MOST 1048576: true; the input reads as it did. -/
def fnExactMaximalOnesUptoRow : OpenClaim := { program := "ytpemfkncjhhagaagreat", sum := "5a65497d81a7d558b0338a4553e9aecee8cfefa594e67f45d440aac7b780d047", func := "loop.example/g02075/laws.FnExactMaximalOnes", spec := "fnExactMaximalOnes", unfollowed := true, recurses := true, apart := false, narrowed := true }
def FnExactMaximalOnesUptoSaid : Prop := fnExactMaximalOnesUptoRow.holds Tryz.pinned (OpenSpec.upto fnExactMaximalOnesSpec)

/-- 'laws.FnExactLatticeOf', WHERE WHAT IT READS IS OF BULK AT MOST 1048576: true; the input reads as it did. -/
def fnExactLatticeOfUptoRow : OpenClaim := { program := "ytpemfkncjhhagaagreat", sum := "5a65497d81a7d558b0338a4553e9aecee8cfefa594e67f45d440aac7b780d047", func := "loop.example/g02075/laws.FnExactLatticeOf", spec := "fnExactLatticeOf", unfollowed := true, recurses := true, apart := false, narrowed := true }
def FnExactLatticeOfUptoSaid : Prop := fnExactLatticeOfUptoRow.holds Tryz.pinned (OpenSpec.upto fnExactLatticeOfSpec)

/-- 'laws.FnExactAbelianIndex', WHERE WHAT IT READS IS OF BULK AT MOST 1048576: true; the input reads as it did. -/
def fnExactAbelianIndexUptoRow : OpenClaim := { program := "ytpemfkncjhhagaagreat", sum := "5a65497d81a7d558b0338a4553e9aecee8cfefa594e67f45d440aac7b780d047", func := "loop.example/g02075/laws.FnExactAbelianIndex", spec := "fnExactAbelianIndex", unfollowed := true, recurses := true, apart := false, narrowed := true }
def FnExactAbelianIndexUptoSaid : Prop := fnExactAbelianIndexUptoRow.holds Tryz.pinned (OpenSpec.upto fnExactAbelianIndexSpec)

/-- 'laws.FnExactIndexIn', WHERE WHAT IT READS IS OF BULK AT MOST 1048576: true; the input reads as it did. -/
def fnExactIndexInUptoRow : OpenClaim := { program := "ytpemfkncjhhagaagreat", sum := "5a65497d81a7d558b0338a4553e9aecee8cfefa594e67f45d440aac7b780d047", func := "loop.example/g02075/laws.FnExactIndexIn", spec := "fnExactIndexIn", unfollowed := true, recurses := true, apart := false, narrowed := true }
def FnExactIndexInUptoSaid : Prop := fnExactIndexInUptoRow.holds Tryz.pinned (OpenSpec.upto fnExactIndexInSpec)

end Rows
end Go.Proofs.YtpemfkncjhhagaaGreat
