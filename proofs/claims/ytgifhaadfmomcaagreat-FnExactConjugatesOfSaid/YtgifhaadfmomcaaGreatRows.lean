/-
  No cell of these rows narrows 'for every input' (looked for: loops, veiled, ifaces, maps, wideKeys, modest, calm, conditions, laid).
  DERIVED. THE GIVEN ROWS OF THIS SEAT. 3 by the template 'for every input the law returns true; each argument reads behind the call as it read before'; 0 by the template 'total and deterministic' (their statements: YtgifhaadfmomcaaGreatTotals.lean).
  GIVEN WITH THE SEED: the statements are not yours to turn. If you find one false, say at which input.
  Laid BY PROGRAM, IN A SANDBOX (cutbox-rows.mjs): the forced cells as the released guide's own fill.sh prints them over the translation 3de990b0077027aa… (all of the seat's roots in one cut). By AI agents, Wed Nov 11 2026. No macro, syntax, notation, axiom, sorry.
-/
import Derived.Test.YtgifhaadfmomcaaGreatChecked
import GoSem.Claim
import GoSem.ClaimJoined
import GoSem.ClaimMapViews
import Derived.JoinedTies
import Derived.KernelRfl
namespace Go.Proofs.YtgifhaadfmomcaaGreat
/- THE CELL 'sum', in the pinned program and in every row, IS THE sha256 OF THE DUMP (.gsa) THAT YtgifhaadfmomcaaGreatProg.lean LOADS. Nothing in Lean hashes anything: it is a label: what it is worth is what the hold of that sum in a sandbox is worth. -/
noncomputable def Tryz.pinned : Pinned := { name := "ytgifhaadfmomcaagreat", sum := "3de990b0077027aa1ce0191f6e285dd18e44a10342f7d941a121c7ad1bdefa7c", checked := Tryz.checked }
namespace Rows
def none {H : Type} : Left H := { results := [], args := [] }

/-- 'laws.FnExactQuotientsOf': WHATEVER THE INPUT: true; the input reads as it did. -/
def fnExactQuotientsOfSpec : ChangeSpec := { name := "fnExactQuotientsOf", fn := fun _ => fun
  | [d] => { results := [.lit (.bool true)], args := [d] }
  | _ => none }
def fnExactQuotientsOfRow : OpenClaim := { program := "ytgifhaadfmomcaagreat", sum := "3de990b0077027aa1ce0191f6e285dd18e44a10342f7d941a121c7ad1bdefa7c", func := "loop.example/g02075/laws.FnExactQuotientsOf", spec := "fnExactQuotientsOf", unfollowed := true, recurses := true, apart := false }
def FnExactQuotientsOfSaid : Prop := fnExactQuotientsOfRow.holds Tryz.pinned (OpenSpec.ofChange fnExactQuotientsOfSpec)

/-- ITS FALSE NEIGHBOUR: 'it returns false'. Refute it at one input. -/
def fnExactQuotientsOfWrong : ChangeSpec := { name := "fnExactQuotientsOf", fn := fun _ => fun
  | [d] => { results := [.lit (.bool false)], args := [d] }
  | _ => none }
def FnExactQuotientsOfWrongFalsely : Prop := fnExactQuotientsOfRow.holds Tryz.pinned (OpenSpec.ofChange fnExactQuotientsOfWrong)

/-- 'laws.FnExactOvergroupsOf': WHATEVER THE INPUT: true; the input reads as it did. -/
def fnExactOvergroupsOfSpec : ChangeSpec := { name := "fnExactOvergroupsOf", fn := fun _ => fun
  | [d] => { results := [.lit (.bool true)], args := [d] }
  | _ => none }
def fnExactOvergroupsOfRow : OpenClaim := { program := "ytgifhaadfmomcaagreat", sum := "3de990b0077027aa1ce0191f6e285dd18e44a10342f7d941a121c7ad1bdefa7c", func := "loop.example/g02075/laws.FnExactOvergroupsOf", spec := "fnExactOvergroupsOf", unfollowed := true, recurses := true, apart := false }
def FnExactOvergroupsOfSaid : Prop := fnExactOvergroupsOfRow.holds Tryz.pinned (OpenSpec.ofChange fnExactOvergroupsOfSpec)

/-- ITS FALSE NEIGHBOUR: 'it returns false'. Refute it at one input. -/
def fnExactOvergroupsOfWrong : ChangeSpec := { name := "fnExactOvergroupsOf", fn := fun _ => fun
  | [d] => { results := [.lit (.bool false)], args := [d] }
  | _ => none }
def FnExactOvergroupsOfWrongFalsely : Prop := fnExactOvergroupsOfRow.holds Tryz.pinned (OpenSpec.ofChange fnExactOvergroupsOfWrong)

/-- 'laws.FnExactConjugatesOf': WHATEVER THE INPUT: true; the input reads as it did. -/
def fnExactConjugatesOfSpec : ChangeSpec := { name := "fnExactConjugatesOf", fn := fun _ => fun
  | [d] => { results := [.lit (.bool true)], args := [d] }
  | _ => none }
def fnExactConjugatesOfRow : OpenClaim := { program := "ytgifhaadfmomcaagreat", sum := "3de990b0077027aa1ce0191f6e285dd18e44a10342f7d941a121c7ad1bdefa7c", func := "loop.example/g02075/laws.FnExactConjugatesOf", spec := "fnExactConjugatesOf", unfollowed := true, recurses := true, apart := false }
def FnExactConjugatesOfSaid : Prop := fnExactConjugatesOfRow.holds Tryz.pinned (OpenSpec.ofChange fnExactConjugatesOfSpec)

/-- ITS FALSE NEIGHBOUR: 'it returns false'. Refute it at one input. -/
def fnExactConjugatesOfWrong : ChangeSpec := { name := "fnExactConjugatesOf", fn := fun _ => fun
  | [d] => { results := [.lit (.bool false)], args := [d] }
  | _ => none }
def FnExactConjugatesOfWrongFalsely : Prop := fnExactConjugatesOfRow.holds Tryz.pinned (OpenSpec.ofChange fnExactConjugatesOfWrong)

/- THE SECOND FORM. 'bulk': how many values and letters a reading holds, each counted each time it is reached (what is shared counts as often as it is met; a slice's spare places count too). A statement '..UptoSaid' is the law's where the arguments, and the package variables that the reading takes, are together of bulk at most 1048576: NARROWER than '..Said'. Prove '..Said' where nothing that the law and all that it calls make is longer than what came in: it says more and counts as full. Else prove '..UptoSaid'. A law counts once. -/
mutual
def uptoBulk {H : Type} : DataW H → Nat
  | .lit (.string bytes) => bytes.length + 1
  | .lit _ => 1
  | .nil => 1
  | .ptr d => uptoBulk d + 1
  | .slice elems spare => uptoBulkAll elems + uptoBulkAll spare + 1
  | .agg parts => uptoBulkAll parts + 1
  | .iface _ d => uptoBulk d + 1
  | .map entries => uptoBulkEntries entries + 1
  | .held _ => 1
def uptoBulkAll {H : Type} : List (DataW H) → Nat
  | [] => 0
  | d :: r => uptoBulk d + uptoBulkAll r
def uptoBulkEntries {H : Type} : List (Lit × DataW H) → Nat
  | [] => 0
  | x :: r => uptoBulkEntry x + uptoBulkEntries r
def uptoBulkEntry {H : Type} : Lit × DataW H → Nat
  | (.string bytes, d) => bytes.length + uptoBulk d + 1
  | (_, d) => uptoBulk d + 1
 end
def uptoSmall : (H : Type) → List (DataW H) → Bool := fun _ ds => decide (uptoBulkAll ds ≤ 1048576)
def OpenSpec.upto (s : _root_.Go.ChangeSpec) : _root_.Go.OpenSpec := { _root_.Go.OpenSpec.ofChange s with cond := some uptoSmall }

/-- 'laws.FnExactQuotientsOf', WHERE WHAT IT READS IS OF BULK AT MOST 1048576: true; the input reads as it did. -/
def fnExactQuotientsOfUptoRow : OpenClaim := { program := "ytgifhaadfmomcaagreat", sum := "3de990b0077027aa1ce0191f6e285dd18e44a10342f7d941a121c7ad1bdefa7c", func := "loop.example/g02075/laws.FnExactQuotientsOf", spec := "fnExactQuotientsOf", unfollowed := true, recurses := true, apart := false, narrowed := true }
def FnExactQuotientsOfUptoSaid : Prop := fnExactQuotientsOfUptoRow.holds Tryz.pinned (OpenSpec.upto fnExactQuotientsOfSpec)

/-- 'laws.FnExactOvergroupsOf', WHERE WHAT IT READS IS OF BULK AT MOST 1048576: true; the input reads as it did. -/
def fnExactOvergroupsOfUptoRow : OpenClaim := { program := "ytgifhaadfmomcaagreat", sum := "3de990b0077027aa1ce0191f6e285dd18e44a10342f7d941a121c7ad1bdefa7c", func := "loop.example/g02075/laws.FnExactOvergroupsOf", spec := "fnExactOvergroupsOf", unfollowed := true, recurses := true, apart := false, narrowed := true }
def FnExactOvergroupsOfUptoSaid : Prop := fnExactOvergroupsOfUptoRow.holds Tryz.pinned (OpenSpec.upto fnExactOvergroupsOfSpec)

/-- 'laws.FnExactConjugatesOf', WHERE WHAT IT READS IS OF BULK AT MOST 1048576: true; the input reads as it did. -/
def fnExactConjugatesOfUptoRow : OpenClaim := { program := "ytgifhaadfmomcaagreat", sum := "3de990b0077027aa1ce0191f6e285dd18e44a10342f7d941a121c7ad1bdefa7c", func := "loop.example/g02075/laws.FnExactConjugatesOf", spec := "fnExactConjugatesOf", unfollowed := true, recurses := true, apart := false, narrowed := true }
def FnExactConjugatesOfUptoSaid : Prop := fnExactConjugatesOfUptoRow.holds Tryz.pinned (OpenSpec.upto fnExactConjugatesOfSpec)

end Rows
end Go.Proofs.YtgifhaadfmomcaaGreat
