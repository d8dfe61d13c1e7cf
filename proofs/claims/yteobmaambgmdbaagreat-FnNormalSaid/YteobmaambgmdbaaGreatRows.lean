/-
  No cell of these rows narrows 'for every input' (looked for: loops, veiled, ifaces, maps, wideKeys, modest, calm, conditions, laid).
  DERIVED. THE GIVEN ROWS OF THIS SEAT. 3 by the template 'for every input the law returns true; each argument reads behind the call as it read before'; 0 by the template 'total and deterministic' (their statements: YteobmaambgmdbaaGreatTotals.lean).
  GIVEN WITH THE SEED: the statements are not yours to turn. If you find one false, say at which input.
  Laid BY PROGRAM, IN A SANDBOX (cutbox-rows.mjs): the forced cells as the released guide's own fill.sh prints them over the translation b7b1983dbf8c1c34… (all of the seat's roots in one cut). By AI agents, Wed Nov 11 2026. No macro, syntax, notation, axiom, sorry.
-/
import Derived.Test.YteobmaambgmdbaaGreatChecked
import GoSem.Claim
import GoSem.ClaimJoined
import GoSem.ClaimMapViews
import Derived.JoinedTies
import Derived.KernelRfl
namespace Go.Proofs.YteobmaambgmdbaaGreat
/- THE CELL 'sum', in the pinned program and in every row, IS THE sha256 OF THE DUMP (.gsa) THAT YteobmaambgmdbaaGreatProg.lean LOADS. Nothing in Lean hashes anything: it is a label: what it is worth is what the hold of that sum in a sandbox is worth. -/
noncomputable def Tryz.pinned : Pinned := { name := "yteobmaambgmdbaagreat", sum := "b7b1983dbf8c1c34c48f9b45bb4836cce74664ef04f8dcb3a72589e42caf7837", checked := Tryz.checked }
namespace Rows
def none {H : Type} : Left H := { results := [], args := [] }

/-- 'laws.FnPowers': WHATEVER THE INPUT: true; the input reads as it did. -/
def fnPowersSpec : ChangeSpec := { name := "fnPowers", fn := fun _ => fun
  | [d] => { results := [.lit (.bool true)], args := [d] }
  | _ => none }
def fnPowersRow : OpenClaim := { program := "yteobmaambgmdbaagreat", sum := "b7b1983dbf8c1c34c48f9b45bb4836cce74664ef04f8dcb3a72589e42caf7837", func := "loop.example/g02075/laws.FnPowers", spec := "fnPowers", unfollowed := true, recurses := true, apart := false }
def FnPowersSaid : Prop := fnPowersRow.holds Tryz.pinned (OpenSpec.ofChange fnPowersSpec)

/-- ITS FALSE NEIGHBOUR: 'it returns false'. Refute it at one input. -/
def fnPowersWrong : ChangeSpec := { name := "fnPowers", fn := fun _ => fun
  | [d] => { results := [.lit (.bool false)], args := [d] }
  | _ => none }
def FnPowersWrongFalsely : Prop := fnPowersRow.holds Tryz.pinned (OpenSpec.ofChange fnPowersWrong)

/-- 'laws.FnIndices': WHATEVER THE INPUT: true; the input reads as it did. -/
def fnIndicesSpec : ChangeSpec := { name := "fnIndices", fn := fun _ => fun
  | [d] => { results := [.lit (.bool true)], args := [d] }
  | _ => none }
def fnIndicesRow : OpenClaim := { program := "yteobmaambgmdbaagreat", sum := "b7b1983dbf8c1c34c48f9b45bb4836cce74664ef04f8dcb3a72589e42caf7837", func := "loop.example/g02075/laws.FnIndices", spec := "fnIndices", unfollowed := true, recurses := true, apart := false }
def FnIndicesSaid : Prop := fnIndicesRow.holds Tryz.pinned (OpenSpec.ofChange fnIndicesSpec)

/-- ITS FALSE NEIGHBOUR: 'it returns false'. Refute it at one input. -/
def fnIndicesWrong : ChangeSpec := { name := "fnIndices", fn := fun _ => fun
  | [d] => { results := [.lit (.bool false)], args := [d] }
  | _ => none }
def FnIndicesWrongFalsely : Prop := fnIndicesRow.holds Tryz.pinned (OpenSpec.ofChange fnIndicesWrong)

/-- 'laws.FnNormal': WHATEVER THE INPUT: true; the input reads as it did. -/
def fnNormalSpec : ChangeSpec := { name := "fnNormal", fn := fun _ => fun
  | [d] => { results := [.lit (.bool true)], args := [d] }
  | _ => none }
def fnNormalRow : OpenClaim := { program := "yteobmaambgmdbaagreat", sum := "b7b1983dbf8c1c34c48f9b45bb4836cce74664ef04f8dcb3a72589e42caf7837", func := "loop.example/g02075/laws.FnNormal", spec := "fnNormal", unfollowed := true, recurses := true, apart := false }
def FnNormalSaid : Prop := fnNormalRow.holds Tryz.pinned (OpenSpec.ofChange fnNormalSpec)

/-- ITS FALSE NEIGHBOUR: 'it returns false'. Refute it at one input. -/
def fnNormalWrong : ChangeSpec := { name := "fnNormal", fn := fun _ => fun
  | [d] => { results := [.lit (.bool false)], args := [d] }
  | _ => none }
def FnNormalWrongFalsely : Prop := fnNormalRow.holds Tryz.pinned (OpenSpec.ofChange fnNormalWrong)

/- THE SECOND FORM. 'bulk': how many values and letters a reading holds, each counted each time it is reached (what is shared counts as often as it is met; a slice's spare places count too). A statement '..UptoSaid' is the law's where the arguments, and the package variables that the reading takes, are together of bulk at most 1048576: NARROWER than '..Said'. Prove '..Said' where nothing that the law and all that it calls make is longer than what came in: it says more and counts as full. Else prove '..UptoSaid'. A law counts once. -/
mutual
def uptoBulk {H : Type} : DataW H → Nat
  | .lit (.string bytes) => bytes.length + 1
  | .lit _ => 1
  | .nil => 1
  | .ptr d => uptoBulk d + 1
  | .slice elems spare => uptoBulkAll elems + uptoBulkAll spare + 1
  | .agg parts => uptoBulkAll parts + 1
  | .iface _ d => uptoBulk d + 1
  | .map entries => uptoBulkEntries entries + 1
  | .held _ => 1
def uptoBulkAll {H : Type} : List (DataW H) → Nat
  | [] => 0
  | d :: r => uptoBulk d + uptoBulkAll r
def uptoBulkEntries {H : Type} : List (Lit × DataW H) → Nat
  | [] => 0
  | x :: r => uptoBulkEntry x + uptoBulkEntries r
def uptoBulkEntry {H : Type} : Lit × DataW H → Nat
  | (.string bytes, d) => bytes.length + uptoBulk d + 1
  | (_, d) => uptoBulk d + 1
 end
def uptoSmall : (H : Type) → List (DataW H) → Bool := fun _ ds => decide (uptoBulkAll ds ≤ 1048576)
def OpenSpec.upto (s : _root_.Go.ChangeSpec) : _root_.Go.OpenSpec := { _root_.Go.OpenSpec.ofChange s with cond := some uptoSmall }

/-- 'laws.FnPowers', WHERE WHAT IT READS IS OF BULK AT MOST 1048576: true; the input reads as it did. -/
def fnPowersUptoRow : OpenClaim := { program := "yteobmaambgmdbaagreat", sum := "b7b1983dbf8c1c34c48f9b45bb4836cce74664ef04f8dcb3a72589e42caf7837", func := "loop.example/g02075/laws.FnPowers", spec := "fnPowers", unfollowed := true, recurses := true, apart := false, narrowed := true }
def FnPowersUptoSaid : Prop := fnPowersUptoRow.holds Tryz.pinned (OpenSpec.upto fnPowersSpec)

/-- 'laws.FnIndices', WHERE WHAT IT READS IS OF BULK AT MOST 1048576: true; the input reads as it did. -/
def fnIndicesUptoRow : OpenClaim := { program := "yteobmaambgmdbaagreat", sum := "b7b1983dbf8c1c34c48f9b45bb4836cce74664ef04f8dcb3a72589e42caf7837", func := "loop.example/g02075/laws.FnIndices", spec := "fnIndices", unfollowed := true, recurses := true, apart := false, narrowed := true }
def FnIndicesUptoSaid : Prop := fnIndicesUptoRow.holds Tryz.pinned (OpenSpec.upto fnIndicesSpec)

/-- 'laws.FnNormal', WHERE WHAT IT READS IS OF BULK AT MOST 1048576: true; the input reads as it did. -/
def fnNormalUptoRow : OpenClaim := { program := "yteobmaambgmdbaagreat", sum := "b7b1983dbf8c1c34c48f9b45bb4836cce74664ef04f8dcb3a72589e42caf7837", func := "loop.example/g02075/laws.FnNormal", spec := "fnNormal", unfollowed := true, recurses := true, apart := false, narrowed := true }
def FnNormalUptoSaid : Prop := fnNormalUptoRow.holds Tryz.pinned (OpenSpec.upto fnNormalSpec)

end Rows
end Go.Proofs.YteobmaambgmdbaaGreat
