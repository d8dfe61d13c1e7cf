/-
  No cell of these rows narrows 'for every input' (looked for: loops, veiled, ifaces, maps, wideKeys, modest, calm, conditions, laid).
  DERIVED. THE GIVEN ROWS OF THIS SEAT. 4 by the template 'for every input the law returns true; each argument reads behind the call as it read before'; 0 by the template 'total and deterministic' (their statements: YtnjpoljbagfdnaaGreatTotals.lean).
  GIVEN WITH THE SEED: the statements are not yours to turn. If you find one false, say at which input.
  Laid BY PROGRAM, IN A SANDBOX (cutbox-rows.mjs): the forced cells as the released guide's own fill.sh prints them over the translation 6010d1bce95b6419… (all of the seat's roots in one cut). By AI agents, Wed Nov 11 2026. No macro, syntax, notation, axiom, sorry.
-/
import Derived.Test.YtnjpoljbagfdnaaGreatChecked
import GoSem.Claim
import GoSem.ClaimJoined
import GoSem.ClaimMapViews
import Derived.JoinedTies
import Derived.KernelRfl
namespace Go.Proofs.YtnjpoljbagfdnaaGreat
/- THE CELL 'sum', in the pinned program and in every row, IS THE sha256 OF THE DUMP (.gsa) THAT YtnjpoljbagfdnaaGreatProg.lean LOADS. Nothing in Lean hashes anything: it is a label: what it is worth is what the hold of that sum in a sandbox is worth. -/
noncomputable def Tryz.pinned : Pinned := { name := "ytnjpoljbagfdnaagreat", sum := "6010d1bce95b6419c1f9b8be2de60199de5fed3e4747a6b4097cfce79999cda6", checked := Tryz.checked }
namespace Rows
def none {H : Type} : Left H := { results := [], args := [] }

/-- 'laws.FnCommensurable': WHATEVER THE INPUT: true; the input reads as it did. -/
def fnCommensurableSpec : ChangeSpec := { name := "fnCommensurable", fn := fun _ => fun
  | [d] => { results := [.lit (.bool true)], args := [d] }
  | _ => none }
def fnCommensurableRow : OpenClaim := { program := "ytnjpoljbagfdnaagreat", sum := "6010d1bce95b6419c1f9b8be2de60199de5fed3e4747a6b4097cfce79999cda6", func := "loop.example/g02075/laws.FnCommensurable", spec := "fnCommensurable", unfollowed := true, recurses := true, plainKeys := false, apart := false }
def FnCommensurableSaid : Prop := fnCommensurableRow.holds Tryz.pinned (OpenSpec.ofChange fnCommensurableSpec)

/-- ITS FALSE NEIGHBOUR: 'it returns false'. Refute it at one input. -/
def fnCommensurableWrong : ChangeSpec := { name := "fnCommensurable", fn := fun _ => fun
  | [d] => { results := [.lit (.bool false)], args := [d] }
  | _ => none }
def FnCommensurableWrongFalsely : Prop := fnCommensurableRow.holds Tryz.pinned (OpenSpec.ofChange fnCommensurableWrong)

/-- 'laws.FnMalnormal': WHATEVER THE INPUT: true; the input reads as it did. -/
def fnMalnormalSpec : ChangeSpec := { name := "fnMalnormal", fn := fun _ => fun
  | [d] => { results := [.lit (.bool true)], args := [d] }
  | _ => none }
def fnMalnormalRow : OpenClaim := { program := "ytnjpoljbagfdnaagreat", sum := "6010d1bce95b6419c1f9b8be2de60199de5fed3e4747a6b4097cfce79999cda6", func := "loop.example/g02075/laws.FnMalnormal", spec := "fnMalnormal", unfollowed := true, recurses := true, plainKeys := false, apart := false }
def FnMalnormalSaid : Prop := fnMalnormalRow.holds Tryz.pinned (OpenSpec.ofChange fnMalnormalSpec)

/-- ITS FALSE NEIGHBOUR: 'it returns false'. Refute it at one input. -/
def fnMalnormalWrong : ChangeSpec := { name := "fnMalnormal", fn := fun _ => fun
  | [d] => { results := [.lit (.bool false)], args := [d] }
  | _ => none }
def FnMalnormalWrongFalsely : Prop := fnMalnormalRow.holds Tryz.pinned (OpenSpec.ofChange fnMalnormalWrong)

/-- 'laws.FnOvergroups': WHATEVER THE INPUT: true; the input reads as it did. -/
def fnOvergroupsSpec : ChangeSpec := { name := "fnOvergroups", fn := fun _ => fun
  | [d] => { results := [.lit (.bool true)], args := [d] }
  | _ => none }
def fnOvergroupsRow : OpenClaim := { program := "ytnjpoljbagfdnaagreat", sum := "6010d1bce95b6419c1f9b8be2de60199de5fed3e4747a6b4097cfce79999cda6", func := "loop.example/g02075/laws.FnOvergroups", spec := "fnOvergroups", unfollowed := true, recurses := true, plainKeys := false, apart := false }
def FnOvergroupsSaid : Prop := fnOvergroupsRow.holds Tryz.pinned (OpenSpec.ofChange fnOvergroupsSpec)

/-- ITS FALSE NEIGHBOUR: 'it returns false'. Refute it at one input. -/
def fnOvergroupsWrong : ChangeSpec := { name := "fnOvergroups", fn := fun _ => fun
  | [d] => { results := [.lit (.bool false)], args := [d] }
  | _ => none }
def FnOvergroupsWrongFalsely : Prop := fnOvergroupsRow.holds Tryz.pinned (OpenSpec.ofChange fnOvergroupsWrong)

/-- 'laws.FnAbelian': WHATEVER THE INPUT: true; the input reads as it did. -/
def fnAbelianSpec : ChangeSpec := { name := "fnAbelian", fn := fun _ => fun
  | [d] => { results := [.lit (.bool true)], args := [d] }
  | _ => none }
def fnAbelianRow : OpenClaim := { program := "ytnjpoljbagfdnaagreat", sum := "6010d1bce95b6419c1f9b8be2de60199de5fed3e4747a6b4097cfce79999cda6", func := "loop.example/g02075/laws.FnAbelian", spec := "fnAbelian", unfollowed := true, recurses := true, plainKeys := false, apart := false }
def FnAbelianSaid : Prop := fnAbelianRow.holds Tryz.pinned (OpenSpec.ofChange fnAbelianSpec)

/-- ITS FALSE NEIGHBOUR: 'it returns false'. Refute it at one input. -/
def fnAbelianWrong : ChangeSpec := { name := "fnAbelian", fn := fun _ => fun
  | [d] => { results := [.lit (.bool false)], args := [d] }
  | _ => none }
def FnAbelianWrongFalsely : Prop := fnAbelianRow.holds Tryz.pinned (OpenSpec.ofChange fnAbelianWrong)

/- THE SECOND FORM. 'bulk': how many values and letters a reading holds, each counted each time it is reached (what is shared counts as often as it is met; a slice's spare places count too). A statement '..UptoSaid' is the law's where the arguments, and the package variables that the reading takes, are together of bulk at most 1048576: NARROWER than '..Said'. Prove '..Said' where nothing that the law and all that it calls make is longer than what came in: it says more and counts as full. Else prove '..UptoSaid'. A law counts once. -/
mutual
def uptoBulk {H : Type} : DataW H → Nat
  | .lit (.string bytes) => bytes.length + 1
  | .lit _ => 1
  | .nil => 1
  | .ptr d => uptoBulk d + 1
  | .slice elems spare => uptoBulkAll elems + uptoBulkAll spare + 1
  | .agg parts => uptoBulkAll parts + 1
  | .iface _ d => uptoBulk d + 1
  | .map entries => uptoBulkEntries entries + 1
  | .held _ => 1
def uptoBulkAll {H : Type} : List (DataW H) → Nat
  | [] => 0
  | d :: r => uptoBulk d + uptoBulkAll r
def uptoBulkEntries {H : Type} : List (Lit × DataW H) → Nat
  | [] => 0
  | x :: r => uptoBulkEntry x + uptoBulkEntries r
def uptoBulkEntry {H : Type} : Lit × DataW H → Nat
  | (.string bytes, d) => bytes.length + uptoBulk d + 1
  | (_, d) => uptoBulk d + 1
 end
def uptoSmall : (H : Type) → List (DataW H) → Bool := fun _ ds => decide (uptoBulkAll ds ≤ 1048576)
def OpenSpec.upto (s : _root_.Go.ChangeSpec) : _root_.Go.OpenSpec := { _root_.Go.OpenSpec.ofChange s with cond := some uptoSmall }

/-- 'laws.FnCommensurable', WHERE WHAT IT READS IS OF BULK AT MOST 1048576: true; the input reads as it did. -/
def fnCommensurableUptoRow : OpenClaim := { program := "ytnjpoljbagfdnaagreat", sum := "6010d1bce95b6419c1f9b8be2de60199de5fed3e4747a6b4097cfce79999cda6", func := "loop.example/g02075/laws.FnCommensurable", spec := "fnCommensurable", unfollowed := true, recurses := true, plainKeys := false, apart := false, narrowed := true }
def FnCommensurableUptoSaid : Prop := fnCommensurableUptoRow.holds Tryz.pinned (OpenSpec.upto fnCommensurableSpec)

/-- 'laws.FnMalnormal', WHERE WHAT IT READS IS OF BULK AT MOST 1048576: true; the input reads as it did. -/
def fnMalnormalUptoRow : OpenClaim := { program := "ytnjpoljbagfdnaagreat", sum := "6010d1bce95b6419c1f9b8be2de60199de5fed3e4747a6b4097cfce79999cda6", func := "loop.example/g02075/laws.FnMalnormal", spec := "fnMalnormal", unfollowed := true, recurses := true, plainKeys := false, apart := false, narrowed := true }
def FnMalnormalUptoSaid : Prop := fnMalnormalUptoRow.holds Tryz.pinned (OpenSpec.upto fnMalnormalSpec)

/-- 'laws.FnOvergroups', WHERE WHAT IT READS IS OF BULK AT MOST 1048576: true; the input reads as it did. -/
def fnOvergroupsUptoRow : OpenClaim := { program := "ytnjpoljbagfdnaagreat", sum := "6010d1bce95b6419c1f9b8be2de60199de5fed3e4747a6b4097cfce79999cda6", func := "loop.example/g02075/laws.FnOvergroups", spec := "fnOvergroups", unfollowed := true, recurses := true, plainKeys := false, apart := false, narrowed := true }
def FnOvergroupsUptoSaid : Prop := fnOvergroupsUptoRow.holds Tryz.pinned (OpenSpec.upto fnOvergroupsSpec)

/-- 'laws.FnAbelian', WHERE WHAT IT READS IS OF BULK AT MOST 1048576: true; the input reads as it did. -/
def fnAbelianUptoRow : OpenClaim := { program := "ytnjpoljbagfdnaagreat", sum := "6010d1bce95b6419c1f9b8be2de60199de5fed3e4747a6b4097cfce79999cda6", func := "loop.example/g02075/laws.FnAbelian", spec := "fnAbelian", unfollowed := true, recurses := true, plainKeys := false, apart := false, narrowed := true }
def FnAbelianUptoSaid : Prop := fnAbelianUptoRow.holds Tryz.pinned (OpenSpec.upto fnAbelianSpec)

end Rows
end Go.Proofs.YtnjpoljbagfdnaaGreat
