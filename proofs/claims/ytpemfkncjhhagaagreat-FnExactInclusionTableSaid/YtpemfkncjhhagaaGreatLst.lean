/- IsListed of the reference and of the program. -/
import Derived.Test.YtpemfkncjhhagaaGreatGrA
import Derived.Test.YtpemfkncjhhagaaGreatGrS
namespace Go.Proofs.YtpemfkncjhhagaaGreat
set_option maxRecDepth 20000
set_option linter.unusedVariables false
set_option linter.unusedSimpArgs false
open Go.RowKit

def inG (ds : List GrD) (d : GrD) : Bool := decide (d ∈ ds)
theorem inG_false {ds : List GrD} {d : GrD} (h : ∀ j (hj : j < ds.length), ds[j] ≠ d) : inG ds d = false := by
  unfold inG
  rw [decide_eq_false_iff_not]
  intro hm
  obtain ⟨j, hj, e⟩ := List.getElem_of_mem hm
  exact h j hj e
theorem inG_true {ds : List GrD} {d : GrD} (j : Nat) (hj : j < ds.length) (h : ds[j] = d) : inG ds d = true := by
  unfold inG
  rw [decide_eq_true_eq, ← h]
  exact List.getElem_mem hj
end Go.Proofs.YtpemfkncjhhagaaGreat
