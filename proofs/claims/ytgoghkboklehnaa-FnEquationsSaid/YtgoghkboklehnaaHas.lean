/- Is a letter in a list: the reference's loop, the library's slices.Contains. -/
import Derived.Test.YtgoghkboklehnaaBase
namespace Go.Proofs.Ytgoghkboklehnaa
set_option maxRecDepth 20000
set_option linter.unusedVariables false
set_option linter.unusedSimpArgs false
open Go.RowKit

def hasB (l : List Int) (x : Int) : Bool := l.any (· == x)
theorem hasB_no {l : List Int} {x : Int} (h : ∀ j (hj : j < l.length), l[j] ≠ x) : hasB l x = false := by
  unfold hasB
  rw [List.any_eq_false]
  intro y hy
  obtain ⟨j, hj, rfl⟩ := List.getElem_of_mem hy
  simpa using h j hj
theorem hasB_yes {l : List Int} {x : Int} (j : Nat) (hj : j < l.length) (h : l[j] = x) : hasB l x = true := by
  unfold hasB
  rw [List.any_eq_true]
  exact ⟨l[j], by simp, by simpa using h⟩
end Go.Proofs.Ytgoghkboklehnaa
