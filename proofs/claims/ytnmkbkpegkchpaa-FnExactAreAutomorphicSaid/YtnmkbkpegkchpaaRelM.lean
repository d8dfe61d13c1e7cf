/- How many cells the law marks in the list of all relabellings. -/
import Derived.Test.YtnmkbkpegkchpaaRelS
import Derived.Test.YtnmkbkpegkchpaaMoL
namespace Go.Proofs.Ytnmkbkpegkchpaa
set_option maxRecDepth 20000
set_option linter.unusedVariables false
set_option linter.unusedSimpArgs false
open Go.RowKit
theorem rel_cnt (r : Int) : cntL cM (relF r) ≤ 1073741824 := by
  rcases e : inB r 1 3 with _ | _
  · have : relF r = [] := by unfold relF; rw [e]; rfl
    rw [this]; simp [cntL]
  · obtain ⟨h1, h2⟩ := inB_iff.1 e
    have : r = 1 ∨ r = 2 ∨ r = 3 := by omega
    rcases this with rfl | rfl | rfl <;> decide
end Go.Proofs.Ytnmkbkpegkchpaa
