/- Comparing numbers and letters (shared by the texts on words and on graphs). -/
import Derived.Test.YtgoghkboklehnaaNum
namespace Go.Proofs.Ytgoghkboklehnaa
set_option maxRecDepth 20000
set_option linter.unusedVariables false
set_option linter.unusedSimpArgs false
open Go.RowKit

def cmpI (a b : Int) : Int := if a < b then -1 else if b < a then 1 else 0
def cmpL (a b : Int) : Int :=
  if a = b then 0 else if a = -9223372036854775808 then 1 else if b = -9223372036854775808 then -1
  else if cmpI (max a (-a)) (max b (-b)) ≠ 0 then cmpI (max a (-a)) (max b (-b)) else cmpI b a
def rk (x : Int) : Int := if x < 0 then wrap64 (wrap64 (-2 * x) - 1) else wrap64 (wrap64 (2 * x) - 2)
theorem rk_small {x : Int} (h1 : -3 ≤ x) (h2 : x ≤ 3) : rk x = if x < 0 then -2 * x - 1 else 2 * x - 2 := by
  unfold rk
  split
  · rw [IntWalk.wrap64_in (-2 * x) ⟨by omega, by omega⟩]
    exact IntWalk.wrap64_in _ ⟨by omega, by omega⟩
  · rw [IntWalk.wrap64_in (2 * x) ⟨by omega, by omega⟩]
    exact IntWalk.wrap64_in _ ⟨by omega, by omega⟩
theorem rk_cmp {a b : Int} (h1 : -3 ≤ a) (h2 : a ≤ 3) (h3 : a ≠ 0) (h4 : -3 ≤ b) (h5 : b ≤ 3) (h6 : b ≠ 0) : rk b ≤ rk a ↔ 0 ≤ cmpL a b := by
  rw [rk_small h1 h2, rk_small h4 h5]
  unfold cmpL cmpI
  repeat' split
  all_goals omega

end Go.Proofs.Ytgoghkboklehnaa
