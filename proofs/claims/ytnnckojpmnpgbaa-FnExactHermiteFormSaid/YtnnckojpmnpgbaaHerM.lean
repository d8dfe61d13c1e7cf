/- How great the Hermite form is. -/
import Derived.Test.YtnnckojpmnpgbaaIIL
import Derived.Test.YtnnckojpmnpgbaaHerL
namespace Go.Proofs.Ytnnckojpmnpgbaa
set_option maxRecDepth 20000
set_option linter.unusedVariables false
set_option linter.unusedSimpArgs false
open Go.RowKit

theorem cnt_le (k : Nat) : ∀ l : List (List Int), (∀ d ∈ l, d.length = k) → cntL cI l = l.length * k
  | [], _ => by simp [cntL]
  | d :: l, h => by
    rw [cntL_cons, cnt_le k l fun e he => h e (by simp [he]), List.length_cons, Nat.add_mul, Nat.one_mul]
    have := h d (by simp)
    unfold cI
    omega
theorem herm_cnt (n : Int) (L : List (List Int)) : cntL cI (hermF n L).1 ≤ 1073741824 := by
  rcases e : (hermF n L).2 with _ | _
  · rw [hermF_no e]; simp [cntL]
  · have h := hermF_ech e
    have h1 := h.length
    have hn : inB n 1 3 = true := by
      rw [← rows27_eq] at e
      unfold rows27 at e
      simp only [Bool.and_eq_true] at e
      exact e.1.1.1
    have hn13 := inB_iff.1 hn
    rw [cnt_le n.toNat _ h.len]
    have : (hermF n L).1.length * n.toNat ≤ 3 * 3 := Nat.mul_le_mul (by omega) (by omega)
    omega
end Go.Proofs.Ytnnckojpmnpgbaa
