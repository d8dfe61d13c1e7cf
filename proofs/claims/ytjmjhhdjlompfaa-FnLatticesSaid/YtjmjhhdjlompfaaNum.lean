/- Small functions over ints: ranges, letters, ranks. -/
import Derived.Test.YtjmjhhdjlompfaaBase
namespace Go.Proofs.Ytjmjhhdjlompfaa
set_option maxRecDepth 20000
set_option linter.unusedVariables false
set_option linter.unusedSimpArgs false
open Go.RowKit

def inB (x a b : Int) : Bool := decide (a ≤ x) && decide (x ≤ b)
theorem inB_iff {x a b : Int} : inB x a b = true ↔ a ≤ x ∧ x ≤ b := by simp [inB]
theorem inB_not {x a b : Int} : inB x a b = false ↔ ¬ (a ≤ x ∧ x ≤ b) := by rw [← inB_iff]; simp
/-- isLetter(rank, x), rank of any size. -/
def letB (r x : Int) : Bool := (x != 0) && inB x (wrap64 (-r)) r
theorem neg64 {r : Int} (h : inB r 1 3 = true) : wrap64 (-r) = -r := by
  have := inB_iff.1 h
  exact IntWalk.wrap64_in _ ⟨by omega, by omega⟩
theorem letB_iff {r x : Int} (h : inB r 1 3 = true) : letB r x = true ↔ x ≠ 0 ∧ -r ≤ x ∧ x ≤ r := by
  unfold letB
  rw [neg64 h]
  simp [inB_iff]
def abs64 (x : Int) : Int := if x < 0 then wrap64 (-x) else x
theorem I64.neg {x : Int} (h : I64 x) (h0 : x ≠ -9223372036854775808) : wrap64 (-x) = -x := by
  unfold I64 at h
  exact IntWalk.wrap64_in _ ⟨by omega, by omega⟩

set_option maxHeartbeats 400000 in
theorem l1In_any (x a b : Int) (w : World) :
    Calls Try.prog 39 #[.int .i64 x, .int .i64 a, .int .i64 b] w fun e w' => e = .returned (.bool (inB x a b)) ∧ w = w' := by
  go_enter Try.func39, Try.ntmps39
  go_wp2
  all_goals go_ret
  all_goals (refine ⟨?_, rfl⟩; unfold inB; simp_all)
  omega

set_option maxHeartbeats 400000 in
theorem within_any (x a b : Int) (w : World) :
    Calls Try.prog 34 #[.int .i64 x, .int .i64 a, .int .i64 b] w fun e w' => e = .returned (.bool (inB x a b)) ∧ w = w' := by
  go_enter Try.func34, Try.ntmps34
  go_wp2
  all_goals go_ret
  all_goals (refine ⟨?_, rfl⟩; unfold inB; simp_all)
  omega


set_option maxHeartbeats 400000 in
theorem l21Abs_any (x : Int) (w : World) :
    Calls Try.prog 22 #[.int .i64 x] w fun e w' => e = .returned (.int .i64 (abs64 x)) ∧ w = w' := by
  go_enter Try.func22, Try.ntmps22
  go_wp2
  all_goals go_ret
  all_goals (refine ⟨?_, rfl⟩; unfold abs64; simp_all)
  omega



def invB (a b : Int) : Bool := (a != 0) && (a != -9223372036854775808) && (b == -a)
end Go.Proofs.Ytjmjhhdjlompfaa
