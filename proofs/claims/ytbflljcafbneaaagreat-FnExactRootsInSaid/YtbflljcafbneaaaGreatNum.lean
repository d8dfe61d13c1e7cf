/- Small functions over ints: ranges, letters, ranks. -/
import Derived.Test.YtbflljcafbneaaaGreatBase
namespace Go.Proofs.YtbflljcafbneaaaGreat
set_option maxRecDepth 20000
set_option linter.unusedVariables false
set_option linter.unusedSimpArgs false
open Go.RowKit

def inB (x a b : Int) : Bool := decide (a ≤ x) && decide (x ≤ b)
theorem inB_iff {x a b : Int} : inB x a b = true ↔ a ≤ x ∧ x ≤ b := by simp [inB]
theorem inB_not {x a b : Int} : inB x a b = false ↔ ¬ (a ≤ x ∧ x ≤ b) := by rw [← inB_iff]; simp
/-- isLetter(rank, x), rank of any size. -/
def letB (r x : Int) : Bool := (x != 0) && inB x (wrap64 (-r)) r
theorem neg64 {r : Int} (h : inB r 1 3 = true) : wrap64 (-r) = -r := by
  have := inB_iff.1 h
  exact IntWalk.wrap64_in _ ⟨by omega, by omega⟩
theorem letB_iff {r x : Int} (h : inB r 1 3 = true) : letB r x = true ↔ x ≠ 0 ∧ -r ≤ x ∧ x ≤ r := by
  unfold letB
  rw [neg64 h]
  simp [inB_iff]
def abs64 (x : Int) : Int := if x < 0 then wrap64 (-x) else x
theorem I64.neg {x : Int} (h : I64 x) (h0 : x ≠ -9223372036854775808) : wrap64 (-x) = -x := by
  unfold I64 at h
  exact IntWalk.wrap64_in _ ⟨by omega, by omega⟩

set_option maxHeartbeats 400000 in
theorem l1In_any (x a b : Int) (w : World) :
    Calls Tryz.prog 16 #[.int .i64 x, .int .i64 a, .int .i64 b] w fun e w' => e = .returned (.bool (inB x a b)) ∧ w = w' := by
  go_enter Tryz.func16, Tryz.ntmps16
  go_wp2
  all_goals go_ret
  all_goals (refine ⟨?_, rfl⟩; unfold inB; simp_all)
  omega

set_option maxHeartbeats 400000 in
theorem within_any (x a b : Int) (w : World) :
    Calls Tryz.prog 21 #[.int .i64 x, .int .i64 a, .int .i64 b] w fun e w' => e = .returned (.bool (inB x a b)) ∧ w = w' := by
  go_enter Tryz.func21, Tryz.ntmps21
  go_wp2
  all_goals go_ret
  all_goals (refine ⟨?_, rfl⟩; unfold inB; simp_all)
  omega

set_option maxHeartbeats 400000 in
theorem isLetter_any (r x : Int) (w : World) :
    Calls Tryz.prog 68 #[.int .i64 r, .int .i64 x] w fun e w' => e = .returned (.bool (letB r x)) ∧ w = w' := by
  go_enter Tryz.func68, Tryz.ntmps68
  go_wp2_with (go_at_call 21; refine (within_any _ _ _ _).mono ?_; rintro e w' ⟨rfl, rfl⟩)
  all_goals go_ret
  all_goals (refine ⟨?_, rfl⟩; unfold letB; simp_all)




def invB (a b : Int) : Bool := (a != 0) && (a != -9223372036854775808) && (b == -a)
set_option maxHeartbeats 400000 in
theorem areInverse_any (a b : Int) (w : World) (ha : I64 a) :
    Calls Tryz.prog 45 #[.int .i64 a, .int .i64 b] w fun e w' => e = .returned (.bool (invB a b)) ∧ w = w' := by
  by_cases h1 : a = -9223372036854775808
  · subst h1
    go_enter Tryz.func45, Tryz.ntmps45
    go_wp2
    all_goals go_ret
    all_goals (refine ⟨?_, rfl⟩; unfold invB; simp_all)
  · have hn := I64.neg ha h1
    have HN := Lib.hid hn
    have ha1 : -9223372036854775808 < a := by unfold I64 at ha; omega
    have ha2 : a ≤ 9223372036854775807 := ha.2
    clear hn ha
    go_enter Tryz.func45, Tryz.ntmps45
    go_wp2
    all_goals go_ret
    all_goals (refine ⟨?_, rfl⟩; unfold invB; simp_all)
end Go.Proofs.YtbflljcafbneaaaGreat
