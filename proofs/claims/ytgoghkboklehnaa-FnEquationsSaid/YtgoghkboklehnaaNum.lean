/- Small functions over ints: ranges, letters, ranks. -/
import Derived.Test.YtgoghkboklehnaaBase
namespace Go.Proofs.Ytgoghkboklehnaa
set_option maxRecDepth 20000
set_option linter.unusedVariables false
set_option linter.unusedSimpArgs false
open Go.RowKit

def inB (x a b : Int) : Bool := decide (a ≤ x) && decide (x ≤ b)
theorem inB_iff {x a b : Int} : inB x a b = true ↔ a ≤ x ∧ x ≤ b := by simp [inB]
theorem inB_not {x a b : Int} : inB x a b = false ↔ ¬ (a ≤ x ∧ x ≤ b) := by rw [← inB_iff]; simp
/-- isLetter(rank, x), rank of any size. -/
def letB (r x : Int) : Bool := (x != 0) && inB x (wrap64 (-r)) r
theorem neg64 {r : Int} (h : inB r 1 3 = true) : wrap64 (-r) = -r := by
  have := inB_iff.1 h
  exact IntWalk.wrap64_in _ ⟨by omega, by omega⟩
theorem letB_iff {r x : Int} (h : inB r 1 3 = true) : letB r x = true ↔ x ≠ 0 ∧ -r ≤ x ∧ x ≤ r := by
  unfold letB
  rw [neg64 h]
  simp [inB_iff]
def abs64 (x : Int) : Int := if x < 0 then wrap64 (-x) else x
theorem I64.neg {x : Int} (h : I64 x) (h0 : x ≠ -9223372036854775808) : wrap64 (-x) = -x := by
  unfold I64 at h
  exact IntWalk.wrap64_in _ ⟨by omega, by omega⟩

set_option maxHeartbeats 400000 in
theorem l1In_any (x a b : Int) (w : World) :
    Calls Try.prog 33 #[.int .i64 x, .int .i64 a, .int .i64 b] w fun e w' => e = .returned (.bool (inB x a b)) ∧ w = w' := by
  go_enter Try.func33, Try.ntmps33
  go_wp2
  all_goals go_ret
  all_goals (refine ⟨?_, rfl⟩; unfold inB; simp_all)
  omega

set_option maxHeartbeats 400000 in
theorem within_any (x a b : Int) (w : World) :
    Calls Try.prog 31 #[.int .i64 x, .int .i64 a, .int .i64 b] w fun e w' => e = .returned (.bool (inB x a b)) ∧ w = w' := by
  go_enter Try.func31, Try.ntmps31
  go_wp2
  all_goals go_ret
  all_goals (refine ⟨?_, rfl⟩; unfold inB; simp_all)
  omega

set_option maxHeartbeats 400000 in
theorem isLetter_any (r x : Int) (w : World) :
    Calls Try.prog 36 #[.int .i64 r, .int .i64 x] w fun e w' => e = .returned (.bool (letB r x)) ∧ w = w' := by
  go_enter Try.func36, Try.ntmps36
  go_wp2_with (go_at_call 31; refine (within_any _ _ _ _).mono ?_; rintro e w' ⟨rfl, rfl⟩)
  all_goals go_ret
  all_goals (refine ⟨?_, rfl⟩; unfold letB; simp_all)

set_option maxHeartbeats 400000 in
theorem l21Abs_any (x : Int) (w : World) :
    Calls Try.prog 37 #[.int .i64 x] w fun e w' => e = .returned (.int .i64 (abs64 x)) ∧ w = w' := by
  go_enter Try.func37, Try.ntmps37
  go_wp2
  all_goals go_ret
  all_goals (refine ⟨?_, rfl⟩; unfold abs64; simp_all)
  omega

set_option maxHeartbeats 400000 in
theorem l2Letter_any (x : Int) (w : World) :
    Calls Try.prog 51 #[.int .i64 x] w fun e w' => e = .returned (.bool (letB 3 x)) ∧ w = w' := by
  have h3 : wrap64 (-3) = -3 := IntWalk.wrap64_in _ ⟨by omega, by omega⟩
  have H3 := Lib.hid h3
  clear h3
  go_enter Try.func51, Try.ntmps51
  go_wp2_with (go_at_call 33; refine (l1In_any _ _ _ _).mono ?_; rintro e w' ⟨rfl, rfl⟩)
  all_goals go_ret
  all_goals (refine ⟨?_, rfl⟩; unfold letB; rw [H3.out]; simp_all)


def invB (a b : Int) : Bool := (a != 0) && (a != -9223372036854775808) && (b == -a)
set_option maxHeartbeats 400000 in
theorem areInverse_any (a b : Int) (w : World) (ha : I64 a) :
    Calls Try.prog 59 #[.int .i64 a, .int .i64 b] w fun e w' => e = .returned (.bool (invB a b)) ∧ w = w' := by
  by_cases h1 : a = -9223372036854775808
  · subst h1
    go_enter Try.func59, Try.ntmps59
    go_wp2
    all_goals go_ret
    all_goals (refine ⟨?_, rfl⟩; unfold invB; simp_all)
  · have hn := I64.neg ha h1
    have HN := Lib.hid hn
    have ha1 : -9223372036854775808 < a := by unfold I64 at ha; omega
    have ha2 : a ≤ 9223372036854775807 := ha.2
    clear hn ha
    go_enter Try.func59, Try.ntmps59
    go_wp2
    all_goals go_ret
    all_goals (refine ⟨?_, rfl⟩; unfold invB; simp_all)
end Go.Proofs.Ytgoghkboklehnaa
