/- Small functions over ints: ranges, letters, ranks. -/
import Derived.Test.YtfadnkjlilhneaaGreatBase
namespace Go.Proofs.YtfadnkjlilhneaaGreat
set_option maxRecDepth 20000
set_option linter.unusedVariables false
set_option linter.unusedSimpArgs false
open Go.RowKit

def inB (x a b : Int) : Bool := decide (a ≤ x) && decide (x ≤ b)
theorem inB_iff {x a b : Int} : inB x a b = true ↔ a ≤ x ∧ x ≤ b := by simp [inB]
theorem I64.neg {x : Int} (h : I64 x) (h0 : x ≠ -9223372036854775808) : wrap64 (-x) = -x := by
 unfold I64 at h
 exact IntWalk.wrap64_in _ ⟨by omega, by omega⟩

set_option maxHeartbeats 400000 in
theorem l1In_any (x a b : Int) (w : World) :
  Calls Tryz.prog 57 #[.int .i64 x, .int .i64 a, .int .i64 b] w fun e w' => e = .returned (.bool (inB x a b)) ∧ w = w' := by
 go_enter Tryz.func57, Tryz.ntmps57
 go_wp2
 all_goals go_ret
 all_goals (refine ⟨?_, rfl⟩; unfold inB; simp_all)
 omega

set_option maxHeartbeats 400000 in
theorem within_any (x a b : Int) (w : World) :
  Calls Tryz.prog 106 #[.int .i64 x, .int .i64 a, .int .i64 b] w fun e w' => e = .returned (.bool (inB x a b)) ∧ w = w' := by
 go_enter Tryz.func106, Tryz.ntmps106
 go_wp2
 all_goals go_ret
 all_goals (refine ⟨?_, rfl⟩; unfold inB; simp_all)
 omega

def invB (a b : Int) : Bool := (a != 0) && (a != -9223372036854775808) && (b == -a)
set_option maxHeartbeats 400000 in
theorem areInverse_any (a b : Int) (w : World) (ha : I64 a) :
  Calls Tryz.prog 72 #[.int .i64 a, .int .i64 b] w fun e w' => e = .returned (.bool (invB a b)) ∧ w = w' := by
 by_cases h1 : a = -9223372036854775808
 ·subst h1
  go_enter Tryz.func72, Tryz.ntmps72
  go_wp2
  all_goals go_ret
  all_goals (refine ⟨?_, rfl⟩; unfold invB; simp_all)
 ·have hn := I64.neg ha h1
  have HN := Lib.hid hn
  have ha1 : -9223372036854775808 < a := by unfold I64 at ha; omega
  have ha2 : a ≤ 9223372036854775807 := ha.2
  clear hn ha
  go_enter Tryz.func72, Tryz.ntmps72
  go_wp2
  all_goals go_ret
  all_goals (refine ⟨?_, rfl⟩; unfold invB; simp_all)
end Go.Proofs.YtfadnkjlilhneaaGreat
