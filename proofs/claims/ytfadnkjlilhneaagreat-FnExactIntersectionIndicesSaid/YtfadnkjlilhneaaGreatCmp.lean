/- Comparing numbers and letters (shared by the texts on words and on graphs). -/
import Derived.Test.YtfadnkjlilhneaaGreatNum
namespace Go.Proofs.YtfadnkjlilhneaaGreat
set_option maxRecDepth 20000
set_option linter.unusedVariables false
set_option linter.unusedSimpArgs false
open Go.RowKit

def cmpI (a b : Int) : Int := if a < b then -1 else if b < a then 1 else 0
def rk (x : Int) : Int := if x < 0 then wrap64 (wrap64 (-2 * x) - 1) else wrap64 (wrap64 (2 * x) - 2)
set_option maxHeartbeats 400000 in
theorem compareInts_any (a b : Int) (w : World) :
  Calls Tryz.prog 135 #[.int .i64 a, .int .i64 b] w fun e w' => e = .returned (.int .i64 (cmpI a b)) ∧ w = w' := by
 rcases Int.lt_trichotomy a b with h | h | h
 ·go_enter Tryz.func135, Tryz.ntmps135
  go_wp2
  go_ret
  exact ⟨ret_int (by unfold cmpI; rw [if_pos h]), rfl⟩
 ·subst h
  go_enter Tryz.func135, Tryz.ntmps135
  go_wp2
  go_ret
  exact ⟨ret_int (by unfold cmpI; simp), rfl⟩
 ·have h' : ¬ a < b := by omega
  go_enter Tryz.func135, Tryz.ntmps135
  go_wp2
  go_ret
  exact ⟨ret_int (by unfold cmpI; rw [if_neg (by omega), if_pos h]), rfl⟩
end Go.Proofs.YtfadnkjlilhneaaGreat
