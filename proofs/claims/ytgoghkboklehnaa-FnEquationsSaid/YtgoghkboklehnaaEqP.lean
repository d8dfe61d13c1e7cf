/- The solution of an equation in which the unknown stands once; the reading of an equation: plain Lean. -/
import Derived.Test.YtgoghkboklehnaaEqn
import Derived.Test.YtgoghkboklehnaaWord
import Derived.Test.YtgoghkboklehnaaFmt
namespace Go.Proofs.Ytgoghkboklehnaa
set_option maxRecDepth 20000
set_option linter.unusedVariables false
set_option linter.unusedSimpArgs false
open Go.RowKit

def isU (x : Int) : Bool := x == 9 || x == -9
def scanU : List Int → Nat → Int → Option Int
  | [], _, a => some a
  | x :: xs, k, a => if isU x then (if 0 ≤ a then none else scanU xs (k + 1) k) else scanU xs (k + 1) a
theorem scanU_drop (e : List Int) (k : Nat) (a : Int) (h : k < e.length) : scanU (e.drop k) k a = if isU e[k] then (if 0 ≤ a then none else scanU (e.drop (k + 1)) (k + 1) k) else scanU (e.drop (k + 1)) (k + 1) a := by
  rw [List.drop_eq_getElem_cons h]
  rfl
theorem scanU_end (e : List Int) (k : Nat) (a : Int) : scanU (e.drop e.length) k a = some a := by simp [scanU]
def solW (e : List Int) (i : Nat) : List Int :=
  let x := redL [] (invL (e.take i) ++ invL (e.drop (i + 1)))
  if e.getD i 0 < 0 then invL x else x
def solveF (r : Int) (e : List Int) : List Int × Bool :=
  if eqB r e then (match scanU e 0 (-1) with | none => ([], false) | some a => if a < 0 then ([], false) else (solW e a.toNat, true)) else ([], false)
theorem invL_len2 (xs : List Int) : (invL xs).length = xs.length := by simp [invL, negL]
theorem solW_len (e : List Int) (i : Nat) : (solW e i).length ≤ e.length := by
  have h := redL_len [] (invL (e.take i) ++ invL (e.drop (i + 1)))
  simp only [List.length_nil, List.length_append, invL_len2, List.length_take, List.length_drop] at h
  unfold solW
  simp only
  split
  · rw [invL_len2]; omega
  · omega
theorem solveF_len (r : Int) (e : List Int) : (solveF r e).1.length ≤ e.length := by
  unfold solveF
  split
  · split
    · simp
    · split
      · simp
      · exact solW_len _ _
  · simp
theorem abs_isU {x : Int} (hx : I64 x) : (abs64 x == 9) = isU x := by
  unfold abs64 isU
  by_cases h0 : x = -9223372036854775808
  · subst h0; decide +kernel
  · by_cases h : x < 0
    · rw [if_pos h, I64.neg hx h0, Bool.eq_iff_iff]; simp; omega
    · rw [if_neg h, Bool.eq_iff_iff]; simp; omega
end Go.Proofs.Ytgoghkboklehnaa
