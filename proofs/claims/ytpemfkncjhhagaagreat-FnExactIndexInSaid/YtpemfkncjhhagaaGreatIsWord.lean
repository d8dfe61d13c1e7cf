/- IsWord of the reference and of the program. -/
import Derived.Test.YtpemfkncjhhagaaGreatNum
namespace Go.Proofs.YtpemfkncjhhagaaGreat
set_option maxRecDepth 20000
set_option linter.unusedVariables false
set_option linter.unusedSimpArgs false
open Go.RowKit

/-- Position i of a list is a letter that is not inverse to the one before. -/
def okAt (r : Int) (xs : List Int) (i : Nat) : Bool := letB r (xs.getD i 0) && !(decide (0 < i) && invB (xs.getD (i - 1) 0) (xs.getD i 0))
def wordB (r : Int) (xs : List Int) : Bool := inB r 1 3 && decide (xs.length ≤ 24) && (List.range xs.length).all (okAt r xs)
theorem wordB_true {r : Int} {xs : List Int} (h1 : inB r 1 3 = true) (h2 : xs.length ≤ 24) (h : ∀ i, i < xs.length → okAt r xs i = true) : wordB r xs = true := by
  unfold wordB
  rw [h1]
  simp [h2]
  exact h
theorem wordB_false {r : Int} {xs : List Int} (i : Nat) (hi : i < xs.length) (h : inB r 1 3 = true → okAt r xs i = false) : wordB r xs = false := by
  unfold wordB
  rcases h1 : inB r 1 3 with _ | _
  · rfl
  · have h2 := h h1
    simp
    intro _
    exact ⟨i, hi, h2⟩
theorem wordB_rank {r : Int} {xs : List Int} (h : wordB r xs = true) : 1 ≤ r ∧ r ≤ 3 := by
  unfold wordB at h
  simp only [Bool.and_eq_true] at h
  exact inB_iff.1 h.1.1
theorem wordB_len {r : Int} {xs : List Int} (h : wordB r xs = true) : xs.length ≤ 24 := by
  unfold wordB at h
  simp only [Bool.and_eq_true, decide_eq_true_eq] at h
  exact h.1.2
theorem wordB_ok {r : Int} {xs : List Int} (h : wordB r xs = true) (i : Nat) (hi : i < xs.length) : okAt r xs i = true := by
  unfold wordB at h
  simp only [Bool.and_eq_true, List.all_eq_true, List.mem_range] at h
  exact h.2 i hi
theorem wordB_get {r : Int} {xs : List Int} (h : wordB r xs = true) (i : Nat) (hi : i < xs.length) : xs[i] ≠ 0 ∧ -r ≤ xs[i] ∧ xs[i] ≤ r := by
  have h1 := wordB_ok h i hi
  unfold okAt at h1
  simp only [Bool.and_eq_true] at h1
  have h2 := h1.1
  rw [letB_iff (inB_iff.2 (wordB_rank h))] at h2
  simpa [List.getD, hi] using h2
theorem okAt_zero {r : Int} {xs : List Int} (h : 0 < xs.length) : okAt r xs 0 = letB r xs[0] := by
  simp [okAt, List.getD, h]
theorem okAt_pos {r : Int} {xs : List Int} {k : Nat} (h0 : 0 < k) (h : k < xs.length) : okAt r xs k = (letB r xs[k] && !invB xs[k - 1] xs[k]) := by
  have : k - 1 < xs.length := by omega
  simp [okAt, List.getD, h, h0, this]
/-- The reference's test for inverse letters, where both are letters. -/
theorem invB_small {a b : Int} (ha : a ≠ 0) (h1 : -3 ≤ a) (h2 : a ≤ 3) : invB a b = (b == wrap64 (-a)) := by
  have : wrap64 (-a) = -a := IntWalk.wrap64_in _ ⟨by omega, by omega⟩
  rw [this]
  unfold invB
  rw [Bool.eq_iff_iff]
  simp
  omega


end Go.Proofs.YtpemfkncjhhagaaGreat
