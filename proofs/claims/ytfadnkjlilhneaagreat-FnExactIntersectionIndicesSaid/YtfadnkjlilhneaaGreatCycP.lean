/- Cyclic words in plain Lean: the order of words, rotations, the cyclic core, the least rotation; the form of a form is itself. -/
import Derived.Test.YtfadnkjlilhneaaGreatWord
import Derived.Test.YtfadnkjlilhneaaGreatIsWord
import Derived.Test.YtfadnkjlilhneaaGreatCmp
namespace Go.Proofs.YtfadnkjlilhneaaGreat
set_option maxRecDepth 20000
set_option linter.unusedVariables false
set_option linter.unusedSimpArgs false
open Go.RowKit

/-! ## The order -/
theorem getD_app_l (a b : List Int) (i : Nat) (h : i < a.length) : (a ++ b).getD i 0 = a.getD i 0 := by
 simp only [List.getD]; rw [List.getElem?_append_left h]
theorem getD_app_r (a b : List Int) (i : Nat) (h : a.length ≤ i) : (a ++ b).getD i 0 = b.getD (i - a.length) 0 := by
 simp only [List.getD]; rw [List.getElem?_append_right h]
/-! ## Rotations -/
/-! ## Reduced words -/
def redP (xs : List Int) : Prop := ∀ i, i + 1 < xs.length → invB (xs.getD i 0) (xs.getD (i + 1) 0) = false
theorem redL_id {acc xs : List Int} (h : redP (acc ++ xs)) : redL acc xs = acc ++ xs := by
 unfold redL
 induction xs generalizing acc with
 | nil => simp
 | cons x xs ih =>
   have e : red1 acc x = acc ++ [x] := by
    unfold red1
    rw [if_neg]
    rintro ⟨h0, hb⟩
    have := h (acc.length - 1) (by simp; omega)
    rw [getD_app_l _ _ _ (by omega), getD_app_r _ _ _ (by omega), show acc.length - 1 + 1 - acc.length = 0 by omega] at this
    rw [last_get h0] at hb
    have e2 : acc.getD (acc.length - 1) 0 = acc[acc.length - 1] := by simp [List.getD, show acc.length - 1 < acc.length by omega]
    rw [e2] at this
    simp only [List.getD_cons_zero] at this
    rw [this] at hb
    cases hb
   rw [List.foldl_cons, e, ih (by simpa using h)]
   simp

/-! ## The cyclic core -/
end Go.Proofs.YtfadnkjlilhneaaGreat
