/- The program's copyInts (a text of its own, for seats without Whitehead). -/
import Derived.Test.YtjmjhhdjlompfaaBase
namespace Go.Proofs.Ytjmjhhdjlompfaa
set_option maxRecDepth 20000
set_option linter.unusedVariables false
set_option linter.unusedSimpArgs false
open Go.RowKit

set_option maxHeartbeats 400000 in
theorem copyInts_any (v : Value) (xs : List Int) (w : World) (h : RdI w v xs) (hl : xs.length ≤ 1073741824) :
    Calls Try.prog 26 #[v] w fun e w' => ∃ r, e = .returned r ∧ OwI w' w.heap.size r xs ∧ Below w.heap.size w w' := by
  have H := Lib.hid h
  obtain ⟨A, cap, rfl, _⟩ := h.arg
  clear h
  go_enter Try.func26, Try.ntmps26
  go_wp2_with (at_builtin; refine append_ints rfl (.tmp 3) (.tmp 4) rfl w.heap.size _ [] (OwI_lit _ [] I64s_nil (by simp) (Nat.le_refl _)) rfl _ _ (H.out.alloc _) rfl (by simp; omega) (by simp) ?_; intro v1 w1 o1 g1 p1)
  go_ret
  exact ⟨_, rfl, by simpa using o1, ((Below.refl _ _).alloc (Nat.le_refl _) _).grown g1 (by simp) (fun k hk => by simp [Value.ownBlock] at hk; omega)⟩
end Go.Proofs.Ytjmjhhdjlompfaa
