/- The cyclic core, of the reference and of the program. -/
import Derived.Test.YtfadnkjlilhneaaGreatCycP
import Derived.Test.YtfadnkjlilhneaaGreatCpy
import Derived.Test.YtfadnkjlilhneaaGreatProd
import Derived.Test.YtfadnkjlilhneaaGreatParts
import Derived.Deep.RegionHeld3
import Derived.Outline
namespace Go.Proofs.YtfadnkjlilhneaaGreat
set_option maxRecDepth 20000
set_option linter.unusedVariables false
set_option linter.unusedSimpArgs false
open Go.RowKit

theorem one_rd {w : World} {u : Value} {xs : List Int} (h : RdI w u xs) : RdII (w.alloc (.cells #[u] 26)) (.slice (some ⟨w.heap.size, 0, none⟩) 1 1) [xs] :=
 (PartsL.lit w [u] [xs] rfl (fun i h1 h2 => by
  match i, h1, h2 with
  | 0, _, _ => exact h) (by simp) (Nat.le_refl _)).rd
set_option maxHeartbeats 400000 in
theorem implReduceLetters_any (v : Value) (xs : List Int) (w : World) (h : RdI w v xs) (hl : xs.length ≤ 536870912) :
  Calls Tryz.prog 143 #[v] w fun e w' => ∃ r, e = .returned r ∧ OwI w' w.heap.size r (redL [] xs) ∧ Below w.heap.size w w' := by
 have H := Lib.hid h
 obtain ⟨A, cap, rfl, _⟩ := h.arg
 clear h
 go_enter Tryz.func143, Tryz.ntmps143
 go_wp2_with (go_at_call 37; refine (product_any _ [xs] _ (one_rd H.out) (by simp [lenLL]; omega) (by simp)).mono ?_; rintro e w1 ⟨r1, rfl, o1, b1⟩; have O1 := Lib.hid o1; have B1 := Lib.hid b1; clear o1 b1)
 go_ret
 exact ⟨_, rfl, by have := O1.out.mono (base' := w.heap.size) (by simp); simpa [redLL] using this, (by repeat (first | exact Below.refl _ _ | (refine Below.setCell ?_ (by first | omega | (simp <;> omega)) _) | (refine bel_drewN ?_ _) | (refine Below.drew ?_) | (refine Below.alloc ?_ (by first | omega | (simp <;> omega)) _) | (refine Below.trans ?_ (Below.mono (Hid.out B1) (by first | omega | (simp <;> omega))))))⟩
end Go.Proofs.YtfadnkjlilhneaaGreat
