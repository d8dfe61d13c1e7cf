/- Cyclic forms and lengths, of the reference and of the program. -/
import Derived.Test.YtnmkbkpegkchpaaCore
import Derived.Test.YtnmkbkpegkchpaaRot
namespace Go.Proofs.Ytnmkbkpegkchpaa
set_option maxRecDepth 20000
set_option linter.unusedVariables false
set_option linter.unusedSimpArgs false
open Go.RowKit

theorem coreF_len2 {xs : List Int} {M : Nat} (h : xs.length ≤ M) : (coreF xs).length ≤ M := Nat.le_trans (coreF_len xs) h
set_option maxHeartbeats 400000 in
theorem specCyclicForm_any (v : Value) (xs : List Int) (w : World) (h : RdI w v xs) (hl : xs.length ≤ 536870912) :
    Calls Try.prog 38 #[v] w fun e w' => ∃ r, e = .returned r ∧ OwI w' w.heap.size r (cycF xs) ∧ Below w.heap.size w w' := by
  have H := Lib.hid h
  have hcl := coreF_len2 hl
  obtain ⟨A, cap, rfl, _⟩ := h.arg
  clear h
  go_enter Try.func38, Try.ntmps38
  go_wp2_with fail
  refine (specCyclicCore_any _ xs _ H.out hl).mono ?_
  rintro e w1 ⟨r1, s1, rfl, o1, p1, b1⟩
  have O1 := Lib.hid o1
  have B1 := Lib.hid b1
  have hs1 := b1.size
  clear o1 b1 p1
  go_wp2_with fail
  refine (specLeastRotation_any _ _ _ O1.out.rd hcl).mono ?_
  rintro e w2 ⟨r2, rfl, o2, b2⟩
  have O2 := Lib.hid o2
  have B2 := Lib.hid b2
  clear o2 b2
  go_wp2
  go_ret
  exact ⟨_, rfl, O2.out.mono hs1, B1.out.trans (B2.out.mono hs1)⟩
set_option maxHeartbeats 400000 in
theorem implCyclicForm_any (v : Value) (xs : List Int) (w : World) (h : RdI w v xs) (hl : xs.length ≤ 536870912) :
    Calls Try.prog 47 #[v] w fun e w' => ∃ r, e = .returned r ∧ OwI w' w.heap.size r (cycF xs) ∧ Below w.heap.size w w' := by
  have H := Lib.hid h
  have hcl := coreF_len2 hl
  obtain ⟨A, cap, rfl, _⟩ := h.arg
  clear h
  go_enter Try.func47, Try.ntmps47
  go_wp2_with fail
  refine (implCyclicCore_any _ xs _ H.out hl).mono ?_
  rintro e w1 ⟨r1, s1, rfl, o1, p1, b1⟩
  have O1 := Lib.hid o1
  have B1 := Lib.hid b1
  have hs1 := b1.size
  clear o1 b1 p1
  go_wp2_with fail
  refine (implLeastRotation_any _ _ _ O1.out.rd hcl).mono ?_
  rintro e w2 ⟨r2, rfl, o2, b2⟩
  have O2 := Lib.hid o2
  have B2 := Lib.hid b2
  clear o2 b2
  go_wp2
  go_ret
  exact ⟨_, rfl, O2.out.mono hs1, B1.out.trans (B2.out.mono hs1)⟩
set_option maxHeartbeats 400000 in
theorem implCyclicLength_any (v : Value) (xs : List Int) (w : World) (h : RdI w v xs) (hl : xs.length ≤ 536870912) :
    Calls Try.prog 79 #[v] w fun e w' => e = .returned (.int .i64 (coreF xs).length) ∧ Below w.heap.size w w' := by
  have H := Lib.hid h
  obtain ⟨A, cap, rfl, _⟩ := h.arg
  clear h
  go_enter Try.func79, Try.ntmps79
  go_wp2_with fail
  refine (implCyclicCore_any _ xs _ H.out hl).mono ?_
  rintro e w1 ⟨r1, s1, rfl, o1, p1, b1⟩
  have B1 := Lib.hid b1
  obtain ⟨A1, cap1, rfl, _⟩ := OwI.form o1
  clear o1 b1 p1
  go_wp2
  go_ret
  exact ⟨rfl, B1.out⟩
end Go.Proofs.Ytnmkbkpegkchpaa
