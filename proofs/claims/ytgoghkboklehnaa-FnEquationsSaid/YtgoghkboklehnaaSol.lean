/- IsSolution of the reference and of the program. -/
import Derived.Test.YtgoghkboklehnaaSubst
import Derived.Test.YtgoghkboklehnaaEqn
import Derived.Test.YtgoghkboklehnaaIsWord
namespace Go.Proofs.Ytgoghkboklehnaa
set_option maxRecDepth 20000
set_option linter.unusedVariables false
set_option linter.unusedSimpArgs false
open Go.RowKit

def solB (r : Int) (es xs : List Int) : Bool := eqB r es && wordB r xs && decide ((substF es xs).length = 0)
theorem substF_len (es xs : List Int) (hx : xs.length ≤ 1048576) : (substF es xs).length ≤ 104857700 := Nat.le_trans (redLL_len _) (lenLL_subL es xs hx)

set_option maxHeartbeats 1000000 in
theorem specIsSolution_any (r : Int) (u v : Value) (es xs : List Int) (w : World) (h : RdI w u es) (h' : RdI w v xs) (he : es.length ≤ 1048576) (hx : xs.length ≤ 1048576) :
    Calls Try.prog 27 #[.int .i64 r, u, v] w fun e w' => e = .returned (.bool (solB r es xs)) ∧ Below w.heap.size w w' := by
  have HE := Lib.hid h
  have HX := Lib.hid h'
  clear h h'
  have hq := specIsEquation_any r u es w HE.out.arg (by omega)
  have hw := specIsWord_any r v xs w HX.out.arg (by omega)
  rcases e1 : eqB r es with _ | _
  · rw [e1] at hq
    have HQ := Lib.hid hq
    clear hq hw
    have F : Hid (solB r es xs = false) := Lib.hid (by unfold solB; rw [e1]; rfl)
    go_enter Try.func27, Try.ntmps27
    go_wp2_with (go_at_call 10; refine HQ.out.mono ?_; rintro e w' ⟨rfl, rfl⟩)
    go_ret
    exact ⟨ret_bool F.out.symm, Below.refl _ _⟩
  · rw [e1] at hq
    have HQ := Lib.hid hq
    rcases e2 : wordB r xs with _ | _
    · rw [e2] at hw
      have HW := Lib.hid hw
      clear hq hw
      have F : Hid (solB r es xs = false) := Lib.hid (by unfold solB; rw [e2]; simp)
      go_enter Try.func27, Try.ntmps27
      go_wp2_with (first | (go_at_call 10; refine HQ.out.mono ?_; rintro e w' ⟨rfl, rfl⟩) | (go_at_call 53; refine HW.out.mono ?_; rintro e w' ⟨rfl, n, rfl⟩))
      go_ret
      exact ⟨ret_bool F.out.symm, bel_drewN (Below.refl _ _) _⟩
    · rw [e2] at hw
      have HW := Lib.hid hw
      clear hq hw
      have F : Hid (solB r es xs = decide ((substF es xs).length = 0)) := Lib.hid (by unfold solB; rw [e1, e2]; rfl)
      have hsl := substF_len es xs hx
      go_enter Try.func27, Try.ntmps27
      go_wp2_with fail
      refine HQ.out.mono ?_
      rintro e w' ⟨rfl, rfl⟩
      go_wp2_with fail
      refine HW.out.mono ?_
      rintro e w' ⟨rfl, n, rfl⟩
      go_wp2_with fail
      refine (specSubstituteIn_any _ _ es xs _ (HE.out.drewN n) (HX.out.drewN n) he hx).mono ?_
      rintro e w1 ⟨r1, rfl, o1, b1⟩
      have B1 := Lib.hid b1
      obtain ⟨A1, cap1, rfl, _⟩ := OwI.form o1
      clear o1 b1
      go_wp2
      go_ret
      exact ⟨ret_bool (by rw [F.out, Bool.eq_iff_iff]; simp), (bel_drewN (Below.refl _ _) _).trans B1.out⟩

set_option maxHeartbeats 1000000 in
theorem implIsSolution_any (r : Int) (u v : Value) (es xs : List Int) (w : World) (h : RdI w u es) (h' : RdI w v xs) (he : es.length ≤ 1048576) (hx : xs.length ≤ 1048576) :
    Calls Try.prog 19 #[.int .i64 r, u, v] w fun e w' => e = .returned (.bool (solB r es xs)) ∧ Below w.heap.size w w' := by
  have HE := Lib.hid h
  have HX := Lib.hid h'
  clear h h'
  have hq := implIsEquation_any r u es w HE.out.arg (by omega)
  have hw := implIsWord_any r v xs w HX.out.arg (by omega)
  rcases e1 : eqB r es with _ | _
  · rw [e1] at hq
    have HQ := Lib.hid hq
    clear hq hw
    have F : Hid (solB r es xs = false) := Lib.hid (by unfold solB; rw [e1]; rfl)
    go_enter Try.func19, Try.ntmps19
    go_wp2_with (go_at_call 9; refine HQ.out.mono ?_; rintro e w' ⟨rfl, rfl⟩)
    go_ret
    exact ⟨ret_bool F.out.symm, Below.refl _ _⟩
  · rw [e1] at hq
    have HQ := Lib.hid hq
    rcases e2 : wordB r xs with _ | _
    · rw [e2] at hw
      have HW := Lib.hid hw
      clear hq hw
      have F : Hid (solB r es xs = false) := Lib.hid (by unfold solB; rw [e2]; simp)
      go_enter Try.func19, Try.ntmps19
      go_wp2_with (first | (go_at_call 9; refine HQ.out.mono ?_; rintro e w' ⟨rfl, rfl⟩) | (go_at_call 44; refine HW.out.mono ?_; rintro e w' ⟨rfl, rfl⟩))
      go_ret
      exact ⟨ret_bool F.out.symm, Below.refl _ _⟩
    · rw [e2] at hw
      have HW := Lib.hid hw
      clear hq hw
      have F : Hid (solB r es xs = decide ((substF es xs).length = 0)) := Lib.hid (by unfold solB; rw [e1, e2]; rfl)
      have hsl := substF_len es xs hx
      go_enter Try.func19, Try.ntmps19
      go_wp2_with fail
      refine HQ.out.mono ?_
      rintro e w' ⟨rfl, rfl⟩
      go_wp2_with fail
      refine HW.out.mono ?_
      rintro e w' ⟨rfl, rfl⟩
      go_wp2_with fail
      refine (implSubstituteIn_any _ _ es xs _ HE.out HX.out he hx).mono ?_
      rintro e w1 ⟨r1, rfl, o1, b1⟩
      have B1 := Lib.hid b1
      obtain ⟨A1, cap1, rfl, _⟩ := OwI.form o1
      clear o1 b1
      go_wp2
      go_ret
      exact ⟨ret_bool (by rw [F.out, Bool.eq_iff_iff]; simp), B1.out⟩
end Go.Proofs.Ytgoghkboklehnaa
