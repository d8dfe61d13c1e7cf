/- InDerived of the reference and of the program. -/
import Derived.Test.YtnjbebicnmnnkaaExp
import Derived.Test.YtnjbebicnmnnkaaIsWord
namespace Go.Proofs.Ytnjbebicnmnnkaa
open Go.RowKit
def derB (r : Int) (xs : List Int) : Bool := wordB r xs && zeroL (expS r xs)
set_option maxHeartbeats 400000 in
theorem specInDerived_any (r : Int) (v : Value) (xs : List Int) (w : World) (h : RdI w v xs) (hl : xs.length ≤ 1073741824) :
    Calls Try.prog 36 #[.int .i64 r, v] w fun e w' => e = .returned (.bool (derB r xs)) ∧ Below w.heap.size w w' := by
  have H := Lib.hid h
  have HE := Lib.hid (expS_len r xs)
  clear h
  rcases e1 : wordB r xs with _ | _
  · have F : Hid (derB r xs = false) := Lib.hid (by unfold derB; rw [e1]; rfl)
    have hw := specIsWord_any r v xs w H.out.arg hl
    rw [e1] at hw
    have HW := Lib.hid hw
    clear hw
    go_enter Try.func36, Try.ntmps36
    go_wp2_with (go_at_call 60; refine HW.out.mono ?_; rintro e w' ⟨rfl, n, rfl⟩)
    go_ret
    exact ⟨ret_bool F.out.symm, bel_drewN (Below.refl _ _) _⟩
  · have F : Hid (derB r xs = zeroL (expS r xs)) := Lib.hid (by unfold derB; rw [e1]; rfl)
    have hw := specIsWord_any r v xs w H.out.arg hl
    rw [e1] at hw
    have HW := Lib.hid hw
    clear hw
    go_enter Try.func36, Try.ntmps36
    go_wp2_with (first
      | (go_at_call 60; refine HW.out.mono ?_; rintro e w' ⟨rfl, n, rfl⟩)
      | (go_at_call 23; refine (specExponentSums_any _ _ xs _ (H.out.drewN _) hl).mono ?_; rintro e w1 ⟨u, rfl, o1, b1⟩)
      | (go_at_call 61; refine (l27Zero_any _ _ _ o1.arg (by have := HE.out; omega)).mono ?_; rintro e w2 ⟨rfl, rfl⟩))
    go_ret
    exact ⟨ret_bool F.out.symm, (bel_drewN (Below.refl _ _) _).trans b1⟩

set_option maxHeartbeats 400000 in
theorem implInDerived_any (r : Int) (v : Value) (xs : List Int) (w : World) (h : RdI w v xs) (hl : xs.length ≤ 1073741824) :
    Calls Try.prog 37 #[.int .i64 r, v] w fun e w' => e = .returned (.bool (derB r xs)) ∧ Below w.heap.size w w' := by
  have H := Lib.hid h
  have hE := expS_len r xs
  clear h
  have hw := implIsWord_any r v xs w H.out.arg hl
  rcases e1 : wordB r xs with _ | _
  · have F : Hid (derB r xs = false) := Lib.hid (by unfold derB; rw [e1]; rfl)
    rw [e1] at hw
    have HW := Lib.hid hw
    clear hw
    go_enter Try.func37, Try.ntmps37
    go_wp2_with (go_at_call 62; refine HW.out.mono ?_; rintro e w' ⟨rfl, rfl⟩)
    go_ret
    exact ⟨ret_bool F.out.symm, Below.refl _ _⟩
  · have F : Hid (derB r xs = zeroL (expS r xs)) := Lib.hid (by unfold derB; rw [e1]; rfl)
    rw [e1] at hw
    have HW := Lib.hid hw
    clear hw
    go_enter Try.func37, Try.ntmps37
    go_wp2_with fail
    refine HW.out.mono ?_
    rintro e w' ⟨rfl, rfl⟩
    go_wp2_with fail
    refine (implExponentSums_any _ _ xs _ H.out hl).mono ?_
    rintro e w1 ⟨u, rfl, o1, b1⟩
    have O1 := Lib.hid o1
    have B1 := Lib.hid b1
    obtain ⟨A1, cap1, rfl, hcap1, hm1, _, _⟩ := OwI.form o1
    clear o1 b1
    go_wp2
    have ht := hE
    generalize expS r xs = ys at ht O1 F
    clear hE
    go_loop [15] (fun i => ∃ k : Nat, k ≤ ys.length ∧ i = .int .i64 k ∧ (∀ j (hj : j < ys.length), j < k → ys[j] = 0)) (fun i => ys.length - (intOf i).toNat)
    case atStart => exact ⟨0, Nat.zero_le _, rfl, fun j hj h => absurd h (by omega)⟩
    case round =>
      obtain ⟨k, hk, rfl, hok⟩ := hrel
      have HOK := Lib.hid hok
      clear hok
      by_cases hlt : k < ys.length
      · obtain ⟨b, off, rfl, _, hc⟩ := O1.out.rd.at (by omega)
        have hcell := hc k hlt
        have ST : Hid (ys[k] = 0 → ∀ j (hj : j < ys.length), j < k + 1 → ys[j] = 0) := fun F j hj hjk => by
          rcases Nat.lt_or_eq_of_le (Nat.le_of_lt_succ hjk) with h | rfl
          · exact HOK.out j hj h
          · exact F
        have FA : Hid (ys[k] ≠ 0 → zeroL ys = false) := fun F => zeroL_false k hlt F
        clear hc
        generalize hx : ys[k] = x at hcell ST FA
        clear hx
        rcases e1 : (x != 0) with _ | _
        · have G := Lib.hid (ST.out (by simpa using e1))
          go_wp2
          go_round
          case rel => exact ⟨k + 1, by omega, by go_num, G.out⟩
          case measure => simp [intOf]; omega
        · have G := Lib.hid (FA.out (by simpa using e1))
          go_wp2
          go_ret
          exact ⟨ret_bool (by rw [F.out, G.out]), B1.out⟩
      · obtain rfl : k = ys.length := by omega
        have G := Lib.hid (zeroL_true (fun j hj => HOK.out j hj hj))
        go_wp2
        go_ret
        exact ⟨ret_bool (by rw [F.out, G.out]), B1.out⟩
end Go.Proofs.Ytnjbebicnmnnkaa
