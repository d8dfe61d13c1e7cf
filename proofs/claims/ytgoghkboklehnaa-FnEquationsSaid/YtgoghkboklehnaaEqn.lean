/- IsEquation of the reference and of the program. -/
import Derived.Test.YtgoghkboklehnaaNum
namespace Go.Proofs.Ytgoghkboklehnaa
set_option maxRecDepth 20000
set_option linter.unusedVariables false
set_option linter.unusedSimpArgs false
open Go.RowKit

def eqAt (r x : Int) : Bool := (x == 9) || (x == -9) || letB r x
def eqB (r : Int) (xs : List Int) : Bool := inB r 1 3 && decide (xs.length ≤ 12) && xs.all (eqAt r)
theorem eqB_true {r : Int} {xs : List Int} (h1 : inB r 1 3 = true) (h2 : xs.length ≤ 12) (h : ∀ j (hj : j < xs.length), eqAt r xs[j] = true) : eqB r xs = true := by
  unfold eqB
  rw [h1, decide_eq_true h2]
  simp
  intro x hx
  obtain ⟨j, hj, rfl⟩ := List.getElem_of_mem hx
  exact h j hj
theorem eqB_false {r : Int} {xs : List Int} (i : Nat) (hi : i < xs.length) (h : inB r 1 3 = true → eqAt r xs[i] = false) : eqB r xs = false := by
  unfold eqB
  rcases h1 : inB r 1 3 with _ | _
  · rfl
  · have h2 := h h1
    simp
    intro _
    exact ⟨xs[i], by simp, h2⟩
theorem eqB_rank {r : Int} {xs : List Int} (h : eqB r xs = true) : inB r 1 3 = true := by
  unfold eqB at h
  simp only [Bool.and_eq_true] at h
  exact h.1.1
theorem eqB_len {r : Int} {xs : List Int} (h : eqB r xs = true) : xs.length ≤ 12 := by
  unfold eqB at h
  simp only [Bool.and_eq_true, decide_eq_true_eq] at h
  exact h.1.2
theorem abs9 {x : Int} (hx : I64 x) : (abs64 x != 9) = (x != 9 && x != -9) := by
  unfold abs64
  have h1 := hx.1
  have h2 := hx.2
  split
  · by_cases hm : x = -9223372036854775808
    · subst hm
      have : wrap64 (- -9223372036854775808) = -9223372036854775808 := by decide +kernel
      rw [this]
      decide
    · rw [I64.neg hx hm, Bool.eq_iff_iff]
      simp
      omega
  · rw [Bool.eq_iff_iff]
    simp
    omega

set_option maxHeartbeats 1000000 in
theorem specIsEquation_any (r : Int) (v : Value) (xs : List Int) (w : World) (h : ArgI w v xs) (hl : xs.length ≤ 1073741824) :
    Calls Try.prog 10 #[.int .i64 r, v] w fun e w' => e = .returned (.bool (eqB r xs)) ∧ w = w' := by
  obtain ⟨A, cap, rfl, hcap, hm, hr, hb⟩ := h
  have HR := Lib.hid hr
  have HB := Lib.hid hb
  clear hr hb
  go_enter Try.func10, Try.ntmps10
  go_wp2
  go_loop [5] (fun i => ∃ k : Nat, k ≤ xs.length ∧ i = .int .i64 k ∧ (∀ j (hj : j < xs.length), j < k → eqAt r xs[j] = true)) (fun i => xs.length - (intOf i).toNat)
  case atStart => exact ⟨0, Nat.zero_le _, rfl, fun j hj h => absurd h (by omega)⟩
  case round =>
    obtain ⟨k, hk, rfl, hok⟩ := hrel
    have HOK := Lib.hid hok
    clear hok
    by_cases hlt : k < xs.length
    · obtain ⟨b, off, rfl, hc⟩ := HB.out (by omega)
      have hcell := hc k hlt
      have H9 := Lib.hid (abs9 (HR.out xs[k] (by simp)))
      have ST : Hid (eqAt r xs[k] = true → ∀ j (hj : j < xs.length), j < k + 1 → eqAt r xs[j] = true) := fun F j hj hjk => by
        rcases Nat.lt_or_eq_of_le (Nat.le_of_lt_succ hjk) with h | rfl
        · exact HOK.out j hj h
        · exact F
      have FA : Hid (eqAt r xs[k] = false → eqB r xs = false) := fun F => eqB_false k hlt fun _ => F
      clear hc
      generalize hx : xs[k] = x at hcell H9 ST FA
      clear hx
      rcases e1 : (abs64 x != 9) with _ | _
      · have F : Hid (eqAt r x = true) := Lib.hid (by
          have h := H9.out
          rw [e1] at h
          unfold eqAt
          rcases e2 : x == 9 with _ | _
          · rcases e3 : x == -9 with _ | _
            · simp [bne, e2, e3] at h
            · rfl
          · rfl)
        go_wp2_with (go_at_call 37; refine (l21Abs_any _ _).mono ?_; rintro e w' ⟨rfl, rfl⟩)
        go_round
        case rel => exact ⟨k + 1, by omega, by go_num, ST.out F.out⟩
        case measure => simp [intOf]; omega
      · have G : Hid (eqAt r x = letB r x) := Lib.hid (by
          have h := H9.out
          rw [e1] at h
          unfold eqAt
          simp only [bne] at h
          rcases e2 : x == 9 with _ | _
          · rcases e3 : x == -9 with _ | _
            · rfl
            · simp [e2, e3] at h
          · simp [e2] at h)
        rcases e4 : (x == 0) with _ | _
        · rcases e5 : inB x (wrap64 (-r)) r with _ | _
          · have F := Lib.hid (FA.out (by rw [G.out]; unfold letB; rw [e5, Bool.and_false]))
            go_wp2_with (first | (go_at_call 37; refine (l21Abs_any _ _).mono ?_; rintro e w' ⟨rfl, rfl⟩) | (go_at_call 33; refine (l1In_any _ _ _ _).mono ?_; rintro e w' ⟨rfl, rfl⟩))
            go_ret
            exact ⟨ret_bool F.out.symm, rfl⟩
          · have F := Lib.hid (ST.out (by rw [G.out]; unfold letB; rw [e5]; simp only [bne, e4]; rfl))
            go_wp2_with (first | (go_at_call 37; refine (l21Abs_any _ _).mono ?_; rintro e w' ⟨rfl, rfl⟩) | (go_at_call 33; refine (l1In_any _ _ _ _).mono ?_; rintro e w' ⟨rfl, rfl⟩))
            go_round
            case rel => exact ⟨k + 1, by omega, by go_num, F.out⟩
            case measure => simp [intOf]; omega
        · have F := Lib.hid (FA.out (by rw [G.out]; unfold letB; simp only [bne, e4]; rfl))
          go_wp2_with (first | (go_at_call 37; refine (l21Abs_any _ _).mono ?_; rintro e w' ⟨rfl, rfl⟩) | (go_at_call 33; refine (l1In_any _ _ _ _).mono ?_; rintro e w' ⟨rfl, rfl⟩))
          go_ret
          exact ⟨ret_bool F.out.symm, rfl⟩
    · obtain rfl : k = xs.length := by omega
      rcases e1 : inB r 1 3 with _ | _
      · have F : Hid (eqB r xs = false) := Lib.hid (by unfold eqB; rw [e1]; rfl)
        go_wp2_with (go_at_call 33; refine (l1In_any _ _ _ _).mono ?_; rintro e w' ⟨rfl, rfl⟩)
        go_ret
        exact ⟨ret_bool F.out.symm, rfl⟩
      · by_cases h24 : xs.length ≤ 12
        · have F := Lib.hid (eqB_true e1 h24 (fun j hj => HOK.out j hj hj))
          go_wp2_with (go_at_call 33; refine (l1In_any _ _ _ _).mono ?_; rintro e w' ⟨rfl, rfl⟩)
          go_ret
          exact ⟨ret_bool (by rw [F.out]; simp; omega), rfl⟩
        · have F : Hid (eqB r xs = false) := Lib.hid (by unfold eqB; rw [decide_eq_false h24]; simp)
          go_wp2_with (go_at_call 33; refine (l1In_any _ _ _ _).mono ?_; rintro e w' ⟨rfl, rfl⟩)
          go_ret
          exact ⟨ret_bool (by rw [F.out]; simp; omega), rfl⟩

set_option maxHeartbeats 1000000 in
theorem implIsEquation_any (r : Int) (v : Value) (xs : List Int) (w : World) (h : ArgI w v xs) (hl : xs.length ≤ 1073741824) :
    Calls Try.prog 9 #[.int .i64 r, v] w fun e w' => e = .returned (.bool (eqB r xs)) ∧ w = w' := by
  obtain ⟨A, cap, rfl, hcap, hm, hr, hb⟩ := h
  have HB := Lib.hid hb
  clear hr hb
  rcases e1 : inB r 1 3 with _ | _
  · have F : Hid (eqB r xs = false) := Lib.hid (by unfold eqB; rw [e1]; rfl)
    go_enter Try.func9, Try.ntmps9
    go_wp2_with (go_at_call 31; refine (within_any _ _ _ _).mono ?_; rintro e w' ⟨rfl, rfl⟩)
    go_ret
    exact ⟨ret_bool F.out.symm, rfl⟩
  · by_cases h24 : xs.length ≤ 12
    · go_enter Try.func9, Try.ntmps9
      go_wp2_with (go_at_call 31; refine (within_any _ _ _ _).mono ?_; rintro e w' ⟨rfl, rfl⟩)
      go_loop [17] (fun i => ∃ k : Nat, k ≤ xs.length ∧ i = .int .i64 k ∧ (∀ j (hj : j < xs.length), j < k → eqAt r xs[j] = true)) (fun i => xs.length - (intOf i).toNat)
      case atStart => exact ⟨0, Nat.zero_le _, rfl, fun j hj h => absurd h (by omega)⟩
      case round =>
        obtain ⟨k, hk, rfl, hok⟩ := hrel
        have HOK := Lib.hid hok
        clear hok
        by_cases hlt : k < xs.length
        · obtain ⟨b, off, rfl, hc⟩ := HB.out (by omega)
          have hcell := hc k hlt
          have ST : Hid (eqAt r xs[k] = true → ∀ j (hj : j < xs.length), j < k + 1 → eqAt r xs[j] = true) := fun F j hj hjk => by
            rcases Nat.lt_or_eq_of_le (Nat.le_of_lt_succ hjk) with h | rfl
            · exact HOK.out j hj h
            · exact F
          have FA : Hid (eqAt r xs[k] = false → eqB r xs = false) := fun F => eqB_false k hlt fun _ => F
          clear hc
          generalize hx : xs[k] = x at hcell ST FA
          clear hx
          have fin : ∀ b : Bool, b = eqAt r x → eqAt r x = b := fun _ h => h.symm
          rcases e2 : (x != 9) with _ | _
          · have F := Lib.hid (ST.out (by unfold eqAt; simp at e2; subst e2; rfl))
            go_wp2
            go_round
            case rel => exact ⟨k + 1, by omega, by go_num, F.out⟩
            case measure => simp [intOf]; omega
          · rcases e3 : (x != -9) with _ | _
            · have F := Lib.hid (ST.out (by unfold eqAt; simp at e3; subst e3; rfl))
              go_wp2
              go_round
              case rel => exact ⟨k + 1, by omega, by go_num, F.out⟩
              case measure => simp [intOf]; omega
            · have G : Hid (eqAt r x = letB r x) := Lib.hid (by unfold eqAt; simp at e2 e3; simp [e2, e3])
              rcases e4 : letB r x with _ | _
              · have F := Lib.hid (FA.out (by rw [G.out, e4]))
                go_wp2_with (go_at_call 36; refine (isLetter_any _ _ _).mono ?_; rintro e w' ⟨rfl, rfl⟩)
                go_ret
                exact ⟨ret_bool F.out.symm, rfl⟩
              · have F := Lib.hid (ST.out (by rw [G.out, e4]))
                go_wp2_with (go_at_call 36; refine (isLetter_any _ _ _).mono ?_; rintro e w' ⟨rfl, rfl⟩)
                go_round
                case rel => exact ⟨k + 1, by omega, by go_num, F.out⟩
                case measure => simp [intOf]; omega
        · obtain rfl : k = xs.length := by omega
          have F := Lib.hid (eqB_true e1 h24 (fun j hj => HOK.out j hj hj))
          go_wp2
          go_ret
          exact ⟨ret_bool F.out.symm, rfl⟩
    · have F : Hid (eqB r xs = false) := Lib.hid (by unfold eqB; rw [decide_eq_false h24]; simp)
      go_enter Try.func9, Try.ntmps9
      go_wp2_with (go_at_call 31; refine (within_any _ _ _ _).mono ?_; rintro e w' ⟨rfl, rfl⟩)
      go_ret
      exact ⟨ret_bool F.out.symm, rfl⟩
end Go.Proofs.Ytgoghkboklehnaa
