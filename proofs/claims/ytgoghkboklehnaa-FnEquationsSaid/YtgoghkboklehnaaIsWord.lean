/- IsWord of the reference and of the program. -/
import Derived.Test.YtgoghkboklehnaaNum
namespace Go.Proofs.Ytgoghkboklehnaa
set_option maxRecDepth 20000
set_option linter.unusedVariables false
set_option linter.unusedSimpArgs false
open Go.RowKit

/-- Position i of a list is a letter that is not inverse to the one before. -/
def okAt (r : Int) (xs : List Int) (i : Nat) : Bool := letB r (xs.getD i 0) && !(decide (0 < i) && invB (xs.getD (i - 1) 0) (xs.getD i 0))
def wordB (r : Int) (xs : List Int) : Bool := inB r 1 3 && decide (xs.length ≤ 24) && (List.range xs.length).all (okAt r xs)
theorem wordB_true {r : Int} {xs : List Int} (h1 : inB r 1 3 = true) (h2 : xs.length ≤ 24) (h : ∀ i, i < xs.length → okAt r xs i = true) : wordB r xs = true := by
  unfold wordB
  rw [h1]
  simp [h2]
  exact h
theorem wordB_false {r : Int} {xs : List Int} (i : Nat) (hi : i < xs.length) (h : inB r 1 3 = true → okAt r xs i = false) : wordB r xs = false := by
  unfold wordB
  rcases h1 : inB r 1 3 with _ | _
  · rfl
  · have h2 := h h1
    simp
    intro _
    exact ⟨i, hi, h2⟩
theorem wordB_rank {r : Int} {xs : List Int} (h : wordB r xs = true) : 1 ≤ r ∧ r ≤ 3 := by
  unfold wordB at h
  simp only [Bool.and_eq_true] at h
  exact inB_iff.1 h.1.1
theorem wordB_len {r : Int} {xs : List Int} (h : wordB r xs = true) : xs.length ≤ 24 := by
  unfold wordB at h
  simp only [Bool.and_eq_true, decide_eq_true_eq] at h
  exact h.1.2
theorem wordB_ok {r : Int} {xs : List Int} (h : wordB r xs = true) (i : Nat) (hi : i < xs.length) : okAt r xs i = true := by
  unfold wordB at h
  simp only [Bool.and_eq_true, List.all_eq_true, List.mem_range] at h
  exact h.2 i hi
theorem wordB_get {r : Int} {xs : List Int} (h : wordB r xs = true) (i : Nat) (hi : i < xs.length) : xs[i] ≠ 0 ∧ -r ≤ xs[i] ∧ xs[i] ≤ r := by
  have h1 := wordB_ok h i hi
  unfold okAt at h1
  simp only [Bool.and_eq_true] at h1
  have h2 := h1.1
  rw [letB_iff (inB_iff.2 (wordB_rank h))] at h2
  simpa [List.getD, hi] using h2
theorem okAt_zero {r : Int} {xs : List Int} (h : 0 < xs.length) : okAt r xs 0 = letB r xs[0] := by
  simp [okAt, List.getD, h]
theorem okAt_pos {r : Int} {xs : List Int} {k : Nat} (h0 : 0 < k) (h : k < xs.length) : okAt r xs k = (letB r xs[k] && !invB xs[k - 1] xs[k]) := by
  have : k - 1 < xs.length := by omega
  simp [okAt, List.getD, h, h0, this]
/-- The reference's test for inverse letters, where both are letters. -/
theorem invB_small {a b : Int} (ha : a ≠ 0) (h1 : -3 ≤ a) (h2 : a ≤ 3) : invB a b = (b == wrap64 (-a)) := by
  have : wrap64 (-a) = -a := IntWalk.wrap64_in _ ⟨by omega, by omega⟩
  rw [this]
  unfold invB
  rw [Bool.eq_iff_iff]
  simp
  omega

set_option maxHeartbeats 2000000 in
theorem specIsWord_any (r : Int) (v : Value) (xs : List Int) (w : World) (h : ArgI w v xs) (hl : xs.length ≤ 1073741824) :
    Calls Try.prog 53 #[.int .i64 r, v] w fun e w' => e = .returned (.bool (wordB r xs)) ∧ ∃ n, w' = w.drewN n := by
  obtain ⟨A, cap, rfl, hcap, hm, hr, hb⟩ := h
  have HR := Lib.hid hr
  have HB := Lib.hid hb
  clear hr hb
  go_enter Try.func53, Try.ntmps53
  go_wp2
  go_loopw [5] (fun i wr => ∃ k : Nat, k ≤ xs.length ∧ i = .int .i64 k ∧ (inB r 1 3 = true → ∀ j, j < k → okAt r xs j = true) ∧ ∃ n, wr = w.drewN n) (fun i _ => xs.length - (intOf i).toNat)
  case atStart => exact ⟨0, Nat.zero_le _, rfl, fun _ j hj => absurd hj (by omega), 0, rfl⟩
  case round =>
    obtain ⟨k, hk, rfl, hok, n, rfl⟩ := hrel
    have HOK := Lib.hid hok
    clear hok
    by_cases hlt : k < xs.length
    · obtain ⟨b, off, rfl, hc⟩ := HB.out (by omega)
      have hcell := hc k hlt
      by_cases h0 : 0 < k
      · have hcell2 := hc (k - 1) (by omega)
        have HZ := Lib.hid (okAt_pos (r := r) h0 hlt)
        have HP : Hid (inB r 1 3 = true → xs[k - 1] ≠ 0 ∧ -3 ≤ xs[k - 1] ∧ xs[k - 1] ≤ 3) := fun hr3 => by
          have h1 := HOK.out hr3 (k - 1) (by omega)
          unfold okAt at h1
          simp only [Bool.and_eq_true] at h1
          have h2 := h1.1
          rw [letB_iff hr3] at h2
          have h3 := inB_iff.1 hr3
          have h4 : xs.getD (k - 1) 0 = xs[k - 1] := by simp [List.getD, show k - 1 < xs.length by omega]
          rw [h4] at h2
          omega
        have hd0 : decide ((0 : Int) < (k : Int)) = true := by simp; omega
        clear hc
        generalize xs[k - 1] = y at hcell2 HZ HP
        generalize hx : xs[k] = x at hcell HZ
        clear hx
        have key : Hid (∀ (b : Bool), (letB r x && !(x == wrap64 (-y))) = b → inB r 1 3 = true → okAt r xs k = b) := fun b hb hr3 => by
          rw [HZ.out, invB_small (HP.out hr3).1 (HP.out hr3).2.1 (HP.out hr3).2.2]; exact hb
        rcases e1 : (x == 0) with _ | _
        · have e1' : (x != 0) = true := by simpa using e1
          rcases e2 : inB x (wrap64 (-r)) r with _ | _
          · have F := Lib.hid (key.out false (by unfold letB; rw [e1', e2]; rfl))
            clear e1'
            go_wp2
            go_quiet ((go_at_call 33; first | exact quiet_left (l1In_any _ _ _ _) | exact quiet_add_left (l1In_any _ _ _ _)))
            go_wp2
            go_ret
            exact ⟨ret_bool (wordB_false k hlt F.out).symm, _, World.drewN_drewN _ _ _⟩
          · rcases e3 : (x == wrap64 (-y)) with _ | _
            · have F := Lib.hid (key.out true (by unfold letB; rw [e1', e2, e3]; rfl))
              clear e1'
              go_wp2
              go_quiet ((go_at_call 33; first | exact quiet_left (l1In_any _ _ _ _) | exact quiet_add_left (l1In_any _ _ _ _)))
              go_wp2
              go_roundw
              case rel => exact ⟨k + 1, by omega, by go_num, fun hr3 j hj => by
                rcases Nat.lt_or_eq_of_le (Nat.le_of_lt_succ hj) with hj | rfl
                · exact HOK.out hr3 j hj
                · exact F.out hr3, _, rfl⟩
              case measure => simp [intOf]; omega
            · have F := Lib.hid (key.out false (by rw [e3]; simp))
              clear e1'
              go_wp2
              go_quiet ((go_at_call 33; first | exact quiet_left (l1In_any _ _ _ _) | exact quiet_add_left (l1In_any _ _ _ _)))
              go_wp2
              go_ret
              exact ⟨ret_bool (wordB_false k hlt F.out).symm, _, World.drewN_drewN _ _ _⟩
        · have e1' : (x != 0) = false := by simpa using e1
          have F := Lib.hid (key.out false (by unfold letB; rw [e1']; rfl))
          clear e1'
          go_wp2
          go_quiet (fail)
          go_wp2
          go_ret
          exact ⟨ret_bool (wordB_false k hlt F.out).symm, _, World.drewN_drewN _ _ _⟩
      · obtain rfl : k = 0 := by omega
        rw [Nat.add_zero] at hcell
        have HZ := Lib.hid (okAt_zero (r := r) hlt)
        clear hc
        generalize hx : xs[0] = x at hcell HZ
        clear hx
        rcases e1 : (x == 0) with _ | _
        · have e1' : (x != 0) = true := by simpa using e1
          rcases e2 : inB x (wrap64 (-r)) r with _ | _
          · have F : Hid (okAt r xs 0 = false) := Lib.hid (by rw [HZ.out]; unfold letB; rw [e2, Bool.and_false])
            clear e1'
            go_wp2
            go_quiet ((go_at_call 33; first | exact quiet_left (l1In_any _ _ _ _) | exact quiet_add_left (l1In_any _ _ _ _)))
            go_wp2
            go_ret
            exact ⟨ret_bool (wordB_false 0 hlt fun _ => F.out).symm, _, World.drewN_drewN _ _ _⟩
          · have F : Hid (okAt r xs 0 = true) := Lib.hid (by rw [HZ.out]; unfold letB; rw [e1', e2]; rfl)
            clear e1'
            go_wp2
            go_quiet ((go_at_call 33; first | exact quiet_left (l1In_any _ _ _ _) | exact quiet_add_left (l1In_any _ _ _ _)))
            go_wp2
            go_roundw
            case rel => exact ⟨1, by omega, by go_num, fun hr3 j hj => by
              obtain rfl : j = 0 := by omega
              exact F.out, _, rfl⟩
            case measure => simp [intOf]; omega
        · have e1' : (x != 0) = false := by simpa using e1
          have F : Hid (okAt r xs 0 = false) := Lib.hid (by rw [HZ.out]; unfold letB; rw [e1']; rfl)
          clear e1'
          go_wp2
          go_quiet (fail)
          go_wp2
          go_ret
          exact ⟨ret_bool (wordB_false 0 hlt fun _ => F.out).symm, _, World.drewN_drewN _ _ _⟩
    · obtain rfl : k = xs.length := by omega
      rcases e1 : inB r 1 3 with _ | _
      · have F : Hid (wordB r xs = false) := Lib.hid (by unfold wordB; rw [e1]; rfl)
        go_wp2_with (go_at_call 33; refine (l1In_any _ _ _ _).mono ?_; rintro e w' ⟨rfl, rfl⟩)
        go_ret
        exact ⟨ret_bool F.out.symm, n, rfl⟩
      · by_cases h24 : xs.length ≤ 24
        · have F := Lib.hid (wordB_true e1 h24 (HOK.out e1))
          go_wp2_with (go_at_call 33; refine (l1In_any _ _ _ _).mono ?_; rintro e w' ⟨rfl, rfl⟩)
          go_ret
          exact ⟨ret_bool (by rw [F.out]; simp; omega), n, rfl⟩
        · have F : Hid (wordB r xs = false) := Lib.hid (by unfold wordB; rw [decide_eq_false h24]; simp)
          go_wp2_with (go_at_call 33; refine (l1In_any _ _ _ _).mono ?_; rintro e w' ⟨rfl, rfl⟩)
          go_ret
          exact ⟨ret_bool (by rw [F.out]; simp; omega), n, rfl⟩

set_option maxHeartbeats 2000000 in
theorem implIsWord_any (r : Int) (v : Value) (xs : List Int) (w : World) (h : ArgI w v xs) (hl : xs.length ≤ 1073741824) :
    Calls Try.prog 44 #[.int .i64 r, v] w fun e w' => e = .returned (.bool (wordB r xs)) ∧ w = w' := by
  obtain ⟨A, cap, rfl, hcap, hm, hr, hb⟩ := h
  have HR := Lib.hid hr
  have HB := Lib.hid hb
  clear hr hb
  rcases e1 : inB r 1 3 with _ | _
  · have F : Hid (wordB r xs = false) := Lib.hid (by unfold wordB; rw [e1]; rfl)
    go_enter Try.func44, Try.ntmps44
    go_wp2_with (go_at_call 31; refine (within_any _ _ _ _).mono ?_; rintro e w' ⟨rfl, rfl⟩)
    go_ret
    exact ⟨ret_bool F.out.symm, rfl⟩
  · by_cases h24 : xs.length ≤ 24
    · go_enter Try.func44, Try.ntmps44
      go_wp2_with (go_at_call 31; refine (within_any _ _ _ _).mono ?_; rintro e w' ⟨rfl, rfl⟩)
      go_loop [17] (fun i => ∃ k : Nat, k ≤ xs.length ∧ i = .int .i64 k ∧ (∀ j, j < k → okAt r xs j = true)) (fun i => xs.length - (intOf i).toNat)
      case atStart => exact ⟨0, Nat.zero_le _, rfl, fun j hj => absurd hj (by omega)⟩
      case round =>
        obtain ⟨k, hk, rfl, hok⟩ := hrel
        have HOK := Lib.hid hok
        clear hok
        by_cases hlt : k < xs.length
        · obtain ⟨b, off, rfl, hc⟩ := HB.out (by omega)
          have hcell := hc k hlt
          have step : ∀ (F : okAt r xs k = true), ∀ j, j < k + 1 → okAt r xs j = true := fun F j hj => by
            rcases Nat.lt_or_eq_of_le (Nat.le_of_lt_succ hj) with hj | rfl
            · exact HOK.out j hj
            · exact F
          have ST := Lib.hid step
          clear step
          by_cases h0 : 0 < k
          · have hcell2 := hc (k - 1) (by omega)
            have HZ := Lib.hid (okAt_pos (r := r) h0 hlt)
            have HY := Lib.hid (HR.out xs[k - 1] (by simp))
            clear hc
            generalize xs[k - 1] = y at hcell2 HZ HY
            generalize hx : xs[k] = x at hcell HZ
            clear hx
            rcases e2 : letB r x with _ | _
            · have F : Hid (okAt r xs k = false) := Lib.hid (by rw [HZ.out, e2]; rfl)
              go_wp2_with (go_at_call 36; refine (isLetter_any _ _ _).mono ?_; rintro e w' ⟨rfl, rfl⟩)
              go_ret
              exact ⟨ret_bool (wordB_false k hlt fun _ => F.out).symm, rfl⟩
            · rcases e3 : invB y x with _ | _
              · have F : Hid (okAt r xs k = true) := Lib.hid (by rw [HZ.out, e2, e3]; rfl)
                go_wp2_with (first | (go_at_call 36; refine (isLetter_any _ _ _).mono ?_; rintro e w' ⟨rfl, rfl⟩) | (go_at_call 59; refine (areInverse_any _ _ _ HY.out).mono ?_; rintro e w' ⟨rfl, rfl⟩))
                go_round
                case rel => exact ⟨k + 1, by omega, by go_num, ST.out F.out⟩
                case measure => simp [intOf]; omega
              · have F : Hid (okAt r xs k = false) := Lib.hid (by rw [HZ.out, e2, e3]; rfl)
                go_wp2_with (first | (go_at_call 36; refine (isLetter_any _ _ _).mono ?_; rintro e w' ⟨rfl, rfl⟩) | (go_at_call 59; refine (areInverse_any _ _ _ HY.out).mono ?_; rintro e w' ⟨rfl, rfl⟩))
                go_ret
                exact ⟨ret_bool (wordB_false k hlt fun _ => F.out).symm, rfl⟩
          · obtain rfl : k = 0 := by omega
            rw [Nat.add_zero] at hcell
            have HZ := Lib.hid (okAt_zero (r := r) hlt)
            clear hc
            generalize hx : xs[0] = x at hcell HZ
            clear hx
            rcases e2 : letB r x with _ | _
            · have F : Hid (okAt r xs 0 = false) := Lib.hid (by rw [HZ.out, e2])
              go_wp2_with (go_at_call 36; refine (isLetter_any _ _ _).mono ?_; rintro e w' ⟨rfl, rfl⟩)
              go_ret
              exact ⟨ret_bool (wordB_false 0 hlt fun _ => F.out).symm, rfl⟩
            · have F : Hid (okAt r xs 0 = true) := Lib.hid (by rw [HZ.out, e2])
              go_wp2_with (go_at_call 36; refine (isLetter_any _ _ _).mono ?_; rintro e w' ⟨rfl, rfl⟩)
              go_round
              case rel => exact ⟨1, by omega, by go_num, ST.out F.out⟩
              case measure => simp [intOf]; omega
        · obtain rfl : k = xs.length := by omega
          have F := Lib.hid (wordB_true e1 h24 HOK.out)
          go_wp2
          go_ret
          exact ⟨ret_bool F.out.symm, rfl⟩
    · have F : Hid (wordB r xs = false) := Lib.hid (by unfold wordB; rw [decide_eq_false h24]; simp)
      go_enter Try.func44, Try.ntmps44
      go_wp2_with (go_at_call 31; refine (within_any _ _ _ _).mono ?_; rintro e w' ⟨rfl, rfl⟩)
      go_ret
      exact ⟨ret_bool F.out.symm, rfl⟩
end Go.Proofs.Ytgoghkboklehnaa
