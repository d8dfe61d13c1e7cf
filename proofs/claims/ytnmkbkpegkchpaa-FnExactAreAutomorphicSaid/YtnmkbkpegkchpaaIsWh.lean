/- IsWhitehead of the reference and of the program. -/
import Derived.Test.YtnmkbkpegkchpaaWh
import Derived.Test.YtnmkbkpegkchpaaCmp
namespace Go.Proofs.Ytnmkbkpegkchpaa
set_option maxRecDepth 20000
set_option linter.unusedVariables false
set_option linter.unusedSimpArgs false
open Go.RowKit

/-! ## IsWhitehead -/
def whAt (r t : Int) (S : List Int) (i : Nat) : Bool :=
  letB r (S.getD i 0) && (S.getD i 0 != t) && (S.getD i 0 != -t) && !(decide (0 < i) && decide (0 ≤ cmpL (S.getD (i - 1) 0) (S.getD i 0)))
def whB (r : Int) (d : WhD) : Bool := inB r 1 3 && letB r d.1 && (List.range d.2.length).all (whAt r d.1 d.2)
theorem whB_true {r t : Int} {S : List Int} (h1 : inB r 1 3 = true) (h2 : letB r t = true) (h : ∀ i, i < S.length → whAt r t S i = true) : whB r (t, S) = true := by
  unfold whB
  rw [h1, h2]
  simp
  exact h
theorem whB_false {r t : Int} {S : List Int} (i : Nat) (hi : i < S.length) (h : inB r 1 3 = true → letB r t = true → whAt r t S i = false) : whB r (t, S) = false := by
  unfold whB
  rcases h1 : inB r 1 3 with _ | _
  · rfl
  · rcases h2 : letB r t with _ | _
    · rfl
    · simp
      exact ⟨i, hi, h h1 h2⟩
theorem whAt_zero {r t : Int} {S : List Int} (h : 0 < S.length) : whAt r t S 0 = (letB r S[0] && (S[0] != t) && (S[0] != -t)) := by
  simp [whAt, List.getD, h]
theorem whAt_pos {r t : Int} {S : List Int} {k : Nat} (h0 : 0 < k) (h : k < S.length) : whAt r t S k = (letB r S[k] && (S[k] != t) && (S[k] != -t) && !decide (0 ≤ cmpL S[k - 1] S[k])) := by
  have : k - 1 < S.length := by omega
  simp [whAt, List.getD, h, h0, this]
theorem whAt_let {r t : Int} {S : List Int} {k : Nat} (h : k < S.length) (hw : whAt r t S k = true) : letB r S[k] = true := by
  unfold whAt at hw
  simp only [Bool.and_eq_true] at hw
  have := hw.1.1.1
  simpa [List.getD, h] using this

set_option maxHeartbeats 4000000 in
theorem implIsWhitehead_any (r : Int) (v : Value) (d : WhD) (w : World) (h : ArgWh w v d) (hl : d.2.length ≤ 1073741824) :
    Calls Try.prog 64 #[.int .i64 r, v] w fun e w' => e = .returned (.bool (whB r d)) ∧ Below w.heap.size w w' := by
  obtain ⟨s, rfl, hd, ha⟩ := h
  obtain ⟨t, S⟩ := d
  simp only at hd ha hl
  obtain ⟨A, cap, rfl, hcap, hm, hr, hb⟩ := ha
  have HR := Lib.hid hr
  have HB := Lib.hid hb
  have HT := Lib.hid hd
  clear hr hb hd
  rcases e1 : inB r 1 3 with _ | _
  · have F : Hid (whB r (t, S) = false) := Lib.hid (by unfold whB; rw [e1]; rfl)
    go_enter Try.func64, Try.ntmps64
    go_wp2_with (go_at_call 27; refine (within_any _ _ _ _).mono ?_; rintro e w' ⟨rfl, rfl⟩)
    go_ret
    exact ⟨ret_bool F.out.symm, (by repeat (first | exact Below.refl _ _ | (refine Below.setCell ?_ (by first | omega | (simp <;> omega)) _) | (refine bel_drewN ?_ _) | (refine Below.drew ?_) | (refine Below.alloc ?_ (by first | omega | (simp <;> omega)) _)))⟩
  · rcases e2 : letB r t with _ | _
    · have F : Hid (whB r (t, S) = false) := Lib.hid (by unfold whB; rw [e1, e2]; rfl)
      go_enter Try.func64, Try.ntmps64
      go_wp2_with (first | (go_at_call 27; refine (within_any _ _ _ _).mono ?_; rintro e w' ⟨rfl, rfl⟩) | (go_at_call 61; refine (isLetter_any _ _ _).mono ?_; rintro e w' ⟨rfl, rfl⟩))
      go_ret
      exact ⟨ret_bool F.out.symm, (by repeat (first | exact Below.refl _ _ | (refine Below.setCell ?_ (by first | omega | (simp <;> omega)) _) | (refine bel_drewN ?_ _) | (refine Below.drew ?_) | (refine Below.alloc ?_ (by first | omega | (simp <;> omega)) _)))⟩
    · have ht := (letB_iff e1).1 e2
      have hr3 := inB_iff.1 e1
      have hn : wrap64 (-t) = -t := IntWalk.wrap64_in _ ⟨by omega, by omega⟩
      have HN := Lib.hid hn
      have ht1 : -3 ≤ t := by omega
      have ht2 : t ≤ 3 := by omega
      clear hn ht hr3
      go_enter Try.func64, Try.ntmps64
      go_wp2_with (first | (go_at_call 27; refine (within_any _ _ _ _).mono ?_; rintro e w' ⟨rfl, rfl⟩) | (go_at_call 61; refine (isLetter_any _ _ _).mono ?_; rintro e w' ⟨rfl, rfl⟩))
      go_loop [20] (fun i => ∃ k : Nat, k ≤ S.length ∧ i = .int .i64 k ∧ (∀ j, j < k → whAt r t S j = true)) (fun i => S.length - (intOf i).toNat)
      case atStart => exact ⟨0, Nat.zero_le _, rfl, fun j hj => absurd hj (by omega)⟩
      case round =>
        obtain ⟨k, hk, rfl, hok⟩ := hrel
        have HOK := Lib.hid hok
        clear hok
        by_cases hlt : k < S.length
        · obtain ⟨b, off, rfl, hc⟩ := HB.out (by omega)
          have hbl : b < w.heap.size := World.block_lt_of_cell? w _ (hc k hlt)
          have hcell := hc k hlt
          have ST : Hid (whAt r t S k = true → ∀ j, j < k + 1 → whAt r t S j = true) := fun F j hj => by
            rcases Nat.lt_or_eq_of_le (Nat.le_of_lt_succ hj) with hj | rfl
            · exact HOK.out j hj
            · exact F
          have FA : Hid (whAt r t S k = false → whB r (t, S) = false) := fun F => whB_false k hlt fun _ _ => F
          have HX := Lib.hid (HR.out S[k] (by simp))
          by_cases h0 : 0 < k
          · have hcell2 := hc (k - 1) (by omega)
            have HZ := Lib.hid (whAt_pos (r := r) (t := t) h0 hlt)
            have HY := Lib.hid (HR.out S[k - 1] (by simp))
            clear hc
            generalize S[k - 1] = y at hcell2 HZ HY
            generalize hx : S[k] = x at hcell HZ HX
            clear hx
            rcases e3 : letB r x with _ | _
            · have F := Lib.hid (FA.out (by rw [HZ.out, e3]; rfl))
              go_wp2_with (go_at_call 61; refine (isLetter_any _ _ _).mono ?_; rintro e w' ⟨rfl, rfl⟩)
              go_ret
              exact ⟨ret_bool F.out.symm, (by repeat (first | exact Below.refl _ _ | (refine Below.setCell ?_ (by first | omega | (simp <;> omega)) _) | (refine bel_drewN ?_ _) | (refine Below.drew ?_) | (refine Below.alloc ?_ (by first | omega | (simp <;> omega)) _)))⟩
            · rcases e4 : (x == t) with _ | _
              · rcases e5 : (x == -t) with _ | _
                · rcases e6 : decide (0 ≤ cmpL y x) with _ | _
                  · have F := Lib.hid (ST.out (by rw [HZ.out, e3, e6]; simp only [bne, e4, e5]; rfl))
                    go_wp2_with (first | (go_at_call 61; refine (isLetter_any _ _ _).mono ?_; rintro e w' ⟨rfl, rfl⟩) | (go_at_call 73; refine (compareLetters_any _ _ _ HY.out HX.out).mono ?_; rintro e w' ⟨rfl, rfl⟩))
                    go_round
                    case rel => exact ⟨k + 1, by omega, by go_num, F.out⟩
                    case measure => simp [intOf]; omega
                  · have F := Lib.hid (FA.out (by rw [HZ.out, e6]; simp))
                    go_wp2_with (first | (go_at_call 61; refine (isLetter_any _ _ _).mono ?_; rintro e w' ⟨rfl, rfl⟩) | (go_at_call 73; refine (compareLetters_any _ _ _ HY.out HX.out).mono ?_; rintro e w' ⟨rfl, rfl⟩))
                    go_ret
                    exact ⟨ret_bool F.out.symm, (by repeat (first | exact Below.refl _ _ | (refine Below.setCell ?_ (by first | omega | (simp <;> omega)) _) | (refine bel_drewN ?_ _) | (refine Below.drew ?_) | (refine Below.alloc ?_ (by first | omega | (simp <;> omega)) _)))⟩
                · have F := Lib.hid (FA.out (by rw [HZ.out]; simp only [bne, e5]; simp))
                  go_wp2_with (go_at_call 61; refine (isLetter_any _ _ _).mono ?_; rintro e w' ⟨rfl, rfl⟩)
                  go_ret
                  exact ⟨ret_bool F.out.symm, (by repeat (first | exact Below.refl _ _ | (refine Below.setCell ?_ (by first | omega | (simp <;> omega)) _) | (refine bel_drewN ?_ _) | (refine Below.drew ?_) | (refine Below.alloc ?_ (by first | omega | (simp <;> omega)) _)))⟩
              · have F := Lib.hid (FA.out (by rw [HZ.out]; simp only [bne, e4]; simp))
                go_wp2_with (go_at_call 61; refine (isLetter_any _ _ _).mono ?_; rintro e w' ⟨rfl, rfl⟩)
                go_ret
                exact ⟨ret_bool F.out.symm, (by repeat (first | exact Below.refl _ _ | (refine Below.setCell ?_ (by first | omega | (simp <;> omega)) _) | (refine bel_drewN ?_ _) | (refine Below.drew ?_) | (refine Below.alloc ?_ (by first | omega | (simp <;> omega)) _)))⟩
          · obtain rfl : k = 0 := by omega
            rw [Nat.add_zero] at hcell
            have HZ := Lib.hid (whAt_zero (r := r) (t := t) hlt)
            clear hc
            generalize hx : S[0] = x at hcell HZ HX
            clear hx
            rcases e3 : letB r x with _ | _
            · have F := Lib.hid (FA.out (by rw [HZ.out, e3]; rfl))
              go_wp2_with (go_at_call 61; refine (isLetter_any _ _ _).mono ?_; rintro e w' ⟨rfl, rfl⟩)
              go_ret
              exact ⟨ret_bool F.out.symm, (by repeat (first | exact Below.refl _ _ | (refine Below.setCell ?_ (by first | omega | (simp <;> omega)) _) | (refine bel_drewN ?_ _) | (refine Below.drew ?_) | (refine Below.alloc ?_ (by first | omega | (simp <;> omega)) _)))⟩
            · rcases e4 : (x == t) with _ | _
              · rcases e5 : (x == -t) with _ | _
                · have F := Lib.hid (ST.out (by rw [HZ.out, e3]; simp only [bne, e4, e5]; rfl))
                  go_wp2_with (go_at_call 61; refine (isLetter_any _ _ _).mono ?_; rintro e w' ⟨rfl, rfl⟩)
                  go_round
                  case rel => exact ⟨1, by omega, by go_num, F.out⟩
                  case measure => simp [intOf]; omega
                · have F := Lib.hid (FA.out (by rw [HZ.out]; simp only [bne, e5]; simp))
                  go_wp2_with (go_at_call 61; refine (isLetter_any _ _ _).mono ?_; rintro e w' ⟨rfl, rfl⟩)
                  go_ret
                  exact ⟨ret_bool F.out.symm, (by repeat (first | exact Below.refl _ _ | (refine Below.setCell ?_ (by first | omega | (simp <;> omega)) _) | (refine bel_drewN ?_ _) | (refine Below.drew ?_) | (refine Below.alloc ?_ (by first | omega | (simp <;> omega)) _)))⟩
              · have F := Lib.hid (FA.out (by rw [HZ.out]; simp only [bne, e4]; simp))
                go_wp2_with (go_at_call 61; refine (isLetter_any _ _ _).mono ?_; rintro e w' ⟨rfl, rfl⟩)
                go_ret
                exact ⟨ret_bool F.out.symm, (by repeat (first | exact Below.refl _ _ | (refine Below.setCell ?_ (by first | omega | (simp <;> omega)) _) | (refine bel_drewN ?_ _) | (refine Below.drew ?_) | (refine Below.alloc ?_ (by first | omega | (simp <;> omega)) _)))⟩
        · obtain rfl : k = S.length := by omega
          have F := Lib.hid (whB_true e1 e2 HOK.out)
          go_wp2
          go_ret
          exact ⟨ret_bool F.out.symm, (by repeat (first | exact Below.refl _ _ | (refine Below.setCell ?_ (by first | omega | (simp <;> omega)) _) | (refine bel_drewN ?_ _) | (refine Below.drew ?_) | (refine Below.alloc ?_ (by first | omega | (simp <;> omega)) _)))⟩
theorem abs_small {x : Int} (h1 : -3 ≤ x) (h2 : x ≤ 3) : abs64 x = if x < 0 then -x else x := by
  unfold abs64
  split
  · exact IntWalk.wrap64_in _ ⟨by omega, by omega⟩
  · rfl
theorem whAt_spec {r t x : Int} (h1 : inB r 1 3 = true) (h2 : letB r t = true) :
    (letB r x && (x != t) && (x != -t)) = ((x != 0) && inB x (wrap64 (-r)) r && !(abs64 x == abs64 t)) := by
  rcases h3 : letB r x with _ | _
  · unfold letB at h3
    rw [h3]; rfl
  · have ht := (letB_iff h1).1 h2
    have hx := (letB_iff h1).1 h3
    have hr := inB_iff.1 h1
    unfold letB at h3
    rw [h3, abs_small (by omega) (by omega), abs_small (x := t) (by omega) (by omega), Bool.eq_iff_iff]
    simp
    repeat' split
    all_goals omega
theorem whAt_rk {r x y : Int} (h1 : inB r 1 3 = true) (h3 : letB r x = true) (h2 : letB r y = true) : decide (0 ≤ cmpL y x) = decide (rk x ≤ rk y) := by
  have hx := (letB_iff h1).1 h3
  have hy := (letB_iff h1).1 h2
  have hr := inB_iff.1 h1
  have := rk_cmp (a := y) (b := x) (by omega) (by omega) hy.1 (by omega) (by omega) hx.1
  rw [Bool.eq_iff_iff]
  simp [this]

set_option maxHeartbeats 4000000 in
theorem specIsWhitehead_any (r : Int) (v : Value) (d : WhD) (w : World) (h : ArgWh w v d) (hl : d.2.length ≤ 1073741824) :
    Calls Try.prog 76 #[.int .i64 r, v] w fun e w' => e = .returned (.bool (whB r d)) ∧ Below w.heap.size w w' := by
  obtain ⟨s, rfl, hd, ha⟩ := h
  obtain ⟨t, S⟩ := d
  simp only at hd ha hl
  obtain ⟨A, cap, rfl, hcap, hm, hr, hb⟩ := ha
  have HB := Lib.hid hb
  have HT := Lib.hid hd
  clear hr hb hd
  go_enter Try.func76, Try.ntmps76
  go_wp2
  go_loopw [5] (fun i wr => ∃ k : Nat, k ≤ S.length ∧ i = .int .i64 k ∧ (inB r 1 3 = true → letB r t = true → ∀ j, j < k → whAt r t S j = true) ∧ ∃ n, wr = (w.alloc (Obj.cells #[.int .i64 t, .slice A S.length cap] 57)).drewN n) (fun i _ => S.length - (intOf i).toNat)
  case atStart => exact ⟨0, Nat.zero_le _, rfl, fun _ _ j hj => absurd hj (by omega), 0, rfl⟩
  case round =>
    obtain ⟨k, hk, rfl, hok, n, rfl⟩ := hrel
    have HOK := Lib.hid hok
    clear hok
    by_cases hlt : k < S.length
    · obtain ⟨b, off, rfl, hc⟩ := HB.out (by omega)
      have hbl : b < w.heap.size := World.block_lt_of_cell? w _ (hc k hlt)
      have hcell := hc k hlt
      have ST : Hid ((inB r 1 3 = true → letB r t = true → whAt r t S k = true) → inB r 1 3 = true → letB r t = true → ∀ j, j < k + 1 → whAt r t S j = true) := fun F q1 q2 j hj => by
        rcases Nat.lt_or_eq_of_le (Nat.le_of_lt_succ hj) with hj | rfl
        · exact HOK.out q1 q2 j hj
        · exact F q1 q2
      have FA : Hid ((inB r 1 3 = true → letB r t = true → whAt r t S k = false) → whB r (t, S) = false) := fun F => whB_false k hlt F
      by_cases h0 : 0 < k
      · have hcell2 := hc (k - 1) (by omega)
        have hd0 : decide ((0 : Int) < (k : Int)) = true := by simp; omega
        have HP : Hid (inB r 1 3 = true → letB r t = true → letB r S[k - 1] = true) := fun q1 q2 => whAt_let (by omega) (HOK.out q1 q2 (k - 1) (by omega))
        have HZ := Lib.hid (whAt_pos (r := r) (t := t) h0 hlt)
        clear hc
        generalize S[k - 1] = y at hcell2 HZ HP
        generalize hx : S[k] = x at hcell HZ
        clear hx
        have key : Hid (∀ c : Bool, ((x != 0) && inB x (wrap64 (-r)) r && !(abs64 x == abs64 t) && !decide (rk x ≤ rk y)) = c → inB r 1 3 = true → letB r t = true → whAt r t S k = c) := fun c hc q1 q2 => by
          rw [HZ.out, whAt_spec q1 q2]
          rcases e : ((x != 0) && inB x (wrap64 (-r)) r && !(abs64 x == abs64 t)) with _ | _
          · rw [e] at hc; rw [← hc]; rfl
          · have hlx : letB r x = true := by
              simp only [Bool.and_eq_true] at e
              unfold letB
              rw [e.1.1, e.1.2]; rfl
            rw [e] at hc
            rw [whAt_rk q1 hlx (HP.out q1 q2)]
            exact hc
        rcases e1 : (x == 0) with _ | _
        · rcases e2 : inB x (wrap64 (-r)) r with _ | _
          · have F := Lib.hid (FA.out (key.out false (by rw [e2]; simp)))
            go_wp2
            go_quiet ((first | (go_at_call 25; first | exact quiet_left (l1In_any _ _ _ _) | exact quiet_add_left (l1In_any _ _ _ _)) | (go_at_call 75; first | exact quiet_left (l21Abs_any _ _) | exact quiet_add_left (l21Abs_any _ _)) | (go_at_call 92; first | exact quiet_left (l2Rank_any _ _) | exact quiet_add_left (l2Rank_any _ _))))
            go_wp2
            go_ret
            exact ⟨ret_bool F.out.symm, (by repeat (first | exact Below.refl _ _ | (refine Below.setCell ?_ (by first | omega | (simp <;> omega)) _) | (refine bel_drewN ?_ _) | (refine Below.drew ?_) | (refine Below.alloc ?_ (by first | omega | (simp <;> omega)) _)))⟩
          · rcases e3 : (abs64 x == abs64 t) with _ | _
            · rcases e4 : decide (rk x ≤ rk y) with _ | _
              · have F := Lib.hid (ST.out (key.out true (by rw [e2, e3, e4]; simp only [bne, e1]; rfl)))
                go_wp2
                go_quiet ((first | (go_at_call 25; first | exact quiet_left (l1In_any _ _ _ _) | exact quiet_add_left (l1In_any _ _ _ _)) | (go_at_call 75; first | exact quiet_left (l21Abs_any _ _) | exact quiet_add_left (l21Abs_any _ _)) | (go_at_call 92; first | exact quiet_left (l2Rank_any _ _) | exact quiet_add_left (l2Rank_any _ _))))
                go_wp2
                go_roundw
                case rel => exact ⟨k + 1, by omega, by go_num, F.out, _, rfl⟩
                case measure => simp [intOf]; omega
              · have F := Lib.hid (FA.out (key.out false (by rw [e4]; simp)))
                go_wp2
                go_quiet ((first | (go_at_call 25; first | exact quiet_left (l1In_any _ _ _ _) | exact quiet_add_left (l1In_any _ _ _ _)) | (go_at_call 75; first | exact quiet_left (l21Abs_any _ _) | exact quiet_add_left (l21Abs_any _ _)) | (go_at_call 92; first | exact quiet_left (l2Rank_any _ _) | exact quiet_add_left (l2Rank_any _ _))))
                go_wp2
                go_ret
                exact ⟨ret_bool F.out.symm, (by repeat (first | exact Below.refl _ _ | (refine Below.setCell ?_ (by first | omega | (simp <;> omega)) _) | (refine bel_drewN ?_ _) | (refine Below.drew ?_) | (refine Below.alloc ?_ (by first | omega | (simp <;> omega)) _)))⟩
            · have F := Lib.hid (FA.out (key.out false (by rw [e3]; simp)))
              go_wp2
              go_quiet ((first | (go_at_call 25; first | exact quiet_left (l1In_any _ _ _ _) | exact quiet_add_left (l1In_any _ _ _ _)) | (go_at_call 75; first | exact quiet_left (l21Abs_any _ _) | exact quiet_add_left (l21Abs_any _ _)) | (go_at_call 92; first | exact quiet_left (l2Rank_any _ _) | exact quiet_add_left (l2Rank_any _ _))))
              go_wp2
              go_ret
              exact ⟨ret_bool F.out.symm, (by repeat (first | exact Below.refl _ _ | (refine Below.setCell ?_ (by first | omega | (simp <;> omega)) _) | (refine bel_drewN ?_ _) | (refine Below.drew ?_) | (refine Below.alloc ?_ (by first | omega | (simp <;> omega)) _)))⟩
        · have F := Lib.hid (FA.out (key.out false (by simp only [bne, e1]; rfl)))
          go_wp2
          go_quiet ((first | (go_at_call 25; first | exact quiet_left (l1In_any _ _ _ _) | exact quiet_add_left (l1In_any _ _ _ _)) | (go_at_call 75; first | exact quiet_left (l21Abs_any _ _) | exact quiet_add_left (l21Abs_any _ _)) | (go_at_call 92; first | exact quiet_left (l2Rank_any _ _) | exact quiet_add_left (l2Rank_any _ _))))
          go_wp2
          go_ret
          exact ⟨ret_bool F.out.symm, (by repeat (first | exact Below.refl _ _ | (refine Below.setCell ?_ (by first | omega | (simp <;> omega)) _) | (refine bel_drewN ?_ _) | (refine Below.drew ?_) | (refine Below.alloc ?_ (by first | omega | (simp <;> omega)) _)))⟩
      · obtain rfl : k = 0 := by omega
        rw [Nat.add_zero] at hcell
        have HZ := Lib.hid (whAt_zero (r := r) (t := t) hlt)
        clear hc
        generalize hx : S[0] = x at hcell HZ
        clear hx
        have key : Hid (∀ c : Bool, ((x != 0) && inB x (wrap64 (-r)) r && !(abs64 x == abs64 t)) = c → inB r 1 3 = true → letB r t = true → whAt r t S 0 = c) := fun c hc q1 q2 => by
          rw [HZ.out, whAt_spec q1 q2]
          exact hc
        rcases e1 : (x == 0) with _ | _
        · rcases e2 : inB x (wrap64 (-r)) r with _ | _
          · have F := Lib.hid (FA.out (key.out false (by rw [e2]; simp)))
            go_wp2
            go_quiet ((first | (go_at_call 25; first | exact quiet_left (l1In_any _ _ _ _) | exact quiet_add_left (l1In_any _ _ _ _)) | (go_at_call 75; first | exact quiet_left (l21Abs_any _ _) | exact quiet_add_left (l21Abs_any _ _)) | (go_at_call 92; first | exact quiet_left (l2Rank_any _ _) | exact quiet_add_left (l2Rank_any _ _))))
            go_wp2
            go_ret
            exact ⟨ret_bool F.out.symm, (by repeat (first | exact Below.refl _ _ | (refine Below.setCell ?_ (by first | omega | (simp <;> omega)) _) | (refine bel_drewN ?_ _) | (refine Below.drew ?_) | (refine Below.alloc ?_ (by first | omega | (simp <;> omega)) _)))⟩
          · rcases e3 : (abs64 x == abs64 t) with _ | _
            · have F := Lib.hid (ST.out (key.out true (by rw [e2, e3]; simp only [bne, e1]; rfl)))
              go_wp2
              go_quiet ((first | (go_at_call 25; first | exact quiet_left (l1In_any _ _ _ _) | exact quiet_add_left (l1In_any _ _ _ _)) | (go_at_call 75; first | exact quiet_left (l21Abs_any _ _) | exact quiet_add_left (l21Abs_any _ _)) | (go_at_call 92; first | exact quiet_left (l2Rank_any _ _) | exact quiet_add_left (l2Rank_any _ _))))
              go_wp2
              go_roundw
              case rel => exact ⟨1, by omega, by go_num, F.out, _, rfl⟩
              case measure => simp [intOf]; omega
            · have F := Lib.hid (FA.out (key.out false (by rw [e3]; simp)))
              go_wp2
              go_quiet ((first | (go_at_call 25; first | exact quiet_left (l1In_any _ _ _ _) | exact quiet_add_left (l1In_any _ _ _ _)) | (go_at_call 75; first | exact quiet_left (l21Abs_any _ _) | exact quiet_add_left (l21Abs_any _ _)) | (go_at_call 92; first | exact quiet_left (l2Rank_any _ _) | exact quiet_add_left (l2Rank_any _ _))))
              go_wp2
              go_ret
              exact ⟨ret_bool F.out.symm, (by repeat (first | exact Below.refl _ _ | (refine Below.setCell ?_ (by first | omega | (simp <;> omega)) _) | (refine bel_drewN ?_ _) | (refine Below.drew ?_) | (refine Below.alloc ?_ (by first | omega | (simp <;> omega)) _)))⟩
        · have F := Lib.hid (FA.out (key.out false (by simp only [bne, e1]; rfl)))
          go_wp2
          go_quiet ((first | (go_at_call 25; first | exact quiet_left (l1In_any _ _ _ _) | exact quiet_add_left (l1In_any _ _ _ _)) | (go_at_call 75; first | exact quiet_left (l21Abs_any _ _) | exact quiet_add_left (l21Abs_any _ _)) | (go_at_call 92; first | exact quiet_left (l2Rank_any _ _) | exact quiet_add_left (l2Rank_any _ _))))
          go_wp2
          go_ret
          exact ⟨ret_bool F.out.symm, (by repeat (first | exact Below.refl _ _ | (refine Below.setCell ?_ (by first | omega | (simp <;> omega)) _) | (refine bel_drewN ?_ _) | (refine Below.drew ?_) | (refine Below.alloc ?_ (by first | omega | (simp <;> omega)) _)))⟩
    · obtain rfl : k = S.length := by omega
      rcases e1 : inB r 1 3 with _ | _
      · have F : Hid (whB r (t, S) = false) := Lib.hid (by unfold whB; rw [e1]; rfl)
        go_wp2_with (go_at_call 25; refine (l1In_any _ _ _ _).mono ?_; rintro e w' ⟨rfl, rfl⟩)
        go_ret
        exact ⟨ret_bool F.out.symm, (by repeat (first | exact Below.refl _ _ | (refine Below.setCell ?_ (by first | omega | (simp <;> omega)) _) | (refine bel_drewN ?_ _) | (refine Below.drew ?_) | (refine Below.alloc ?_ (by first | omega | (simp <;> omega)) _)))⟩
      · rcases e2 : (t != 0) with _ | _
        · have F : Hid (whB r (t, S) = false) := Lib.hid (by unfold whB letB; rw [e1, e2]; rfl)
          go_wp2_with (go_at_call 25; refine (l1In_any _ _ _ _).mono ?_; rintro e w' ⟨rfl, rfl⟩)
          go_ret
          exact ⟨ret_bool F.out.symm, (by repeat (first | exact Below.refl _ _ | (refine Below.setCell ?_ (by first | omega | (simp <;> omega)) _) | (refine bel_drewN ?_ _) | (refine Below.drew ?_) | (refine Below.alloc ?_ (by first | omega | (simp <;> omega)) _)))⟩
        · rcases e3 : inB t (wrap64 (-r)) r with _ | _
          · have F : Hid (whB r (t, S) = false) := Lib.hid (by unfold whB letB; rw [e1, e2, e3]; rfl)
            go_wp2_with (go_at_call 25; refine (l1In_any _ _ _ _).mono ?_; rintro e w' ⟨rfl, rfl⟩)
            go_ret
            exact ⟨ret_bool F.out.symm, (by repeat (first | exact Below.refl _ _ | (refine Below.setCell ?_ (by first | omega | (simp <;> omega)) _) | (refine bel_drewN ?_ _) | (refine Below.drew ?_) | (refine Below.alloc ?_ (by first | omega | (simp <;> omega)) _)))⟩
          · have F := Lib.hid (whB_true e1 (by unfold letB; rw [e2, e3]; rfl) (HOK.out e1 (by unfold letB; rw [e2, e3]; rfl)))
            go_wp2_with (go_at_call 25; refine (l1In_any _ _ _ _).mono ?_; rintro e w' ⟨rfl, rfl⟩)
            go_ret
            exact ⟨ret_bool F.out.symm, (by repeat (first | exact Below.refl _ _ | (refine Below.setCell ?_ (by first | omega | (simp <;> omega)) _) | (refine bel_drewN ?_ _) | (refine Below.drew ?_) | (refine Below.alloc ?_ (by first | omega | (simp <;> omega)) _)))⟩
end Go.Proofs.Ytnmkbkpegkchpaa
