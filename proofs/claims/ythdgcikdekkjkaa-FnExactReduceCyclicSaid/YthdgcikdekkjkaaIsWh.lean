/- IsWhitehead of the reference and of the program. -/
import Derived.Test.YthdgcikdekkjkaaWh
import Derived.Test.YthdgcikdekkjkaaNum
namespace Go.Proofs.Ythdgcikdekkjkaa
set_option maxRecDepth 20000
set_option linter.unusedVariables false
set_option linter.unusedSimpArgs false
open Go.RowKit

def cmpI (a b : Int) : Int := if a < b then -1 else if b < a then 1 else 0
def cmpL (a b : Int) : Int :=
  if a = b then 0 else if a = -9223372036854775808 then 1 else if b = -9223372036854775808 then -1
  else if cmpI (max a (-a)) (max b (-b)) ≠ 0 then cmpI (max a (-a)) (max b (-b)) else cmpI b a
def rk (x : Int) : Int := if x < 0 then wrap64 (wrap64 (-2 * x) - 1) else wrap64 (wrap64 (2 * x) - 2)
theorem rk_small {x : Int} (h1 : -3 ≤ x) (h2 : x ≤ 3) : rk x = if x < 0 then -2 * x - 1 else 2 * x - 2 := by
  unfold rk
  split
  · rw [IntWalk.wrap64_in (-2 * x) ⟨by omega, by omega⟩]
    exact IntWalk.wrap64_in _ ⟨by omega, by omega⟩
  · rw [IntWalk.wrap64_in (2 * x) ⟨by omega, by omega⟩]
    exact IntWalk.wrap64_in _ ⟨by omega, by omega⟩
theorem rk_cmp {a b : Int} (h1 : -3 ≤ a) (h2 : a ≤ 3) (h3 : a ≠ 0) (h4 : -3 ≤ b) (h5 : b ≤ 3) (h6 : b ≠ 0) : rk b ≤ rk a ↔ 0 ≤ cmpL a b := by
  rw [rk_small h1 h2, rk_small h4 h5]
  unfold cmpL cmpI
  repeat' split
  all_goals omega

set_option maxHeartbeats 400000 in
theorem l2Rank_any (x : Int) (w : World) :
    Calls Try.prog 131 #[.int .i64 x] w fun e w' => e = .returned (.int .i64 (rk x)) ∧ w = w' := by
  go_enter Try.func131, Try.ntmps131
  go_wp2
  all_goals go_ret
  all_goals (refine ⟨?_, rfl⟩; unfold rk; simp_all)
  omega
set_option maxHeartbeats 400000 in
theorem compareInts_any (a b : Int) (w : World) :
    Calls Try.prog 150 #[.int .i64 a, .int .i64 b] w fun e w' => e = .returned (.int .i64 (cmpI a b)) ∧ w = w' := by
  rcases Int.lt_trichotomy a b with h | h | h
  · go_enter Try.func150, Try.ntmps150
    go_wp2
    go_ret
    exact ⟨ret_int (by unfold cmpI; rw [if_pos h]), rfl⟩
  · subst h
    go_enter Try.func150, Try.ntmps150
    go_wp2
    go_ret
    exact ⟨ret_int (by unfold cmpI; simp), rfl⟩
  · have h' : ¬ a < b := by omega
    go_enter Try.func150, Try.ntmps150
    go_wp2
    go_ret
    exact ⟨ret_int (by unfold cmpI; rw [if_neg (by omega), if_pos h]), rfl⟩
theorem max_neg_form (a : Int) (h : a ≠ -9223372036854775808) (ha : I64 a) : ∃ m, m = max a (-a) := ⟨_, rfl⟩
set_option maxHeartbeats 1000000 in
theorem compareLetters_any (a b : Int) (w : World) (ha : I64 a) (hb : I64 b) :
    Calls Try.prog 132 #[.int .i64 a, .int .i64 b] w fun e w' => e = .returned (.int .i64 (cmpL a b)) ∧ w = w' := by
  have ha1 := ha.1
  have ha2 := ha.2
  have hb1 := hb.1
  have hb2 := hb.2
  clear ha hb
  rcases e1 : (a == b) with _ | _
  · rcases e2 : (a == -9223372036854775808) with _ | _
    · rcases e3 : (b == -9223372036854775808) with _ | _
      · have n1 : a ≠ b := by simpa using e1
        have n2 : a ≠ -9223372036854775808 := by simpa using e2
        have n3 : b ≠ -9223372036854775808 := by simpa using e3
        have F : Hid (cmpL a b = if cmpI (max a (-a)) (max b (-b)) ≠ 0 then cmpI (max a (-a)) (max b (-b)) else cmpI b a) := Lib.hid (by unfold cmpL; rw [if_neg n1, if_neg n2, if_neg n3])
        have ha3 : -9223372036854775808 < a := by omega
        have hb3 : -9223372036854775808 < b := by omega
        clear n1 n2 n3
        rcases Int.lt_or_le a 0 with sa | sa <;> rcases Int.lt_or_le b 0 with sb | sb
        · have m1 : Hid (max a (-a) = -a) := Lib.hid (by omega)
          have m2 : Hid (max b (-b) = -b) := Lib.hid (by omega)
          have G := F.out
          rw [m1.out, m2.out] at G
          have FG := Lib.hid G
          clear G F
          have p1 : a < -a := by omega
          have p2 : b < -b := by omega
          rcases e4 : (cmpI (-a) (-b) != 0) with _ | _
          · have H : Hid (cmpL a b = cmpI b a) := Lib.hid (by rw [FG.out, if_neg (by simpa using e4)])
            go_enter Try.func132, Try.ntmps132
            go_wp2_with (go_at_call 150; refine (compareInts_any _ _ _).mono ?_; rintro e w' ⟨rfl, rfl⟩)
            go_ret
            exact ⟨ret_int H.out.symm, rfl⟩
          · have H : Hid (cmpL a b = cmpI (-a) (-b)) := Lib.hid (by rw [FG.out, if_pos (by simpa using e4)])
            go_enter Try.func132, Try.ntmps132
            go_wp2_with (go_at_call 150; refine (compareInts_any _ _ _).mono ?_; rintro e w' ⟨rfl, rfl⟩)
            go_ret
            exact ⟨ret_int H.out.symm, rfl⟩
        · have m1 : Hid (max a (-a) = -a) := Lib.hid (by omega)
          have m2 : Hid (max b (-b) = b) := Lib.hid (by omega)
          have G := F.out
          rw [m1.out, m2.out] at G
          have FG := Lib.hid G
          clear G F
          have p1 : a < -a := by omega
          have p2 : ¬ b < -b := by omega
          rcases e4 : (cmpI (-a) (b) != 0) with _ | _
          · have H : Hid (cmpL a b = cmpI b a) := Lib.hid (by rw [FG.out, if_neg (by simpa using e4)])
            go_enter Try.func132, Try.ntmps132
            go_wp2_with (go_at_call 150; refine (compareInts_any _ _ _).mono ?_; rintro e w' ⟨rfl, rfl⟩)
            go_ret
            exact ⟨ret_int H.out.symm, rfl⟩
          · have H : Hid (cmpL a b = cmpI (-a) (b)) := Lib.hid (by rw [FG.out, if_pos (by simpa using e4)])
            go_enter Try.func132, Try.ntmps132
            go_wp2_with (go_at_call 150; refine (compareInts_any _ _ _).mono ?_; rintro e w' ⟨rfl, rfl⟩)
            go_ret
            exact ⟨ret_int H.out.symm, rfl⟩
        · have m1 : Hid (max a (-a) = a) := Lib.hid (by omega)
          have m2 : Hid (max b (-b) = -b) := Lib.hid (by omega)
          have G := F.out
          rw [m1.out, m2.out] at G
          have FG := Lib.hid G
          clear G F
          have p1 : ¬ a < -a := by omega
          have p2 : b < -b := by omega
          rcases e4 : (cmpI (a) (-b) != 0) with _ | _
          · have H : Hid (cmpL a b = cmpI b a) := Lib.hid (by rw [FG.out, if_neg (by simpa using e4)])
            go_enter Try.func132, Try.ntmps132
            go_wp2_with (go_at_call 150; refine (compareInts_any _ _ _).mono ?_; rintro e w' ⟨rfl, rfl⟩)
            go_ret
            exact ⟨ret_int H.out.symm, rfl⟩
          · have H : Hid (cmpL a b = cmpI (a) (-b)) := Lib.hid (by rw [FG.out, if_pos (by simpa using e4)])
            go_enter Try.func132, Try.ntmps132
            go_wp2_with (go_at_call 150; refine (compareInts_any _ _ _).mono ?_; rintro e w' ⟨rfl, rfl⟩)
            go_ret
            exact ⟨ret_int H.out.symm, rfl⟩
        · have m1 : Hid (max a (-a) = a) := Lib.hid (by omega)
          have m2 : Hid (max b (-b) = b) := Lib.hid (by omega)
          have G := F.out
          rw [m1.out, m2.out] at G
          have FG := Lib.hid G
          clear G F
          have p1 : ¬ a < -a := by omega
          have p2 : ¬ b < -b := by omega
          rcases e4 : (cmpI (a) (b) != 0) with _ | _
          · have H : Hid (cmpL a b = cmpI b a) := Lib.hid (by rw [FG.out, if_neg (by simpa using e4)])
            go_enter Try.func132, Try.ntmps132
            go_wp2_with (go_at_call 150; refine (compareInts_any _ _ _).mono ?_; rintro e w' ⟨rfl, rfl⟩)
            go_ret
            exact ⟨ret_int H.out.symm, rfl⟩
          · have H : Hid (cmpL a b = cmpI (a) (b)) := Lib.hid (by rw [FG.out, if_pos (by simpa using e4)])
            go_enter Try.func132, Try.ntmps132
            go_wp2_with (go_at_call 150; refine (compareInts_any _ _ _).mono ?_; rintro e w' ⟨rfl, rfl⟩)
            go_ret
            exact ⟨ret_int H.out.symm, rfl⟩
      · have H : Hid (cmpL a b = -1) := Lib.hid (by unfold cmpL; simp at e1 e2 e3; rw [if_neg e1, if_neg e2, if_pos e3])
        go_enter Try.func132, Try.ntmps132
        go_wp2
        go_ret
        exact ⟨ret_int H.out.symm, rfl⟩
    · have H : Hid (cmpL a b = 1) := Lib.hid (by unfold cmpL; simp at e1 e2; rw [if_neg e1, if_pos e2])
      go_enter Try.func132, Try.ntmps132
      go_wp2
      go_ret
      exact ⟨ret_int H.out.symm, rfl⟩
  · have H : Hid (cmpL a b = 0) := Lib.hid (by unfold cmpL; simp at e1; rw [if_pos e1])
    go_enter Try.func132, Try.ntmps132
    go_wp2
    go_ret
    exact ⟨ret_int H.out.symm, rfl⟩

/-! ## IsWhitehead -/
def whAt (r t : Int) (S : List Int) (i : Nat) : Bool :=
  letB r (S.getD i 0) && (S.getD i 0 != t) && (S.getD i 0 != -t) && !(decide (0 < i) && decide (0 ≤ cmpL (S.getD (i - 1) 0) (S.getD i 0)))
def whB (r : Int) (d : WhD) : Bool := inB r 1 3 && letB r d.1 && (List.range d.2.length).all (whAt r d.1 d.2)
theorem whB_true {r t : Int} {S : List Int} (h1 : inB r 1 3 = true) (h2 : letB r t = true) (h : ∀ i, i < S.length → whAt r t S i = true) : whB r (t, S) = true := by
  unfold whB
  rw [h1, h2]
  simp
  exact h
theorem whB_false {r t : Int} {S : List Int} (i : Nat) (hi : i < S.length) (h : inB r 1 3 = true → letB r t = true → whAt r t S i = false) : whB r (t, S) = false := by
  unfold whB
  rcases h1 : inB r 1 3 with _ | _
  · rfl
  · rcases h2 : letB r t with _ | _
    · rfl
    · simp
      exact ⟨i, hi, h h1 h2⟩
theorem whAt_zero {r t : Int} {S : List Int} (h : 0 < S.length) : whAt r t S 0 = (letB r S[0] && (S[0] != t) && (S[0] != -t)) := by
  simp [whAt, List.getD, h]
theorem whAt_pos {r t : Int} {S : List Int} {k : Nat} (h0 : 0 < k) (h : k < S.length) : whAt r t S k = (letB r S[k] && (S[k] != t) && (S[k] != -t) && !decide (0 ≤ cmpL S[k - 1] S[k])) := by
  have : k - 1 < S.length := by omega
  simp [whAt, List.getD, h, h0, this]
theorem whAt_let {r t : Int} {S : List Int} {k : Nat} (h : k < S.length) (hw : whAt r t S k = true) : letB r S[k] = true := by
  unfold whAt at hw
  simp only [Bool.and_eq_true] at hw
  have := hw.1.1.1
  simpa [List.getD, h] using this

set_option maxHeartbeats 4000000 in
theorem implIsWhitehead_any (r : Int) (v : Value) (d : WhD) (w : World) (h : ArgWh w v d) (hl : d.2.length ≤ 1073741824) :
    Calls Try.prog 99 #[.int .i64 r, v] w fun e w' => e = .returned (.bool (whB r d)) ∧ Below w.heap.size w w' := by
  obtain ⟨s, rfl, hd, ha⟩ := h
  obtain ⟨t, S⟩ := d
  simp only at hd ha hl
  obtain ⟨A, cap, rfl, hcap, hm, hr, hb⟩ := ha
  have HR := Lib.hid hr
  have HB := Lib.hid hb
  have HT := Lib.hid hd
  clear hr hb hd
  rcases e1 : inB r 1 3 with _ | _
  · have F : Hid (whB r (t, S) = false) := Lib.hid (by unfold whB; rw [e1]; rfl)
    go_enter Try.func99, Try.ntmps99
    go_wp2_with (go_at_call 77; refine (within_any _ _ _ _).mono ?_; rintro e w' ⟨rfl, rfl⟩)
    go_ret
    exact ⟨ret_bool F.out.symm, (by repeat (first | exact Below.refl _ _ | (refine Below.setCell ?_ (by first | omega | (simp <;> omega)) _) | (refine bel_drewN ?_ _) | (refine Below.drew ?_) | (refine Below.alloc ?_ (by first | omega | (simp <;> omega)) _)))⟩
  · rcases e2 : letB r t with _ | _
    · have F : Hid (whB r (t, S) = false) := Lib.hid (by unfold whB; rw [e1, e2]; rfl)
      go_enter Try.func99, Try.ntmps99
      go_wp2_with (first | (go_at_call 77; refine (within_any _ _ _ _).mono ?_; rintro e w' ⟨rfl, rfl⟩) | (go_at_call 127; refine (isLetter_any _ _ _).mono ?_; rintro e w' ⟨rfl, rfl⟩))
      go_ret
      exact ⟨ret_bool F.out.symm, (by repeat (first | exact Below.refl _ _ | (refine Below.setCell ?_ (by first | omega | (simp <;> omega)) _) | (refine bel_drewN ?_ _) | (refine Below.drew ?_) | (refine Below.alloc ?_ (by first | omega | (simp <;> omega)) _)))⟩
    · have ht := (letB_iff e1).1 e2
      have hr3 := inB_iff.1 e1
      have hn : wrap64 (-t) = -t := IntWalk.wrap64_in _ ⟨by omega, by omega⟩
      have HN := Lib.hid hn
      have ht1 : -3 ≤ t := by omega
      have ht2 : t ≤ 3 := by omega
      clear hn ht hr3
      go_enter Try.func99, Try.ntmps99
      go_wp2_with (first | (go_at_call 77; refine (within_any _ _ _ _).mono ?_; rintro e w' ⟨rfl, rfl⟩) | (go_at_call 127; refine (isLetter_any _ _ _).mono ?_; rintro e w' ⟨rfl, rfl⟩))
      go_loop [20] (fun i => ∃ k : Nat, k ≤ S.length ∧ i = .int .i64 k ∧ (∀ j, j < k → whAt r t S j = true)) (fun i => S.length - (intOf i).toNat)
      case atStart => exact ⟨0, Nat.zero_le _, rfl, fun j hj => absurd hj (by omega)⟩
      case round =>
        obtain ⟨k, hk, rfl, hok⟩ := hrel
        have HOK := Lib.hid hok
        clear hok
        by_cases hlt : k < S.length
        · obtain ⟨b, off, rfl, hc⟩ := HB.out (by omega)
          have hbl : b < w.heap.size := World.block_lt_of_cell? w _ (hc k hlt)
          have hcell := hc k hlt
          have ST : Hid (whAt r t S k = true → ∀ j, j < k + 1 → whAt r t S j = true) := fun F j hj => by
            rcases Nat.lt_or_eq_of_le (Nat.le_of_lt_succ hj) with hj | rfl
            · exact HOK.out j hj
            · exact F
          have FA : Hid (whAt r t S k = false → whB r (t, S) = false) := fun F => whB_false k hlt fun _ _ => F
          have HX := Lib.hid (HR.out S[k] (by simp))
          by_cases h0 : 0 < k
          · have hcell2 := hc (k - 1) (by omega)
            have HZ := Lib.hid (whAt_pos (r := r) (t := t) h0 hlt)
            have HY := Lib.hid (HR.out S[k - 1] (by simp))
            clear hc
            generalize S[k - 1] = y at hcell2 HZ HY
            generalize hx : S[k] = x at hcell HZ HX
            clear hx
            rcases e3 : letB r x with _ | _
            · have F := Lib.hid (FA.out (by rw [HZ.out, e3]; rfl))
              go_wp2_with (go_at_call 127; refine (isLetter_any _ _ _).mono ?_; rintro e w' ⟨rfl, rfl⟩)
              go_ret
              exact ⟨ret_bool F.out.symm, (by repeat (first | exact Below.refl _ _ | (refine Below.setCell ?_ (by first | omega | (simp <;> omega)) _) | (refine bel_drewN ?_ _) | (refine Below.drew ?_) | (refine Below.alloc ?_ (by first | omega | (simp <;> omega)) _)))⟩
            · rcases e4 : (x == t) with _ | _
              · rcases e5 : (x == -t) with _ | _
                · rcases e6 : decide (0 ≤ cmpL y x) with _ | _
                  · have F := Lib.hid (ST.out (by rw [HZ.out, e3, e6]; simp only [bne, e4, e5]; rfl))
                    go_wp2_with (first | (go_at_call 127; refine (isLetter_any _ _ _).mono ?_; rintro e w' ⟨rfl, rfl⟩) | (go_at_call 132; refine (compareLetters_any _ _ _ HY.out HX.out).mono ?_; rintro e w' ⟨rfl, rfl⟩))
                    go_round
                    case rel => exact ⟨k + 1, by omega, by go_num, F.out⟩
                    case measure => simp [intOf]; omega
                  · have F := Lib.hid (FA.out (by rw [HZ.out, e6]; simp))
                    go_wp2_with (first | (go_at_call 127; refine (isLetter_any _ _ _).mono ?_; rintro e w' ⟨rfl, rfl⟩) | (go_at_call 132; refine (compareLetters_any _ _ _ HY.out HX.out).mono ?_; rintro e w' ⟨rfl, rfl⟩))
                    go_ret
                    exact ⟨ret_bool F.out.symm, (by repeat (first | exact Below.refl _ _ | (refine Below.setCell ?_ (by first | omega | (simp <;> omega)) _) | (refine bel_drewN ?_ _) | (refine Below.drew ?_) | (refine Below.alloc ?_ (by first | omega | (simp <;> omega)) _)))⟩
                · have F := Lib.hid (FA.out (by rw [HZ.out]; simp only [bne, e5]; simp))
                  go_wp2_with (go_at_call 127; refine (isLetter_any _ _ _).mono ?_; rintro e w' ⟨rfl, rfl⟩)
                  go_ret
                  exact ⟨ret_bool F.out.symm, (by repeat (first | exact Below.refl _ _ | (refine Below.setCell ?_ (by first | omega | (simp <;> omega)) _) | (refine bel_drewN ?_ _) | (refine Below.drew ?_) | (refine Below.alloc ?_ (by first | omega | (simp <;> omega)) _)))⟩
              · have F := Lib.hid (FA.out (by rw [HZ.out]; simp only [bne, e4]; simp))
                go_wp2_with (go_at_call 127; refine (isLetter_any _ _ _).mono ?_; rintro e w' ⟨rfl, rfl⟩)
                go_ret
                exact ⟨ret_bool F.out.symm, (by repeat (first | exact Below.refl _ _ | (refine Below.setCell ?_ (by first | omega | (simp <;> omega)) _) | (refine bel_drewN ?_ _) | (refine Below.drew ?_) | (refine Below.alloc ?_ (by first | omega | (simp <;> omega)) _)))⟩
          · obtain rfl : k = 0 := by omega
            rw [Nat.add_zero] at hcell
            have HZ := Lib.hid (whAt_zero (r := r) (t := t) hlt)
            clear hc
            generalize hx : S[0] = x at hcell HZ HX
            clear hx
            rcases e3 : letB r x with _ | _
            · have F := Lib.hid (FA.out (by rw [HZ.out, e3]; rfl))
              go_wp2_with (go_at_call 127; refine (isLetter_any _ _ _).mono ?_; rintro e w' ⟨rfl, rfl⟩)
              go_ret
              exact ⟨ret_bool F.out.symm, (by repeat (first | exact Below.refl _ _ | (refine Below.setCell ?_ (by first | omega | (simp <;> omega)) _) | (refine bel_drewN ?_ _) | (refine Below.drew ?_) | (refine Below.alloc ?_ (by first | omega | (simp <;> omega)) _)))⟩
            · rcases e4 : (x == t) with _ | _
              · rcases e5 : (x == -t) with _ | _
                · have F := Lib.hid (ST.out (by rw [HZ.out, e3]; simp only [bne, e4, e5]; rfl))
                  go_wp2_with (go_at_call 127; refine (isLetter_any _ _ _).mono ?_; rintro e w' ⟨rfl, rfl⟩)
                  go_round
                  case rel => exact ⟨1, by omega, by go_num, F.out⟩
                  case measure => simp [intOf]; omega
                · have F := Lib.hid (FA.out (by rw [HZ.out]; simp only [bne, e5]; simp))
                  go_wp2_with (go_at_call 127; refine (isLetter_any _ _ _).mono ?_; rintro e w' ⟨rfl, rfl⟩)
                  go_ret
                  exact ⟨ret_bool F.out.symm, (by repeat (first | exact Below.refl _ _ | (refine Below.setCell ?_ (by first | omega | (simp <;> omega)) _) | (refine bel_drewN ?_ _) | (refine Below.drew ?_) | (refine Below.alloc ?_ (by first | omega | (simp <;> omega)) _)))⟩
              · have F := Lib.hid (FA.out (by rw [HZ.out]; simp only [bne, e4]; simp))
                go_wp2_with (go_at_call 127; refine (isLetter_any _ _ _).mono ?_; rintro e w' ⟨rfl, rfl⟩)
                go_ret
                exact ⟨ret_bool F.out.symm, (by repeat (first | exact Below.refl _ _ | (refine Below.setCell ?_ (by first | omega | (simp <;> omega)) _) | (refine bel_drewN ?_ _) | (refine Below.drew ?_) | (refine Below.alloc ?_ (by first | omega | (simp <;> omega)) _)))⟩
        · obtain rfl : k = S.length := by omega
          have F := Lib.hid (whB_true e1 e2 HOK.out)
          go_wp2
          go_ret
          exact ⟨ret_bool F.out.symm, (by repeat (first | exact Below.refl _ _ | (refine Below.setCell ?_ (by first | omega | (simp <;> omega)) _) | (refine bel_drewN ?_ _) | (refine Below.drew ?_) | (refine Below.alloc ?_ (by first | omega | (simp <;> omega)) _)))⟩
theorem abs_small {x : Int} (h1 : -3 ≤ x) (h2 : x ≤ 3) : abs64 x = if x < 0 then -x else x := by
  unfold abs64
  split
  · exact IntWalk.wrap64_in _ ⟨by omega, by omega⟩
  · rfl
theorem whAt_spec {r t x : Int} (h1 : inB r 1 3 = true) (h2 : letB r t = true) :
    (letB r x && (x != t) && (x != -t)) = ((x != 0) && inB x (wrap64 (-r)) r && !(abs64 x == abs64 t)) := by
  rcases h3 : letB r x with _ | _
  · unfold letB at h3
    rw [h3]; rfl
  · have ht := (letB_iff h1).1 h2
    have hx := (letB_iff h1).1 h3
    have hr := inB_iff.1 h1
    unfold letB at h3
    rw [h3, abs_small (by omega) (by omega), abs_small (x := t) (by omega) (by omega), Bool.eq_iff_iff]
    simp
    repeat' split
    all_goals omega
theorem whAt_rk {r x y : Int} (h1 : inB r 1 3 = true) (h3 : letB r x = true) (h2 : letB r y = true) : decide (0 ≤ cmpL y x) = decide (rk x ≤ rk y) := by
  have hx := (letB_iff h1).1 h3
  have hy := (letB_iff h1).1 h2
  have hr := inB_iff.1 h1
  have := rk_cmp (a := y) (b := x) (by omega) (by omega) hy.1 (by omega) (by omega) hx.1
  rw [Bool.eq_iff_iff]
  simp [this]

set_option maxHeartbeats 4000000 in
theorem specIsWhitehead_any (r : Int) (v : Value) (d : WhD) (w : World) (h : ArgWh w v d) (hl : d.2.length ≤ 1073741824) :
    Calls Try.prog 98 #[.int .i64 r, v] w fun e w' => e = .returned (.bool (whB r d)) ∧ Below w.heap.size w w' := by
  obtain ⟨s, rfl, hd, ha⟩ := h
  obtain ⟨t, S⟩ := d
  simp only at hd ha hl
  obtain ⟨A, cap, rfl, hcap, hm, hr, hb⟩ := ha
  have HB := Lib.hid hb
  have HT := Lib.hid hd
  clear hr hb hd
  go_enter Try.func98, Try.ntmps98
  go_wp2
  go_loopw [5] (fun i wr => ∃ k : Nat, k ≤ S.length ∧ i = .int .i64 k ∧ (inB r 1 3 = true → letB r t = true → ∀ j, j < k → whAt r t S j = true) ∧ ∃ n, wr = (w.alloc (Obj.cells #[.int .i64 t, .slice A S.length cap] 64)).drewN n) (fun i _ => S.length - (intOf i).toNat)
  case atStart => exact ⟨0, Nat.zero_le _, rfl, fun _ _ j hj => absurd hj (by omega), 0, rfl⟩
  case round =>
    obtain ⟨k, hk, rfl, hok, n, rfl⟩ := hrel
    have HOK := Lib.hid hok
    clear hok
    by_cases hlt : k < S.length
    · obtain ⟨b, off, rfl, hc⟩ := HB.out (by omega)
      have hbl : b < w.heap.size := World.block_lt_of_cell? w _ (hc k hlt)
      have hcell := hc k hlt
      have ST : Hid ((inB r 1 3 = true → letB r t = true → whAt r t S k = true) → inB r 1 3 = true → letB r t = true → ∀ j, j < k + 1 → whAt r t S j = true) := fun F q1 q2 j hj => by
        rcases Nat.lt_or_eq_of_le (Nat.le_of_lt_succ hj) with hj | rfl
        · exact HOK.out q1 q2 j hj
        · exact F q1 q2
      have FA : Hid ((inB r 1 3 = true → letB r t = true → whAt r t S k = false) → whB r (t, S) = false) := fun F => whB_false k hlt F
      by_cases h0 : 0 < k
      · have hcell2 := hc (k - 1) (by omega)
        have hd0 : decide ((0 : Int) < (k : Int)) = true := by simp; omega
        have HP : Hid (inB r 1 3 = true → letB r t = true → letB r S[k - 1] = true) := fun q1 q2 => whAt_let (by omega) (HOK.out q1 q2 (k - 1) (by omega))
        have HZ := Lib.hid (whAt_pos (r := r) (t := t) h0 hlt)
        clear hc
        generalize S[k - 1] = y at hcell2 HZ HP
        generalize hx : S[k] = x at hcell HZ
        clear hx
        have key : Hid (∀ c : Bool, ((x != 0) && inB x (wrap64 (-r)) r && !(abs64 x == abs64 t) && !decide (rk x ≤ rk y)) = c → inB r 1 3 = true → letB r t = true → whAt r t S k = c) := fun c hc q1 q2 => by
          rw [HZ.out, whAt_spec q1 q2]
          rcases e : ((x != 0) && inB x (wrap64 (-r)) r && !(abs64 x == abs64 t)) with _ | _
          · rw [e] at hc; rw [← hc]; rfl
          · have hlx : letB r x = true := by
              simp only [Bool.and_eq_true] at e
              unfold letB
              rw [e.1.1, e.1.2]; rfl
            rw [e] at hc
            rw [whAt_rk q1 hlx (HP.out q1 q2)]
            exact hc
        rcases e1 : (x == 0) with _ | _
        · rcases e2 : inB x (wrap64 (-r)) r with _ | _
          · have F := Lib.hid (FA.out (key.out false (by rw [e2]; simp)))
            go_wp2
            go_quiet ((first | (go_at_call 74; first | exact quiet_left (l1In_any _ _ _ _) | exact quiet_add_left (l1In_any _ _ _ _)) | (go_at_call 76; first | exact quiet_left (l21Abs_any _ _) | exact quiet_add_left (l21Abs_any _ _)) | (go_at_call 131; first | exact quiet_left (l2Rank_any _ _) | exact quiet_add_left (l2Rank_any _ _))))
            go_wp2
            go_ret
            exact ⟨ret_bool F.out.symm, (by repeat (first | exact Below.refl _ _ | (refine Below.setCell ?_ (by first | omega | (simp <;> omega)) _) | (refine bel_drewN ?_ _) | (refine Below.drew ?_) | (refine Below.alloc ?_ (by first | omega | (simp <;> omega)) _)))⟩
          · rcases e3 : (abs64 x == abs64 t) with _ | _
            · rcases e4 : decide (rk x ≤ rk y) with _ | _
              · have F := Lib.hid (ST.out (key.out true (by rw [e2, e3, e4]; simp only [bne, e1]; rfl)))
                go_wp2
                go_quiet ((first | (go_at_call 74; first | exact quiet_left (l1In_any _ _ _ _) | exact quiet_add_left (l1In_any _ _ _ _)) | (go_at_call 76; first | exact quiet_left (l21Abs_any _ _) | exact quiet_add_left (l21Abs_any _ _)) | (go_at_call 131; first | exact quiet_left (l2Rank_any _ _) | exact quiet_add_left (l2Rank_any _ _))))
                go_wp2
                go_roundw
                case rel => exact ⟨k + 1, by omega, by go_num, F.out, _, rfl⟩
                case measure => simp [intOf]; omega
              · have F := Lib.hid (FA.out (key.out false (by rw [e4]; simp)))
                go_wp2
                go_quiet ((first | (go_at_call 74; first | exact quiet_left (l1In_any _ _ _ _) | exact quiet_add_left (l1In_any _ _ _ _)) | (go_at_call 76; first | exact quiet_left (l21Abs_any _ _) | exact quiet_add_left (l21Abs_any _ _)) | (go_at_call 131; first | exact quiet_left (l2Rank_any _ _) | exact quiet_add_left (l2Rank_any _ _))))
                go_wp2
                go_ret
                exact ⟨ret_bool F.out.symm, (by repeat (first | exact Below.refl _ _ | (refine Below.setCell ?_ (by first | omega | (simp <;> omega)) _) | (refine bel_drewN ?_ _) | (refine Below.drew ?_) | (refine Below.alloc ?_ (by first | omega | (simp <;> omega)) _)))⟩
            · have F := Lib.hid (FA.out (key.out false (by rw [e3]; simp)))
              go_wp2
              go_quiet ((first | (go_at_call 74; first | exact quiet_left (l1In_any _ _ _ _) | exact quiet_add_left (l1In_any _ _ _ _)) | (go_at_call 76; first | exact quiet_left (l21Abs_any _ _) | exact quiet_add_left (l21Abs_any _ _)) | (go_at_call 131; first | exact quiet_left (l2Rank_any _ _) | exact quiet_add_left (l2Rank_any _ _))))
              go_wp2
              go_ret
              exact ⟨ret_bool F.out.symm, (by repeat (first | exact Below.refl _ _ | (refine Below.setCell ?_ (by first | omega | (simp <;> omega)) _) | (refine bel_drewN ?_ _) | (refine Below.drew ?_) | (refine Below.alloc ?_ (by first | omega | (simp <;> omega)) _)))⟩
        · have F := Lib.hid (FA.out (key.out false (by simp only [bne, e1]; rfl)))
          go_wp2
          go_quiet ((first | (go_at_call 74; first | exact quiet_left (l1In_any _ _ _ _) | exact quiet_add_left (l1In_any _ _ _ _)) | (go_at_call 76; first | exact quiet_left (l21Abs_any _ _) | exact quiet_add_left (l21Abs_any _ _)) | (go_at_call 131; first | exact quiet_left (l2Rank_any _ _) | exact quiet_add_left (l2Rank_any _ _))))
          go_wp2
          go_ret
          exact ⟨ret_bool F.out.symm, (by repeat (first | exact Below.refl _ _ | (refine Below.setCell ?_ (by first | omega | (simp <;> omega)) _) | (refine bel_drewN ?_ _) | (refine Below.drew ?_) | (refine Below.alloc ?_ (by first | omega | (simp <;> omega)) _)))⟩
      · obtain rfl : k = 0 := by omega
        rw [Nat.add_zero] at hcell
        have HZ := Lib.hid (whAt_zero (r := r) (t := t) hlt)
        clear hc
        generalize hx : S[0] = x at hcell HZ
        clear hx
        have key : Hid (∀ c : Bool, ((x != 0) && inB x (wrap64 (-r)) r && !(abs64 x == abs64 t)) = c → inB r 1 3 = true → letB r t = true → whAt r t S 0 = c) := fun c hc q1 q2 => by
          rw [HZ.out, whAt_spec q1 q2]
          exact hc
        rcases e1 : (x == 0) with _ | _
        · rcases e2 : inB x (wrap64 (-r)) r with _ | _
          · have F := Lib.hid (FA.out (key.out false (by rw [e2]; simp)))
            go_wp2
            go_quiet ((first | (go_at_call 74; first | exact quiet_left (l1In_any _ _ _ _) | exact quiet_add_left (l1In_any _ _ _ _)) | (go_at_call 76; first | exact quiet_left (l21Abs_any _ _) | exact quiet_add_left (l21Abs_any _ _)) | (go_at_call 131; first | exact quiet_left (l2Rank_any _ _) | exact quiet_add_left (l2Rank_any _ _))))
            go_wp2
            go_ret
            exact ⟨ret_bool F.out.symm, (by repeat (first | exact Below.refl _ _ | (refine Below.setCell ?_ (by first | omega | (simp <;> omega)) _) | (refine bel_drewN ?_ _) | (refine Below.drew ?_) | (refine Below.alloc ?_ (by first | omega | (simp <;> omega)) _)))⟩
          · rcases e3 : (abs64 x == abs64 t) with _ | _
            · have F := Lib.hid (ST.out (key.out true (by rw [e2, e3]; simp only [bne, e1]; rfl)))
              go_wp2
              go_quiet ((first | (go_at_call 74; first | exact quiet_left (l1In_any _ _ _ _) | exact quiet_add_left (l1In_any _ _ _ _)) | (go_at_call 76; first | exact quiet_left (l21Abs_any _ _) | exact quiet_add_left (l21Abs_any _ _)) | (go_at_call 131; first | exact quiet_left (l2Rank_any _ _) | exact quiet_add_left (l2Rank_any _ _))))
              go_wp2
              go_roundw
              case rel => exact ⟨1, by omega, by go_num, F.out, _, rfl⟩
              case measure => simp [intOf]; omega
            · have F := Lib.hid (FA.out (key.out false (by rw [e3]; simp)))
              go_wp2
              go_quiet ((first | (go_at_call 74; first | exact quiet_left (l1In_any _ _ _ _) | exact quiet_add_left (l1In_any _ _ _ _)) | (go_at_call 76; first | exact quiet_left (l21Abs_any _ _) | exact quiet_add_left (l21Abs_any _ _)) | (go_at_call 131; first | exact quiet_left (l2Rank_any _ _) | exact quiet_add_left (l2Rank_any _ _))))
              go_wp2
              go_ret
              exact ⟨ret_bool F.out.symm, (by repeat (first | exact Below.refl _ _ | (refine Below.setCell ?_ (by first | omega | (simp <;> omega)) _) | (refine bel_drewN ?_ _) | (refine Below.drew ?_) | (refine Below.alloc ?_ (by first | omega | (simp <;> omega)) _)))⟩
        · have F := Lib.hid (FA.out (key.out false (by simp only [bne, e1]; rfl)))
          go_wp2
          go_quiet ((first | (go_at_call 74; first | exact quiet_left (l1In_any _ _ _ _) | exact quiet_add_left (l1In_any _ _ _ _)) | (go_at_call 76; first | exact quiet_left (l21Abs_any _ _) | exact quiet_add_left (l21Abs_any _ _)) | (go_at_call 131; first | exact quiet_left (l2Rank_any _ _) | exact quiet_add_left (l2Rank_any _ _))))
          go_wp2
          go_ret
          exact ⟨ret_bool F.out.symm, (by repeat (first | exact Below.refl _ _ | (refine Below.setCell ?_ (by first | omega | (simp <;> omega)) _) | (refine bel_drewN ?_ _) | (refine Below.drew ?_) | (refine Below.alloc ?_ (by first | omega | (simp <;> omega)) _)))⟩
    · obtain rfl : k = S.length := by omega
      rcases e1 : inB r 1 3 with _ | _
      · have F : Hid (whB r (t, S) = false) := Lib.hid (by unfold whB; rw [e1]; rfl)
        go_wp2_with (go_at_call 74; refine (l1In_any _ _ _ _).mono ?_; rintro e w' ⟨rfl, rfl⟩)
        go_ret
        exact ⟨ret_bool F.out.symm, (by repeat (first | exact Below.refl _ _ | (refine Below.setCell ?_ (by first | omega | (simp <;> omega)) _) | (refine bel_drewN ?_ _) | (refine Below.drew ?_) | (refine Below.alloc ?_ (by first | omega | (simp <;> omega)) _)))⟩
      · rcases e2 : (t != 0) with _ | _
        · have F : Hid (whB r (t, S) = false) := Lib.hid (by unfold whB letB; rw [e1, e2]; rfl)
          go_wp2_with (go_at_call 74; refine (l1In_any _ _ _ _).mono ?_; rintro e w' ⟨rfl, rfl⟩)
          go_ret
          exact ⟨ret_bool F.out.symm, (by repeat (first | exact Below.refl _ _ | (refine Below.setCell ?_ (by first | omega | (simp <;> omega)) _) | (refine bel_drewN ?_ _) | (refine Below.drew ?_) | (refine Below.alloc ?_ (by first | omega | (simp <;> omega)) _)))⟩
        · rcases e3 : inB t (wrap64 (-r)) r with _ | _
          · have F : Hid (whB r (t, S) = false) := Lib.hid (by unfold whB letB; rw [e1, e2, e3]; rfl)
            go_wp2_with (go_at_call 74; refine (l1In_any _ _ _ _).mono ?_; rintro e w' ⟨rfl, rfl⟩)
            go_ret
            exact ⟨ret_bool F.out.symm, (by repeat (first | exact Below.refl _ _ | (refine Below.setCell ?_ (by first | omega | (simp <;> omega)) _) | (refine bel_drewN ?_ _) | (refine Below.drew ?_) | (refine Below.alloc ?_ (by first | omega | (simp <;> omega)) _)))⟩
          · have F := Lib.hid (whB_true e1 (by unfold letB; rw [e2, e3]; rfl) (HOK.out e1 (by unfold letB; rw [e2, e3]; rfl)))
            go_wp2_with (go_at_call 74; refine (l1In_any _ _ _ _).mono ?_; rintro e w' ⟨rfl, rfl⟩)
            go_ret
            exact ⟨ret_bool F.out.symm, (by repeat (first | exact Below.refl _ _ | (refine Below.setCell ?_ (by first | omega | (simp <;> omega)) _) | (refine bel_drewN ?_ _) | (refine Below.drew ?_) | (refine Below.alloc ?_ (by first | omega | (simp <;> omega)) _)))⟩
end Go.Proofs.Ythdgcikdekkjkaa
