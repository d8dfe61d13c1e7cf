/- Comparing numbers and letters (shared by the texts on words and on graphs). -/
import Derived.Test.YtnmkbkpegkchpaaNum
namespace Go.Proofs.Ytnmkbkpegkchpaa
set_option maxRecDepth 20000
set_option linter.unusedVariables false
set_option linter.unusedSimpArgs false
open Go.RowKit

def cmpI (a b : Int) : Int := if a < b then -1 else if b < a then 1 else 0
def cmpL (a b : Int) : Int :=
  if a = b then 0 else if a = -9223372036854775808 then 1 else if b = -9223372036854775808 then -1
  else if cmpI (max a (-a)) (max b (-b)) ≠ 0 then cmpI (max a (-a)) (max b (-b)) else cmpI b a
def rk (x : Int) : Int := if x < 0 then wrap64 (wrap64 (-2 * x) - 1) else wrap64 (wrap64 (2 * x) - 2)
theorem rk_small {x : Int} (h1 : -3 ≤ x) (h2 : x ≤ 3) : rk x = if x < 0 then -2 * x - 1 else 2 * x - 2 := by
  unfold rk
  split
  · rw [IntWalk.wrap64_in (-2 * x) ⟨by omega, by omega⟩]
    exact IntWalk.wrap64_in _ ⟨by omega, by omega⟩
  · rw [IntWalk.wrap64_in (2 * x) ⟨by omega, by omega⟩]
    exact IntWalk.wrap64_in _ ⟨by omega, by omega⟩
theorem rk_cmp {a b : Int} (h1 : -3 ≤ a) (h2 : a ≤ 3) (h3 : a ≠ 0) (h4 : -3 ≤ b) (h5 : b ≤ 3) (h6 : b ≠ 0) : rk b ≤ rk a ↔ 0 ≤ cmpL a b := by
  rw [rk_small h1 h2, rk_small h4 h5]
  unfold cmpL cmpI
  repeat' split
  all_goals omega

set_option maxHeartbeats 400000 in
theorem l2Rank_any (x : Int) (w : World) :
    Calls Try.prog 92 #[.int .i64 x] w fun e w' => e = .returned (.int .i64 (rk x)) ∧ w = w' := by
  go_enter Try.func92, Try.ntmps92
  go_wp2
  all_goals go_ret
  all_goals (refine ⟨?_, rfl⟩; unfold rk; simp_all)
  omega
set_option maxHeartbeats 400000 in
theorem compareInts_any (a b : Int) (w : World) :
    Calls Try.prog 72 #[.int .i64 a, .int .i64 b] w fun e w' => e = .returned (.int .i64 (cmpI a b)) ∧ w = w' := by
  rcases Int.lt_trichotomy a b with h | h | h
  · go_enter Try.func72, Try.ntmps72
    go_wp2
    go_ret
    exact ⟨ret_int (by unfold cmpI; rw [if_pos h]), rfl⟩
  · subst h
    go_enter Try.func72, Try.ntmps72
    go_wp2
    go_ret
    exact ⟨ret_int (by unfold cmpI; simp), rfl⟩
  · have h' : ¬ a < b := by omega
    go_enter Try.func72, Try.ntmps72
    go_wp2
    go_ret
    exact ⟨ret_int (by unfold cmpI; rw [if_neg (by omega), if_pos h]), rfl⟩
theorem max_neg_form (a : Int) (h : a ≠ -9223372036854775808) (ha : I64 a) : ∃ m, m = max a (-a) := ⟨_, rfl⟩
set_option maxHeartbeats 1000000 in
theorem compareLetters_any (a b : Int) (w : World) (ha : I64 a) (hb : I64 b) :
    Calls Try.prog 73 #[.int .i64 a, .int .i64 b] w fun e w' => e = .returned (.int .i64 (cmpL a b)) ∧ w = w' := by
  have ha1 := ha.1
  have ha2 := ha.2
  have hb1 := hb.1
  have hb2 := hb.2
  clear ha hb
  rcases e1 : (a == b) with _ | _
  · rcases e2 : (a == -9223372036854775808) with _ | _
    · rcases e3 : (b == -9223372036854775808) with _ | _
      · have n1 : a ≠ b := by simpa using e1
        have n2 : a ≠ -9223372036854775808 := by simpa using e2
        have n3 : b ≠ -9223372036854775808 := by simpa using e3
        have F : Hid (cmpL a b = if cmpI (max a (-a)) (max b (-b)) ≠ 0 then cmpI (max a (-a)) (max b (-b)) else cmpI b a) := Lib.hid (by unfold cmpL; rw [if_neg n1, if_neg n2, if_neg n3])
        have ha3 : -9223372036854775808 < a := by omega
        have hb3 : -9223372036854775808 < b := by omega
        clear n1 n2 n3
        rcases Int.lt_or_le a 0 with sa | sa <;> rcases Int.lt_or_le b 0 with sb | sb
        · have m1 : Hid (max a (-a) = -a) := Lib.hid (by omega)
          have m2 : Hid (max b (-b) = -b) := Lib.hid (by omega)
          have G := F.out
          rw [m1.out, m2.out] at G
          have FG := Lib.hid G
          clear G F
          have p1 : a < -a := by omega
          have p2 : b < -b := by omega
          rcases e4 : (cmpI (-a) (-b) != 0) with _ | _
          · have H : Hid (cmpL a b = cmpI b a) := Lib.hid (by rw [FG.out, if_neg (by simpa using e4)])
            go_enter Try.func73, Try.ntmps73
            go_wp2_with (go_at_call 72; refine (compareInts_any _ _ _).mono ?_; rintro e w' ⟨rfl, rfl⟩)
            go_ret
            exact ⟨ret_int H.out.symm, rfl⟩
          · have H : Hid (cmpL a b = cmpI (-a) (-b)) := Lib.hid (by rw [FG.out, if_pos (by simpa using e4)])
            go_enter Try.func73, Try.ntmps73
            go_wp2_with (go_at_call 72; refine (compareInts_any _ _ _).mono ?_; rintro e w' ⟨rfl, rfl⟩)
            go_ret
            exact ⟨ret_int H.out.symm, rfl⟩
        · have m1 : Hid (max a (-a) = -a) := Lib.hid (by omega)
          have m2 : Hid (max b (-b) = b) := Lib.hid (by omega)
          have G := F.out
          rw [m1.out, m2.out] at G
          have FG := Lib.hid G
          clear G F
          have p1 : a < -a := by omega
          have p2 : ¬ b < -b := by omega
          rcases e4 : (cmpI (-a) (b) != 0) with _ | _
          · have H : Hid (cmpL a b = cmpI b a) := Lib.hid (by rw [FG.out, if_neg (by simpa using e4)])
            go_enter Try.func73, Try.ntmps73
            go_wp2_with (go_at_call 72; refine (compareInts_any _ _ _).mono ?_; rintro e w' ⟨rfl, rfl⟩)
            go_ret
            exact ⟨ret_int H.out.symm, rfl⟩
          · have H : Hid (cmpL a b = cmpI (-a) (b)) := Lib.hid (by rw [FG.out, if_pos (by simpa using e4)])
            go_enter Try.func73, Try.ntmps73
            go_wp2_with (go_at_call 72; refine (compareInts_any _ _ _).mono ?_; rintro e w' ⟨rfl, rfl⟩)
            go_ret
            exact ⟨ret_int H.out.symm, rfl⟩
        · have m1 : Hid (max a (-a) = a) := Lib.hid (by omega)
          have m2 : Hid (max b (-b) = -b) := Lib.hid (by omega)
          have G := F.out
          rw [m1.out, m2.out] at G
          have FG := Lib.hid G
          clear G F
          have p1 : ¬ a < -a := by omega
          have p2 : b < -b := by omega
          rcases e4 : (cmpI (a) (-b) != 0) with _ | _
          · have H : Hid (cmpL a b = cmpI b a) := Lib.hid (by rw [FG.out, if_neg (by simpa using e4)])
            go_enter Try.func73, Try.ntmps73
            go_wp2_with (go_at_call 72; refine (compareInts_any _ _ _).mono ?_; rintro e w' ⟨rfl, rfl⟩)
            go_ret
            exact ⟨ret_int H.out.symm, rfl⟩
          · have H : Hid (cmpL a b = cmpI (a) (-b)) := Lib.hid (by rw [FG.out, if_pos (by simpa using e4)])
            go_enter Try.func73, Try.ntmps73
            go_wp2_with (go_at_call 72; refine (compareInts_any _ _ _).mono ?_; rintro e w' ⟨rfl, rfl⟩)
            go_ret
            exact ⟨ret_int H.out.symm, rfl⟩
        · have m1 : Hid (max a (-a) = a) := Lib.hid (by omega)
          have m2 : Hid (max b (-b) = b) := Lib.hid (by omega)
          have G := F.out
          rw [m1.out, m2.out] at G
          have FG := Lib.hid G
          clear G F
          have p1 : ¬ a < -a := by omega
          have p2 : ¬ b < -b := by omega
          rcases e4 : (cmpI (a) (b) != 0) with _ | _
          · have H : Hid (cmpL a b = cmpI b a) := Lib.hid (by rw [FG.out, if_neg (by simpa using e4)])
            go_enter Try.func73, Try.ntmps73
            go_wp2_with (go_at_call 72; refine (compareInts_any _ _ _).mono ?_; rintro e w' ⟨rfl, rfl⟩)
            go_ret
            exact ⟨ret_int H.out.symm, rfl⟩
          · have H : Hid (cmpL a b = cmpI (a) (b)) := Lib.hid (by rw [FG.out, if_pos (by simpa using e4)])
            go_enter Try.func73, Try.ntmps73
            go_wp2_with (go_at_call 72; refine (compareInts_any _ _ _).mono ?_; rintro e w' ⟨rfl, rfl⟩)
            go_ret
            exact ⟨ret_int H.out.symm, rfl⟩
      · have H : Hid (cmpL a b = -1) := Lib.hid (by unfold cmpL; simp at e1 e2 e3; rw [if_neg e1, if_neg e2, if_pos e3])
        go_enter Try.func73, Try.ntmps73
        go_wp2
        go_ret
        exact ⟨ret_int H.out.symm, rfl⟩
    · have H : Hid (cmpL a b = 1) := Lib.hid (by unfold cmpL; simp at e1 e2; rw [if_neg e1, if_pos e2])
      go_enter Try.func73, Try.ntmps73
      go_wp2
      go_ret
      exact ⟨ret_int H.out.symm, rfl⟩
  · have H : Hid (cmpL a b = 0) := Lib.hid (by unfold cmpL; simp at e1; rw [if_pos e1])
    go_enter Try.func73, Try.ntmps73
    go_wp2
    go_ret
    exact ⟨ret_int H.out.symm, rfl⟩
end Go.Proofs.Ytnmkbkpegkchpaa
