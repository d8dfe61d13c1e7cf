/- The order of words, of the reference and of the program. -/
import Derived.Test.YtnmkbkpegkchpaaCycP
import Derived.Outline
namespace Go.Proofs.Ytnmkbkpegkchpaa
set_option maxRecDepth 20000
set_option linter.unusedVariables false
set_option linter.unusedSimpArgs false
open Go.RowKit

set_option maxHeartbeats 1000000 in
theorem l2Order_any (a b : Int) (w : World) (ha : I64 a) (hb : I64 b) :
    Calls Try.prog 78 #[.int .i64 a, .int .i64 b] w fun e w' => e = .returned (.int .i64 (cmpL a b)) ∧ w = w' := by
  have ha1 := ha.1
  have ha2 := ha.2
  have hb1 := hb.1
  have hb2 := hb.2
  clear ha hb
  have HW := Lib.hid (show wrap64 9223372036854775808 = -9223372036854775808 by decide +kernel)
  rcases e1 : (a == b) with _ | _
  · have n1 : a ≠ b := by simpa using e1
    by_cases n2 : a = -9223372036854775808
    · subst n2
      have H : Hid (cmpL (-9223372036854775808) b = 1) := Lib.hid (by unfold cmpL; rw [if_neg n1]; rfl)
      clear n1
      have hw := HW.out
      go_enter Try.func78, Try.ntmps78
      go_wp2
      all_goals go_ret
      all_goals exact ⟨ret_int H.out.symm, rfl⟩
    · by_cases n3 : b = -9223372036854775808
      · subst n3
        have H : Hid (cmpL a (-9223372036854775808) = -1) := Lib.hid (by unfold cmpL; rw [if_neg n1, if_neg n2]; rfl)
        have ha3 : -9223372036854775808 < a := by omega
        clear n1 n2
        have hw := HW.out
        rcases Int.lt_or_le a 0 with sa | sa
        · have p1 : a < -a := by omega
          have p2 : decide (-a < 0) = false := by simp; omega
          have p3 : (-a == -9223372036854775808) = false := by simp; omega
          go_enter Try.func78, Try.ntmps78
          go_wp2
          all_goals go_ret
          all_goals exact ⟨ret_int H.out.symm, rfl⟩
        · have p1 : ¬ a < -a := by omega
          have p2 : decide (a < 0) = false := by simp; omega
          have p3 : (a == -9223372036854775808) = false := by simp; omega
          go_enter Try.func78, Try.ntmps78
          go_wp2
          all_goals go_ret
          all_goals exact ⟨ret_int H.out.symm, rfl⟩
      · have F : Hid (cmpL a b = if cmpI (max a (-a)) (max b (-b)) ≠ 0 then cmpI (max a (-a)) (max b (-b)) else cmpI b a) := Lib.hid (by unfold cmpL; rw [if_neg n1, if_neg n2, if_neg n3])
        have ha3 : -9223372036854775808 < a := by omega
        have hb3 : -9223372036854775808 < b := by omega
        have N1 := Lib.hid n1
        clear n1 n2 n3
        have hlt : ∀ x y : Int, x < y → cmpI x y = -1 := fun x y h => by unfold cmpI; rw [if_pos h]
        have hgt : ∀ x y : Int, y < x → cmpI x y = 1 := fun x y h => by unfold cmpI; rw [if_neg (by omega), if_pos h]
        have heq : ∀ x : Int, cmpI x x = 0 := fun x => by unfold cmpI; simp
        have fin : ∀ x y : Int, max a (-a) = x → max b (-b) = y → (x < y → cmpL a b = -1) ∧ (y < x → cmpL a b = 1) ∧ (x = y → a < b → cmpL a b = 1) ∧ (x = y → b < a → cmpL a b = -1) := fun x y h1 h2 => by
          rw [F.out, h1, h2]
          refine ⟨fun h => ?_, fun h => ?_, fun h h' => ?_, fun h h' => ?_⟩
          · rw [hlt _ _ h]; rfl
          · rw [hgt _ _ h]; rfl
          · rw [h, heq, if_neg (by simp), hgt _ _ h']
          · rw [h, heq, if_neg (by simp), hlt _ _ h']
        have FIN := Lib.hid fin
        clear fin hlt hgt heq F
        rcases Int.lt_or_le a 0 with sa | sa <;> rcases Int.lt_or_le b 0 with sb | sb
        · have p1 : a < -a := by omega
          have p2 : b < -b := by omega
          have G := Lib.hid (FIN.out (-a) (-b) (by omega) (by omega))
          rcases Int.lt_trichotomy (-a) (-b) with h | h | h
          · have g1 : decide (-b < -a) = false := by simp; omega
            have g2 : (-a == -b) = false := by simp; omega
            have g3 : decide (-a < 0) = false := by simp; omega
            have R := Lib.hid (G.out.1 h)
            go_enter Try.func78, Try.ntmps78
            go_wp2
            all_goals go_ret
            all_goals exact ⟨ret_int R.out.symm, rfl⟩
          · exact absurd (show a = b by omega) N1.out
          · have R := Lib.hid (G.out.2.1 h)
            have g1 : decide (-b < -a) = true := by simp; omega
            have g3 : decide (-a < 0) = false := by simp; omega
            have g4 : decide (0 ≤ -b) = true := by simp; omega
            go_enter Try.func78, Try.ntmps78
            go_wp2
            all_goals go_ret
            all_goals exact ⟨ret_int R.out.symm, rfl⟩
        · have p1 : a < -a := by omega
          have p2 : ¬ b < -b := by omega
          have G := Lib.hid (FIN.out (-a) b (by omega) (by omega))
          have g3 : decide (-a < 0) = false := by simp; omega
          have g4 : decide (0 ≤ b) = true := by simp; omega
          rcases Int.lt_trichotomy (-a) b with h | h | h
          · have g1 : decide (b < -a) = false := by simp; omega
            have g2 : (-a == b) = false := by simp; omega
            have R := Lib.hid (G.out.1 h)
            go_enter Try.func78, Try.ntmps78
            go_wp2
            all_goals go_ret
            all_goals exact ⟨ret_int R.out.symm, rfl⟩
          · have g1 : decide (b < -a) = false := by simp; omega
            have g2 : (-a == b) = true := by simp; omega
            have g5 : decide (a < b) = true := by simp; omega
            have R := Lib.hid (G.out.2.2.1 h (by omega))
            clear h
            go_enter Try.func78, Try.ntmps78
            go_wp2
            all_goals go_ret
            all_goals exact ⟨ret_int R.out.symm, rfl⟩
          · have g1 : decide (b < -a) = true := by simp; omega
            have R := Lib.hid (G.out.2.1 h)
            go_enter Try.func78, Try.ntmps78
            go_wp2
            all_goals go_ret
            all_goals exact ⟨ret_int R.out.symm, rfl⟩
        · have p1 : ¬ a < -a := by omega
          have p2 : b < -b := by omega
          have G := Lib.hid (FIN.out a (-b) (by omega) (by omega))
          have g3 : decide (a < 0) = false := by simp; omega
          have g4 : decide (0 ≤ -b) = true := by simp; omega
          rcases Int.lt_trichotomy a (-b) with h | h | h
          · have g1 : decide (-b < a) = false := by simp; omega
            have g2 : (a == -b) = false := by simp; omega
            have R := Lib.hid (G.out.1 h)
            go_enter Try.func78, Try.ntmps78
            go_wp2
            all_goals go_ret
            all_goals exact ⟨ret_int R.out.symm, rfl⟩
          · have g1 : decide (-b < a) = false := by simp; omega
            have g2 : (a == -b) = true := by simp; omega
            have g5 : decide (a < b) = false := by simp; omega
            have R := Lib.hid (G.out.2.2.2 h (by omega))
            clear h
            go_enter Try.func78, Try.ntmps78
            go_wp2
            all_goals go_ret
            all_goals exact ⟨ret_int R.out.symm, rfl⟩
          · have g1 : decide (-b < a) = true := by simp; omega
            have R := Lib.hid (G.out.2.1 h)
            go_enter Try.func78, Try.ntmps78
            go_wp2
            all_goals go_ret
            all_goals exact ⟨ret_int R.out.symm, rfl⟩
        · have p1 : ¬ a < -a := by omega
          have p2 : ¬ b < -b := by omega
          have G := Lib.hid (FIN.out a b (by omega) (by omega))
          have g3 : decide (a < 0) = false := by simp; omega
          have g4 : decide (0 ≤ b) = true := by simp; omega
          rcases Int.lt_trichotomy a b with h | h | h
          · have g1 : decide (b < a) = false := by simp; omega
            have R := Lib.hid (G.out.1 h)
            go_enter Try.func78, Try.ntmps78
            go_wp2
            all_goals go_ret
            all_goals exact ⟨ret_int R.out.symm, rfl⟩
          · exact absurd h N1.out
          · have g1 : decide (b < a) = true := by simp; omega
            have R := Lib.hid (G.out.2.1 h)
            go_enter Try.func78, Try.ntmps78
            go_wp2
            all_goals go_ret
            all_goals exact ⟨ret_int R.out.symm, rfl⟩
  · have H : Hid (cmpL a b = 0) := Lib.hid (by unfold cmpL; simp at e1; rw [if_pos e1])
    go_enter Try.func78, Try.ntmps78
    go_wp2
    all_goals go_ret
    all_goals exact ⟨ret_int H.out.symm, rfl⟩

theorem cmpW_len {a b : List Int} (h : a.length ≠ b.length) : cmpW a b = cmpI a.length b.length := by unfold cmpW; rw [if_neg h]
theorem cmpI_ne {a b : Int} (h : a ≠ b) : (cmpI a b != 0) = true := by
  unfold cmpI; split
  · rfl
  · split
    · rfl
    · omega
theorem cmpI_eq (a : Int) : cmpI a a = 0 := by unfold cmpI; simp
set_option maxHeartbeats 1000000 in
theorem specCompareWords_any (u v : Value) (a b : List Int) (w : World) (h : ArgI w u a) (h' : ArgI w v b) :
    Calls Try.prog 60 #[u, v] w fun e w' => e = .returned (.int .i64 (cmpW a b)) ∧ ∃ n, w' = w.drewN n := by
  obtain ⟨A, cap, rfl, hcap, hm, hr, hb⟩ := h
  obtain ⟨A', cap', rfl, hcap', hm', hr', hb'⟩ := h'
  unfold maxLen at hm hm'
  have HR := Lib.hid hr
  have HR' := Lib.hid hr'
  clear hr hr'
  by_cases hne : a.length = b.length
  · have hd : ((a.length : Int) != (b.length : Int)) = false := by simp [hne]
    have F : Hid (cmpW a b = cmpZ a b) := Lib.hid (by unfold cmpW; rw [if_pos hne])
    have HNE := Lib.hid hne
    clear hne
    go_enter Try.func60, Try.ntmps60
    go_wp2
    go_loopw [5] (fun i wr => ∃ k : Nat, k ≤ a.length ∧ i = .int .i64 k ∧ cmpZ (a.drop k) (b.drop k) = cmpZ a b ∧ ∃ n, wr = w.drewN n) (fun i _ => a.length - (intOf i).toNat)
    case atStart => exact ⟨0, Nat.zero_le _, rfl, rfl, 0, rfl⟩
    case round =>
      obtain ⟨k, hk, rfl, heq, n, rfl⟩ := hrel
      have HEQ := Lib.hid heq
      clear heq
      by_cases hlt : k < a.length
      · obtain ⟨b1, off, rfl, hc⟩ := hb (by omega)
        have hlt' : k < b.length := by have := HNE.out; omega
        obtain ⟨b', off', rfl, hc'⟩ := hb' (by omega)
        have hcell := hc k hlt
        have hcell' := hc' k hlt'
        have HS := Lib.hid (cmpZ_drop a b k hlt hlt')
        have HX := Lib.hid (HR.out a[k] (by simp))
        have HY := Lib.hid (HR'.out b[k] (by simp))
        clear hc hc' hb hb'
        generalize a[k] = x at hcell HS HX
        generalize b[k] = y at hcell' HS HY
        rcases e1 : (cmpL x y != 0) with _ | _
        · have e2 : cmpL x y = 0 := by simpa using e1
          have HS2 : Hid (cmpZ (a.drop (k + 1)) (b.drop (k + 1)) = cmpZ a b) := Lib.hid (by rw [← HEQ.out, HS.out, if_neg (by simp [e2])])
          have E2 := Lib.hid e2
          clear e2
          go_wp2
          go_quiet ((go_at_call 78; first | exact quiet_left (l2Order_any _ _ _ HX.out HY.out) | exact quiet_add_left (l2Order_any _ _ _ HX.out HY.out)))
          go_wp2
          go_roundw
          case rel => exact ⟨k + 1, by omega, by go_num, HS2.out, _, rfl⟩
          case measure => simp [intOf]; omega
        · have HS2 : Hid (cmpL x y = cmpW a b) := Lib.hid (by rw [F.out, ← HEQ.out, HS.out, if_pos (by simpa using e1)])
          go_wp2
          go_quiet ((go_at_call 78; first | exact quiet_left (l2Order_any _ _ _ HX.out HY.out) | exact quiet_add_left (l2Order_any _ _ _ HX.out HY.out)))
          go_wp2
          go_ret
          exact ⟨ret_int HS2.out, _, rfl⟩
      · obtain rfl : k = a.length := by omega
        have HZ : Hid (cmpW a b = 0) := Lib.hid (by rw [F.out, ← HEQ.out, cmpZ_end])
        go_wp2
        go_ret
        exact ⟨ret_int HZ.out.symm, n, rfl⟩
  · have hd : ((a.length : Int) != (b.length : Int)) = true := by simp; omega
    have F := Lib.hid (cmpW_len hne)
    rcases Nat.lt_or_ge a.length b.length with h | h
    · have hd2 : (a.length : Int) < (b.length : Int) := by omega
      have G : Hid (cmpW a b = -1) := Lib.hid (by rw [F.out]; unfold cmpI; rw [if_pos hd2])
      go_enter Try.func60, Try.ntmps60
      go_wp2
      go_ret
      exact ⟨ret_int G.out.symm, 0, rfl⟩
    · have hd2 : ¬ (a.length : Int) < (b.length : Int) := by omega
      have G : Hid (cmpW a b = 1) := Lib.hid (by rw [F.out]; unfold cmpI; rw [if_neg hd2, if_pos (by omega)])
      clear hne h
      go_enter Try.func60, Try.ntmps60
      go_wp2
      go_ret
      exact ⟨ret_int G.out.symm, 0, rfl⟩
set_option maxHeartbeats 1000000 in
theorem implCompareWords_any (u v : Value) (a b : List Int) (w : World) (h : ArgI w u a) (h' : ArgI w v b) :
    Calls Try.prog 50 #[u, v] w fun e w' => e = .returned (.int .i64 (cmpW a b)) ∧ ∃ n, w' = w.drewN n := by
  obtain ⟨A, cap, rfl, hcap, hm, hr, hb⟩ := h
  obtain ⟨A', cap', rfl, hcap', hm', hr', hb'⟩ := h'
  unfold maxLen at hm hm'
  have HR := Lib.hid hr
  have HR' := Lib.hid hr'
  clear hr hr'
  by_cases hne : a.length = b.length
  · have hd : (cmpI (a.length : Int) (b.length : Int) != 0) = false := by rw [hne, cmpI_eq]; rfl
    have F : Hid (cmpW a b = cmpZ a b) := Lib.hid (by unfold cmpW; rw [if_pos hne])
    have HNE := Lib.hid hne
    clear hne
    go_enter Try.func50, Try.ntmps50
    go_wp2_with (go_at_call 72; refine (compareInts_any _ _ _).mono ?_; rintro e w' ⟨rfl, rfl⟩)
    go_loopw [18] (fun i wr => ∃ k : Nat, k ≤ a.length ∧ i = .int .i64 k ∧ cmpZ (a.drop k) (b.drop k) = cmpZ a b ∧ ∃ n, wr = w.drewN n) (fun i _ => a.length - (intOf i).toNat)
    case atStart => exact ⟨0, Nat.zero_le _, rfl, rfl, 0, rfl⟩
    case round =>
      obtain ⟨k, hk, rfl, heq, n, rfl⟩ := hrel
      have HEQ := Lib.hid heq
      clear heq
      by_cases hlt : k < a.length
      · obtain ⟨b1, off, rfl, hc⟩ := hb (by omega)
        have hlt' : k < b.length := by have := HNE.out; omega
        obtain ⟨b', off', rfl, hc'⟩ := hb' (by omega)
        have hcell := hc k hlt
        have hcell' := hc' k hlt'
        have HS := Lib.hid (cmpZ_drop a b k hlt hlt')
        have HX := Lib.hid (HR.out a[k] (by simp))
        have HY := Lib.hid (HR'.out b[k] (by simp))
        clear hc hc' hb hb'
        generalize a[k] = x at hcell HS HX
        generalize b[k] = y at hcell' HS HY
        rcases e1 : (cmpL x y != 0) with _ | _
        · have e2 : cmpL x y = 0 := by simpa using e1
          have HS2 : Hid (cmpZ (a.drop (k + 1)) (b.drop (k + 1)) = cmpZ a b) := Lib.hid (by rw [← HEQ.out, HS.out, if_neg (by simp [e2])])
          have E2 := Lib.hid e2
          clear e2
          go_wp2
          go_quiet ((go_at_call 73; first | exact quiet_left (compareLetters_any _ _ _ HX.out HY.out) | exact quiet_add_left (compareLetters_any _ _ _ HX.out HY.out)))
          go_wp2
          go_roundw
          case rel => exact ⟨k + 1, by omega, by go_num, HS2.out, _, rfl⟩
          case measure => simp [intOf]; omega
        · have HS2 : Hid (cmpL x y = cmpW a b) := Lib.hid (by rw [F.out, ← HEQ.out, HS.out, if_pos (by simpa using e1)])
          go_wp2
          go_quiet ((go_at_call 73; first | exact quiet_left (compareLetters_any _ _ _ HX.out HY.out) | exact quiet_add_left (compareLetters_any _ _ _ HX.out HY.out)))
          go_wp2
          go_ret
          exact ⟨ret_int HS2.out, _, rfl⟩
      · obtain rfl : k = a.length := by omega
        have HZ : Hid (cmpW a b = 0) := Lib.hid (by rw [F.out, ← HEQ.out, cmpZ_end])
        go_wp2
        go_ret
        exact ⟨ret_int HZ.out.symm, n, rfl⟩
  · have hd : (cmpI (a.length : Int) (b.length : Int) != 0) = true := cmpI_ne (by omega)
    have F := Lib.hid (cmpW_len hne)
    go_enter Try.func50, Try.ntmps50
    go_wp2_with (go_at_call 72; refine (compareInts_any _ _ _).mono ?_; rintro e w' ⟨rfl, rfl⟩)
    go_ret
    exact ⟨ret_int F.out.symm, 0, rfl⟩
end Go.Proofs.Ytnmkbkpegkchpaa
