/- Small functions of the Hermite form: pivots, quotients, a row taken from another. -/
import Derived.Test.YtnnckojpmnpgbaaHerT
import Derived.Test.YtnnckojpmnpgbaaHL
import Derived.BigQuiet
namespace Go.Proofs.Ytnnckojpmnpgbaa
set_option maxRecDepth 20000
set_option linter.unusedVariables false
set_option linter.unusedSimpArgs false
open Go.RowKit

theorem piv_drop {xs : List Int} {k : Nat} (hk : k < xs.length) : pivF (xs.drop k) = if xs[k] ≠ 0 then 0 else pivF (xs.drop (k + 1)) + 1 := by
  rw [List.drop_eq_getElem_cons hk]
  rfl
set_option maxHeartbeats 400000 in
theorem pivot_any (v : Value) (xs : List Int) (w : World) (h : RdI w v xs) (hl : xs.length ≤ 1073741824) :
    Calls Try.prog 28 #[v] w fun e w' => e = .returned (.int .i64 (pivF xs)) ∧ w = w' := by
  have H := Lib.hid h
  obtain ⟨A, cap, rfl, hcap, hm, _⟩ := h.arg
  clear h
  have HP : Hid (pivF xs = pivF (xs.drop 0) + 0) := Lib.hid rfl
  generalize pivF xs = P at *
  go_enter Try.func28, Try.ntmps28
  go_wp2
  go_loop [7] (fun i => ∃ k : Nat, k ≤ xs.length ∧ i = .int .i64 k ∧ P = pivF (xs.drop k) + k) (fun i => xs.length - (intOf i).toNat)
  case atStart => exact ⟨0, Nat.zero_le _, rfl, HP.out⟩
  case round =>
    obtain ⟨k, hk, rfl, hP⟩ := hrel
    have HPK := Lib.hid hP
    clear hP
    by_cases hlt : k < xs.length
    · obtain ⟨b, off, rfl, hbl, hc⟩ := H.out.at (by omega)
      have hcell := hc k hlt
      have hd := piv_drop hlt
      clear hc
      have HD := Lib.hid hd
      clear hd
      generalize xs[k] = x at *
      rcases e1 : (x != 0) with _ | _
      · have F : Hid (P = pivF (xs.drop (k + 1)) + (k + 1)) := Lib.hid (by rw [HPK.out, HD.out, if_neg (by simpa using e1)]; omega)
        go_wp2
        go_round
        case rel => exact ⟨k + 1, by omega, by go_num, F.out⟩
        case measure => simp [intOf]; omega
      · have F : Hid (P = k) := Lib.hid (by rw [HPK.out, HD.out, if_pos (by simpa using e1)]; omega)
        go_wp2
        go_ret
        exact ⟨ret_int (by rw [F.out]), rfl⟩
    · obtain rfl : k = xs.length := by omega
      have F : Hid (P = xs.length) := Lib.hid (by rw [HPK.out, List.drop_length]; simp [pivF])
      go_wp2
      go_ret
      exact ⟨ret_int (by rw [F.out]), rfl⟩
set_option maxHeartbeats 400000 in
theorem abs_any (x : Int) (w : World) (h : I64 x) :
    Calls Try.prog 40 #[.int .i64 x] w fun e w' => e = .returned (.int .i64 (abs64 x)) ∧ w = w' := by
  have HA : Hid (max x (wrap64 (-x)) = abs64 x) := Lib.hid (by
    unfold abs64
    by_cases hm : x = -9223372036854775808
    · subst hm
      have e : wrap64 (- -9223372036854775808) = -9223372036854775808 := by unfold wrap64; decide
      rw [e]; decide
    · rw [I64.neg h hm]
      split <;> omega)
  have H := Lib.hid h
  clear h
  go_enter Try.func40, Try.ntmps40
  go_wp2
  all_goals go_ret
  all_goals (refine ⟨?_, rfl⟩; rw [← HA.out]; simp_all <;> omega)
set_option maxHeartbeats 400000 in
theorem floor_any (a b : Int) (w : World) (hb : 0 < b) :
    Calls Try.prog 41 #[.int .i64 a, .int .i64 b] w fun e w' => e = .returned (.int .i64 (floorW a b)) ∧ w = w' := by
  have hb0 : ¬ b = 0 := by omega
  have hb1 : ¬ b = -1 := by omega
  have HF : Hid (floorW a b = if Int.tmod a b < 0 then wrap64 (quoW a b - 1) else quoW a b) := Lib.hid rfl
  have HQ : Hid (quoW a b = wrap64 (Int.tdiv a b)) := Lib.hid rfl
  generalize floorW a b = F at *
  go_enter Try.func41, Try.ntmps41
  rcases e1 : decide (Int.tmod a b < 0) with _ | _
  · have HF' : Hid (F = quoW a b) := Lib.hid (by rw [HF.out, if_neg (by simpa using e1)])
    go_wp2
    go_ret
    exact ⟨ret_int (by rw [HF'.out, HQ.out]), rfl⟩
  · have HF' : Hid (F = wrap64 (quoW a b - 1)) := Lib.hid (by rw [HF.out, if_pos (by simpa using e1)])
    go_wp2
    go_ret
    exact ⟨ret_int (by rw [HF'.out, HQ.out]), rfl⟩
end Go.Proofs.Ytnnckojpmnpgbaa
