/- Is a letter in a list: the reference's loop, the library's slices.Contains. -/
import Derived.Test.YtnmkbkpegkchpaaBase
namespace Go.Proofs.Ytnmkbkpegkchpaa
set_option maxRecDepth 20000
set_option linter.unusedVariables false
set_option linter.unusedSimpArgs false
open Go.RowKit

def hasB (l : List Int) (x : Int) : Bool := l.any (· == x)
theorem hasB_no {l : List Int} {x : Int} (h : ∀ j (hj : j < l.length), l[j] ≠ x) : hasB l x = false := by
  unfold hasB
  rw [List.any_eq_false]
  intro y hy
  obtain ⟨j, hj, rfl⟩ := List.getElem_of_mem hy
  simpa using h j hj
theorem hasB_yes {l : List Int} {x : Int} (j : Nat) (hj : j < l.length) (h : l[j] = x) : hasB l x = true := by
  unfold hasB
  rw [List.any_eq_true]
  exact ⟨l[j], by simp, by simpa using h⟩
set_option maxHeartbeats 400000 in
theorem l4Has_any (v : Value) (xs : List Int) (x : Int) (w : World) (h : ArgI w v xs) (hl : xs.length ≤ 1073741824) :
    Calls Try.prog 26 #[v, .int .i64 x] w fun e w' => e = .returned (.bool (hasB xs x)) ∧ w = w' := by
  obtain ⟨A, cap, rfl, hcap, hm, hr, hb⟩ := h
  have HB := Lib.hid hb
  clear hb hr
  go_enter Try.func26, Try.ntmps26
  go_wp2
  go_loop [5] (fun i => ∃ k : Nat, k ≤ xs.length ∧ i = .int .i64 k ∧ ∀ j (hj : j < xs.length), j < k → xs[j] ≠ x) (fun i => xs.length - (intOf i).toNat)
  case atStart => exact ⟨0, Nat.zero_le _, rfl, fun j hj h => absurd h (by omega)⟩
  case round =>
    obtain ⟨k, hk, rfl, hno⟩ := hrel
    have HNO := Lib.hid hno
    clear hno
    by_cases hlt : k < xs.length
    · obtain ⟨b, off, rfl, hc⟩ := HB.out (by omega)
      have hcell := hc k hlt
      have HY := Lib.hid (fun e => hasB_yes (x := x) k hlt e)
      have HN : Hid (xs[k] ≠ x → ∀ j (hj : j < xs.length), j < k + 1 → xs[j] ≠ x) := Lib.hid fun e j hj hjk => by
        rcases Nat.lt_or_eq_of_le (Nat.le_of_lt_succ hjk) with h | rfl
        · exact HNO.out j hj h
        · exact e
      clear hc
      generalize xs[k] = y at hcell HY HN
      rcases e1 : (y == x) with _ | _
      · have F := Lib.hid (HN.out (by simpa using e1))
        go_wp2
        go_round
        case rel => exact ⟨k + 1, by omega, by go_num, F.out⟩
        case measure => simp [intOf]; omega
      · have F := Lib.hid (HY.out (by simpa using e1))
        go_wp2
        go_ret
        exact ⟨ret_bool F.out.symm, rfl⟩
    · obtain rfl : k = xs.length := by omega
      have F := Lib.hid (hasB_no fun j hj => HNO.out j hj hj)
      go_wp2
      go_ret
      exact ⟨ret_bool F.out.symm, rfl⟩
def atB (xs : List Int) (x : Int) (n : Int) : Prop := decide (0 ≤ n) = hasB xs x
set_option maxHeartbeats 400000 in
theorem libIndex_any (v : Value) (xs : List Int) (x : Int) (w : World) (h : ArgI w v xs) (hl : xs.length ≤ 1073741824) :
    Calls Try.prog 51 #[v, .int .i64 x] w fun e w' => ∃ n : Int, e = .returned (.int .i64 n) ∧ atB xs x n ∧ w = w' := by
  obtain ⟨A, cap, rfl, hcap, hm, hr, hb⟩ := h
  have HB := Lib.hid hb
  clear hb hr
  go_enter Try.func51, Try.ntmps51
  go_wp2
  go_loop [8] (fun i => ∃ k : Nat, k ≤ xs.length ∧ i = .int .i64 k ∧ ∀ j (hj : j < xs.length), j < k → xs[j] ≠ x) (fun i => xs.length - (intOf i).toNat)
  case atStart => exact ⟨0, Nat.zero_le _, rfl, fun j hj h => absurd h (by omega)⟩
  case round =>
    obtain ⟨k, hk, rfl, hno⟩ := hrel
    have HNO := Lib.hid hno
    clear hno
    by_cases hlt : k < xs.length
    · obtain ⟨b, off, rfl, hc⟩ := HB.out (by omega)
      have hcell := hc k hlt
      have HY := Lib.hid (fun e => hasB_yes (x := x) k hlt e)
      have HN : Hid (xs[k] ≠ x → ∀ j (hj : j < xs.length), j < k + 1 → xs[j] ≠ x) := Lib.hid fun e j hj hjk => by
        rcases Nat.lt_or_eq_of_le (Nat.le_of_lt_succ hjk) with h | rfl
        · exact HNO.out j hj h
        · exact e
      clear hc
      generalize xs[k] = y at hcell HY HN
      rcases e1 : (x == y) with _ | _
      · have F := Lib.hid (HN.out (by simp at e1; exact fun h => e1 h.symm))
        go_wp2
        go_round
        case rel => exact ⟨k + 1, by omega, by go_num, F.out⟩
        case measure => simp [intOf]; omega
      · have F := Lib.hid (HY.out (by simp at e1; exact e1.symm))
        go_wp2
        go_ret
        exact ⟨_, rfl, by unfold atB; rw [F.out]; simp, rfl⟩
    · obtain rfl : k = xs.length := by omega
      have F := Lib.hid (hasB_no fun j hj => HNO.out j hj hj)
      go_wp2
      go_ret
      exact ⟨_, rfl, by unfold atB; rw [F.out]; simp, rfl⟩
set_option maxHeartbeats 400000 in
theorem libContains_any (v : Value) (xs : List Int) (x : Int) (w : World) (h : ArgI w v xs) (hl : xs.length ≤ 1073741824) :
    Calls Try.prog 30 #[v, .int .i64 x] w fun e w' => e = .returned (.bool (hasB xs x)) ∧ w = w' := by
  have H := Lib.hid h
  clear h
  go_enter Try.func30, Try.ntmps30
  go_wp2_with (go_at_call 51; refine (libIndex_any _ xs x _ H.out hl).mono ?_; rintro e w' ⟨n, rfl, hn, rfl⟩; have HN := Lib.hid hn; clear hn)
  go_ret
  exact ⟨ret_bool HN.out, rfl⟩
end Go.Proofs.Ytnmkbkpegkchpaa
