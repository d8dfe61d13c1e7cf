/- Exponent sums, of the reference and of the program. -/
import Derived.Test.YtjmjhhdjlompfaaNum
namespace Go.Proofs.Ytjmjhhdjlompfaa
set_option maxRecDepth 20000
set_option linter.unusedVariables false
set_option linter.unusedSimpArgs false
open Go.RowKit

def exp1 (r : Int) (acc : List Int) (x : Int) : List Int :=
  if 1 ≤ x ∧ x ≤ r then acc.set (x - 1).toNat (wrap64 (acc.getD (x - 1).toNat 0 + 1))
  else if -r ≤ x ∧ x ≤ -1 then acc.set (-x - 1).toNat (wrap64 (acc.getD (-x - 1).toNat 0 - 1)) else acc
def expF (r : Int) (xs : List Int) : List Int := xs.foldl (exp1 r) (List.replicate r.toNat 0)
def expS (r : Int) (xs : List Int) : List Int := if inB r 1 3 then expF r xs else []
theorem exp1_len (r : Int) (acc : List Int) (x : Int) : (exp1 r acc x).length = acc.length := by
  unfold exp1; split <;> (try split) <;> simp
theorem expF_len (r : Int) (xs : List Int) : (expF r xs).length = r.toNat := by
  unfold expF
  suffices h : ∀ (l acc : List Int), (l.foldl (exp1 r) acc).length = acc.length by rw [h]; simp
  intro l
  induction l with
  | nil => intro acc; rfl
  | cons x l ih => intro acc; rw [List.foldl_cons, ih, exp1_len]
theorem expF_succ (r : Int) (xs : List Int) (k : Nat) (h : k < xs.length) : expF r (xs.take (k + 1)) = exp1 r (expF r (xs.take k)) xs[k] := by
  unfold expF
  rw [List.take_succ_eq_append_getElem h, List.foldl_append]
  rfl
theorem exp1_pos {r : Int} {acc : List Int} {j : Nat} (h : (j : Int) + 1 ≤ r) (hj : j < acc.length) : exp1 r acc ((j : Int) + 1) = acc.set j (wrap64 (acc[j] + 1)) := by
  unfold exp1
  rw [if_pos ⟨by omega, h⟩]
  have : ((j : Int) + 1 - 1).toNat = j := by omega
  rw [this]
  simp [List.getD, hj]
theorem exp1_neg {r : Int} {acc : List Int} {j : Nat} (h : (j : Int) + 1 ≤ r) (hj : j < acc.length) : exp1 r acc (-((j : Int) + 1)) = acc.set j (wrap64 (acc[j] - 1)) := by
  unfold exp1
  rw [if_neg (by omega), if_pos ⟨by omega, by omega⟩]
  have : (- -((j : Int) + 1) - 1).toNat = j := by omega
  rw [this]
  simp [List.getD, hj]
theorem exp1_out {r x : Int} {acc : List Int} (h : ¬ (1 ≤ x ∧ x ≤ r)) (h' : ¬ (-r ≤ x ∧ x ≤ -1)) : exp1 r acc x = acc := by
  unfold exp1
  rw [if_neg h, if_neg h']
theorem I64_wrap' (x : Int) : I64 (wrap64 x) := by
  unfold I64 wrap64; omega
theorem expF_nil (r : Int) : expF r [] = List.replicate r.toNat 0 := rfl

theorem expS_len (r : Int) (xs : List Int) : (expS r xs).length ≤ 3 := by
  unfold expS
  split
  · rename_i h
    have := inB_iff.1 h
    rw [expF_len]
    omega
  · simp

/-! ## InDerived -/
def zeroL (xs : List Int) : Bool := xs.all (· == 0)
theorem zeroL_true {xs : List Int} (h : ∀ j (hj : j < xs.length), xs[j] = 0) : zeroL xs = true := by
  unfold zeroL
  simp
  intro x hx
  obtain ⟨j, hj, rfl⟩ := List.getElem_of_mem hx
  exact h j hj
theorem zeroL_false {xs : List Int} (i : Nat) (hi : i < xs.length) (h : xs[i] ≠ 0) : zeroL xs = false := by
  unfold zeroL
  simp
  exact ⟨xs[i], by simp, h⟩

set_option maxHeartbeats 400000 in
theorem l27Zero_any (v : Value) (xs : List Int) (w : World) (h : ArgI w v xs) (hl : xs.length ≤ 1073741824) :
    Calls Try.prog 33 #[v] w fun e w' => e = .returned (.bool (zeroL xs)) ∧ w = w' := by
  obtain ⟨A, cap, rfl, hcap, hm, hr, hb⟩ := h
  have HB := Lib.hid hb
  clear hr hb
  go_enter Try.func33, Try.ntmps33
  go_wp2
  go_loop [3] (fun i => ∃ k : Nat, k ≤ xs.length ∧ i = .int .i64 k ∧ (∀ j (hj : j < xs.length), j < k → xs[j] = 0)) (fun i => xs.length - (intOf i).toNat)
  case atStart => exact ⟨0, Nat.zero_le _, rfl, fun j hj h => absurd h (by omega)⟩
  case round =>
    obtain ⟨k, hk, rfl, hok⟩ := hrel
    have HOK := Lib.hid hok
    clear hok
    by_cases hlt : k < xs.length
    · obtain ⟨b, off, rfl, hc⟩ := HB.out (by omega)
      have hcell := hc k hlt
      have ST : Hid (xs[k] = 0 → ∀ j (hj : j < xs.length), j < k + 1 → xs[j] = 0) := fun F j hj hjk => by
        rcases Nat.lt_or_eq_of_le (Nat.le_of_lt_succ hjk) with h | rfl
        · exact HOK.out j hj h
        · exact F
      have FA : Hid (xs[k] ≠ 0 → zeroL xs = false) := fun F => zeroL_false k hlt F
      clear hc
      generalize hx : xs[k] = x at hcell ST FA
      clear hx
      rcases e1 : (x != 0) with _ | _
      · have F := Lib.hid (ST.out (by simpa using e1))
        go_wp2
        go_round
        case rel => exact ⟨k + 1, by omega, by go_num, F.out⟩
        case measure => simp [intOf]; omega
      · have F := Lib.hid (FA.out (by simpa using e1))
        go_wp2
        go_ret
        exact ⟨ret_bool F.out.symm, rfl⟩
    · obtain rfl : k = xs.length := by omega
      have F := Lib.hid (zeroL_true (fun j hj => HOK.out j hj hj))
      go_wp2
      go_ret
      exact ⟨ret_bool F.out.symm, rfl⟩
end Go.Proofs.Ytjmjhhdjlompfaa
