/- Equations: UnknownSum, IsEquation of the reference and of the program. -/
import Derived.Test.YtgoghkboklehnaaBase
namespace Go.Proofs.Ytgoghkboklehnaa
set_option maxRecDepth 20000
set_option linter.unusedVariables false
set_option linter.unusedSimpArgs false
open Go.RowKit

def us1 (n x : Int) : Int := if x = 9 then n + 1 else if x = -9 then n - 1 else n
def usum (xs : List Int) : Int := xs.foldl us1 0
theorem usum_bd (xs : List Int) : -(xs.length : Int) ≤ usum xs ∧ usum xs ≤ xs.length := by
  suffices h : ∀ (l : List Int) (a : Int), a - l.length ≤ l.foldl us1 a ∧ l.foldl us1 a ≤ a + l.length by have := h xs 0; unfold usum; omega
  intro l
  induction l with
  | nil => intro a; simp
  | cons x l ih =>
    intro a
    have := ih (us1 a x)
    have h1 : a - 1 ≤ us1 a x ∧ us1 a x ≤ a + 1 := by unfold us1; split <;> (try split) <;> omega
    simp only [List.foldl_cons, List.length_cons]
    omega
theorem usum_succ (xs : List Int) (k : Nat) (h : k < xs.length) : usum (xs.take (k + 1)) = us1 (usum (xs.take k)) xs[k] := by
  unfold usum
  rw [List.take_succ_eq_append_getElem h, List.foldl_append]
  rfl

set_option maxHeartbeats 400000 in
theorem specUnknownSum_any (v : Value) (xs : List Int) (w : World) (h : ArgI w v xs) (hl : xs.length ≤ 1048576) :
    Calls Try.prog 12 #[v] w fun e w' => e = .returned (.int .i64 (usum xs)) ∧ w = w' := by
  obtain ⟨A, cap, rfl, hcap, hm, hr, hb⟩ := h
  go_enter Try.func12, Try.ntmps12
  go_wp2
  go_loop [3, 4] (fun n i => ∃ k : Nat, k ≤ xs.length ∧ i = .int .i64 k ∧ n = .int .i64 (usum (xs.take k))) (fun _ i => xs.length - (intOf i).toNat)
  case atStart => exact ⟨0, Nat.zero_le _, rfl, rfl⟩
  case round =>
    obtain ⟨k, hk, rfl, rfl⟩ := hrel
    by_cases hlt : k < xs.length
    · obtain ⟨b, off, rfl, hc⟩ := hb (by omega)
      have hcell := hc k hlt
      have hu := usum_bd (xs.take k)
      have hl' : (xs.take k).length ≤ k := List.length_take_le _ _
      have HS := Lib.hid (usum_succ xs k hlt)
      clear hc hb
      go_wp2
      all_goals
        go_round
        case rel => exact ⟨k + 1, by omega, by go_num, by rw [HS.out]; unfold us1; simp_all⟩
        case measure => simp [intOf]; omega
    · obtain rfl : k = xs.length := by omega
      go_wp2
      go_ret
      exact ⟨by simp, rfl⟩

set_option maxHeartbeats 400000 in
theorem implUnknownSum_any (v : Value) (xs : List Int) (w : World) (h : ArgI w v xs) (hl : xs.length ≤ 1048576) :
    Calls Try.prog 11 #[v] w fun e w' => e = .returned (.int .i64 (usum xs)) ∧ w = w' := by
  obtain ⟨A, cap, rfl, hcap, hm, hr, hb⟩ := h
  go_enter Try.func11, Try.ntmps11
  go_wp2
  go_loop [3, 8] (fun n i => ∃ k : Nat, k ≤ xs.length ∧ i = .int .i64 k ∧ n = .int .i64 (usum (xs.take k))) (fun _ i => xs.length - (intOf i).toNat)
  case atStart => exact ⟨0, Nat.zero_le _, rfl, rfl⟩
  case round =>
    obtain ⟨k, hk, rfl, rfl⟩ := hrel
    by_cases hlt : k < xs.length
    · obtain ⟨b, off, rfl, hc⟩ := hb (by omega)
      have hcell := hc k hlt
      have hu := usum_bd (xs.take k)
      have hl' : (xs.take k).length ≤ k := List.length_take_le _ _
      have HS := Lib.hid (usum_succ xs k hlt)
      clear hc hb
      go_wp2
      all_goals
        go_round
        case rel => exact ⟨k + 1, by omega, by go_num, by rw [HS.out]; unfold us1; simp_all⟩
        case measure => simp [intOf]; omega
    · obtain rfl : k = xs.length := by omega
      go_wp2
      go_ret
      exact ⟨by simp, rfl⟩

end Go.Proofs.Ytgoghkboklehnaa
