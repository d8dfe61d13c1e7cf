/- The letters of a rank, of the reference and of the program. -/
import Derived.Test.YtgoghkboklehnaaBase
namespace Go.Proofs.Ytgoghkboklehnaa
set_option maxRecDepth 20000
set_option linter.unusedVariables false
set_option linter.unusedSimpArgs false
open Go.RowKit

def lettersL : Nat → List Int
  | 0 => []
  | n + 1 => lettersL n ++ [((n : Nat) : Int) + 1, -(((n : Nat) : Int) + 1)]
theorem lettersL_len (n : Nat) : (lettersL n).length = 2 * n := by
  induction n with
  | zero => rfl
  | succ n ih => simp [lettersL, ih]; omega
theorem lettersL_mem {n : Nat} {x : Int} (h : x ∈ lettersL n) : (1 ≤ x ∧ x ≤ n) ∨ (1 ≤ -x ∧ -x ≤ n) := by
  induction n with
  | zero => cases h
  | succ n ih =>
    simp only [lettersL, List.mem_append, List.mem_cons, List.not_mem_nil, or_false] at h
    rcases h with h | h | h
    · have := ih h; omega
    · omega
    · omega
theorem lettersL_I64 {n : Nat} (hn : n ≤ 1073741824) : I64s (lettersL n) := fun x hx => by
  have := lettersL_mem hx
  unfold I64; omega

set_option maxHeartbeats 1000000 in
theorem l5Letters_any (n : Nat) (w : World) (hn : n ≤ 1073741824) :
    Calls Try.prog 64 #[.int .i64 n] w fun e w' => ∃ r, e = .returned r ∧ OwI w' w.heap.size r (lettersL n) ∧ Below w.heap.size w w' := by
  go_enter Try.func64, Try.ntmps64
  go_wp2
  go_loopw [3, 4] (fun out i wr => ∃ k : Nat, k ≤ n ∧ i = .int .i64 (k + 1) ∧ OwI wr w.heap.size out (lettersL k) ∧ Below w.heap.size w wr)
    (fun _ i _ => n + 1 - (intOf i).toNat)
  case atStart => exact ⟨0, Nat.zero_le _, rfl, OwI_lit _ [] I64s_nil (by simp) (Nat.le_refl _), (Below.refl _ _).alloc (Nat.le_refl _) _⟩
  case round =>
    obtain ⟨k, hk, rfl, hown, hbel⟩ := hrel
    have hsz := hbel.size
    have hal := lettersL_len k
    by_cases hlt : k < n
    · have HS : Hid (lettersL (k + 1) = lettersL k ++ [(k : Int) + 1, -((k : Int) + 1)]) := Lib.hid rfl
      generalize lettersL k = acc at hown HS hal
      have HO := Lib.hid hown
      obtain ⟨A1, cap1, rfl, hcap1, hm1, _, _⟩ := hown.form
      clear hown
      have HX : Hid (I64 ((k : Int) + 1)) := Lib.hid ⟨by omega, by omega⟩
      have HY : Hid (I64 (-((k : Int) + 1))) := Lib.hid ⟨by omega, by omega⟩
      go_wp2_with (first | ((at_builtin; refine push_int rfl (.tmp 11) (.tmp 13) rfl _ _ _ (OwI.alloc HO.out _) rfl _ _ rfl (cell_new1 _ _ _) HX.out (by first | omega | (simp <;> omega)) (by first | omega | (simp <;> omega)) ?_; intro v1 wv1 o1 g1 p1); have hz1 := g1.size; simp at hz1) | (at_builtin; refine push_int rfl (.tmp 15) (.tmp 18) rfl _ _ _ (OwI.alloc o1 _) rfl _ _ rfl (cell_new1 _ _ _) HY.out (by first | omega | (simp <;> omega)) (by first | omega | (simp <;> omega)) ?_; intro v2 wv2 o2 g2 p2))
      go_roundw
      case rel =>
        have hb1 := bel_push hbel hsz HO.out.1 (Nat.le_refl _) g1
        exact ⟨k + 1, by omega, by go_num, by rw [HS.out]; simpa using o2, bel_push hb1 hb1.size o1.1 (Nat.le_refl _) g2⟩
      case measure => simp [intOf]; omega
    · obtain rfl : k = n := by omega
      go_wp2
      go_ret
      exact ⟨_, rfl, hown, hbel⟩
set_option maxHeartbeats 1000000 in
theorem letters_any (n : Nat) (w : World) (hn : n ≤ 1073741824) :
    Calls Try.prog 58 #[.int .i64 n] w fun e w' => ∃ r, e = .returned r ∧ OwI w' w.heap.size r (lettersL n) ∧ Below w.heap.size w w' := by
  go_enter Try.func58, Try.ntmps58
  go_wp2
  go_loopw [3, 4] (fun out i wr => ∃ k : Nat, k ≤ n ∧ i = .int .i64 (k + 1) ∧ OwI wr w.heap.size out (lettersL k) ∧ Below w.heap.size w wr)
    (fun _ i _ => n + 1 - (intOf i).toNat)
  case atStart => exact ⟨0, Nat.zero_le _, rfl, OwI_lit _ [] I64s_nil (by simp) (Nat.le_refl _), (Below.refl _ _).alloc (Nat.le_refl _) _⟩
  case round =>
    obtain ⟨k, hk, rfl, hown, hbel⟩ := hrel
    have hsz := hbel.size
    have hal := lettersL_len k
    by_cases hlt : k < n
    · have HS : Hid (lettersL (k + 1) = lettersL k ++ [(k : Int) + 1, -((k : Int) + 1)]) := Lib.hid rfl
      generalize lettersL k = acc at hown HS hal
      have HO := Lib.hid hown
      obtain ⟨A1, cap1, rfl, hcap1, hm1, _, _⟩ := hown.form
      clear hown
      have HX : Hid (I64s [(k : Int) + 1, -((k : Int) + 1)]) := Lib.hid (fun x hx => by simp at hx; unfold I64; omega)
      have HL : Hid (RdI (wr.alloc (.cells #[.int .i64 ((k : Int) + 1), .int .i64 (-((k : Int) + 1))] 3)) (.slice (some ⟨wr.heap.size, 0, none⟩) 2 2) [(k : Int) + 1, -((k : Int) + 1)]) :=
        Lib.hid (OwI_lit wr _ HX.out (by simp) (Nat.le_refl _)).rd
      go_wp2_with (at_builtin; refine append_ints rfl (.tmp 11) (.tmp 15) rfl w.heap.size _ _ (HO.out.alloc _) rfl _ _ HL.out rfl (by simp; omega) (by first | omega | (simp; omega)) ?_; intro v2 w2 o2 g2 p2)
      go_roundw
      case rel => exact ⟨k + 1, by omega, by go_num, by rw [HS.out]; exact o2, bel_push hbel hsz HO.out.1 (Nat.le_refl _) g2⟩
      case measure => simp [intOf]; omega
    · obtain rfl : k = n := by omega
      go_wp2
      go_ret
      exact ⟨_, rfl, hown, hbel⟩
end Go.Proofs.Ytgoghkboklehnaa
