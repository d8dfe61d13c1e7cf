/- Letters as text; FormatWord, FormatEquation, of the reference and of the program. -/
import Derived.Test.YtnmkbkpegkchpaaNum
namespace Go.Proofs.Ytnmkbkpegkchpaa
set_option maxRecDepth 20000
set_option linter.unusedVariables false
set_option linter.unusedSimpArgs false
open Go.RowKit

/-- The text of a letter, nothing for what is none. -/
def lt (x : Int) : List UInt8 :=
  if x = 1 then [97] else if x = 2 then [98] else if x = 3 then [99] else if x = -1 then [65] else if x = -2 then [66] else if x = -3 then [67] else []
def str (l : List UInt8) : Value := .string ⟨l.toArray⟩
theorem str_snoc (t : List UInt8) (c : UInt8) : Value.string (({ data := t.toArray } : ByteArray) ++ { data := #[c] }) = .string ⟨(t ++ [c]).toArray⟩ := by
  rw [ByteArray.mk_append_mk]
theorem lt_cases (x : Int) : (x = 1 ∧ lt x = [97]) ∨ (x = 2 ∧ lt x = [98]) ∨ (x = 3 ∧ lt x = [99]) ∨ (x = -1 ∧ lt x = [65]) ∨ (x = -2 ∧ lt x = [66]) ∨ (x = -3 ∧ lt x = [67]) ∨ ((x = 0 ∨ x < -3 ∨ 3 < x) ∧ lt x = []) := by
  unfold lt
  repeat' split
  all_goals simp_all
  omega
theorem letB3 (x : Int) : letB 3 x = decide (lt x ≠ []) := by
  have h3 : wrap64 (-3) = -3 := IntWalk.wrap64_in _ ⟨by omega, by omega⟩
  unfold letB inB
  rw [h3]
  rcases lt_cases x with ⟨rfl, h⟩ | ⟨rfl, h⟩ | ⟨rfl, h⟩ | ⟨rfl, h⟩ | ⟨rfl, h⟩ | ⟨rfl, h⟩ | ⟨hx, h⟩
  all_goals try (rw [h]; decide)
  rw [h, Bool.eq_iff_iff]
  simp
  omega

set_option maxHeartbeats 1000000 in
theorem letterText_any (x : Int) (w : World) (hx : I64 x) :
    Calls Try.prog 65 #[.int .i64 x] w fun e w' => e = .returned (str (lt x)) ∧ w = w' := by
  have h1 := hx.1
  have h2 := hx.2
  unfold str
  rcases lt_cases x with ⟨rfl, h⟩ | ⟨rfl, h⟩ | ⟨rfl, h⟩ | ⟨rfl, h⟩ | ⟨rfl, h⟩ | ⟨rfl, h⟩ | ⟨hc, h⟩
  all_goals rw [h]; clear h
  iterate 6
    · go_enter Try.func65, Try.ntmps65
      go_wp2
      go_ret
      exact ⟨by rfl, rfl⟩
  rcases e1 : inB x 1 3 with _ | _
  · rcases e2 : inB x (-3) (-1) with _ | _
    · clear hc
      go_enter Try.func65, Try.ntmps65
      go_wp2_with (go_at_call 27; refine (within_any _ _ _ _).mono ?_; rintro e w' ⟨rfl, rfl⟩)
      go_ret
      exact ⟨rfl, rfl⟩
    · have := inB_iff.1 e2; omega
  · have := inB_iff.1 e1; omega

/-! ## FormatEquation -/
def chunk (e : Int) : List UInt8 := if e = 9 then [120] else if e = -9 then [88] else lt e
def fmtEq (es : List Int) : List UInt8 := if es.all (fun e => decide (chunk e ≠ [])) then (if es = [] then [49] else es.flatMap chunk) else []
theorem fmtEq_bad {es : List Int} (i : Nat) (hi : i < es.length) (h : chunk es[i] = []) : fmtEq es = [] := by
  unfold fmtEq
  rw [if_neg]
  simp
  exact ⟨es[i], by simp, h⟩
theorem fmtEq_ok {es : List Int} (h : ∀ j (hj : j < es.length), chunk es[j] ≠ []) (h0 : es ≠ []) : fmtEq es = es.flatMap chunk := by
  unfold fmtEq
  rw [if_pos, if_neg h0]
  simp
  intro x hx
  obtain ⟨j, hj, rfl⟩ := List.getElem_of_mem hx
  exact h j hj
theorem flat_succ (es : List Int) (k : Nat) (h : k < es.length) : (es.take (k + 1)).flatMap chunk = (es.take k).flatMap chunk ++ chunk es[k] := by
  rw [List.take_succ_eq_append_getElem h, List.flatMap_append]
  simp
theorem chunk_len (e : Int) : (chunk e).length ≤ 1 := by
  unfold chunk
  split
  · simp
  · split
    · simp
    · rcases lt_cases e with ⟨_, h⟩ | ⟨_, h⟩ | ⟨_, h⟩ | ⟨_, h⟩ | ⟨_, h⟩ | ⟨_, h⟩ | ⟨_, h⟩ <;> rw [h] <;> simp
theorem chunk_one (e : Int) (h : chunk e ≠ []) : ∃ c, chunk e = [c] := by
  have h1 := chunk_len e
  match hc : chunk e with
  | [] => exact absurd hc h
  | [c] => exact ⟨c, rfl⟩
  | a :: b :: l => rw [hc] at h1; simp at h1
theorem flat_pos {es : List Int} (h : ∀ j (hj : j < es.length), chunk es[j] ≠ []) (h0 : es ≠ []) : es.flatMap chunk ≠ [] := by
  cases es with
  | nil => exact absurd rfl h0
  | cons e es =>
    have := h 0 (by simp)
    simp only [List.flatMap_cons]
    intro hh
    exact this (List.append_eq_nil_iff.1 hh).1
theorem flat_len (es : List Int) : (es.flatMap chunk).length ≤ es.length := by
  induction es with
  | nil => simp
  | cons e es ih => have := chunk_len e; simp only [List.flatMap_cons, List.length_append, List.length_cons]; omega

end Go.Proofs.Ytnmkbkpegkchpaa
