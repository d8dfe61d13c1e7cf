/- Words: inverses and reduced products, of the reference and of the program. -/
import Derived.Test.YtfadnkjlilhneaaGreatNum
namespace Go.Proofs.YtfadnkjlilhneaaGreat
set_option maxRecDepth 20000
set_option linter.unusedVariables false
set_option linter.unusedSimpArgs false
open Go.RowKit

def negL (xs : List Int) : List Int := xs.map fun x => wrap64 (-x)
def invL (xs : List Int) : List Int := (negL xs).reverse
theorem I64_wrap (x : Int) : I64 (wrap64 x) := by
 unfold I64 wrap64; omega
theorem invL_step (xs : List Int) (k : Nat) (hk : k < xs.length) : (invL xs).take (k + 1) = (invL xs).take k ++ [wrap64 (-xs[xs.length - 1 - k])] := by
 have h : k < (invL xs).length := by simpa [invL, negL] using hk
 rw [List.take_succ_eq_append_getElem h]
 congr 2
 simp [invL, negL]

set_option maxHeartbeats 400000 in
theorem implInvertWord_any (v : Value) (xs : List Int) (w : World) (h : RdI w v xs) (hl : xs.length ≤ 1073741824) :
  Calls Tryz.prog 38 #[v] w fun e w' => ∃ r, e = .returned r ∧ OwI w' w.heap.size r (invL xs) ∧ Below w.heap.size w w' := by
 have H := Lib.hid h
 obtain ⟨A, cap, rfl, hcap, hm, hr, hb⟩ := h.arg
 clear h hb
 go_enter Tryz.func38, Tryz.ntmps38
 obtain ⟨i0, hi0, hz0, hz1, hz2⟩ := info_parts int_info
 go_wp2_with (at_make; refine wpList_make_own _ rfl _ _ 26 rfl w.heap.size 3 i0 (.int .i64 0) 1 Tryz.underlying26 hi0 hz0 hz1 _ _ _ xs.length rfl rfl rfl (by rw [hz2]; omega) (by unfold maxLen; omega) (Nat.le_refl _) ?_)
 intro w0 hown0 hgrow0
 go_wp2
 go_loopw [3, 4] (fun out i wr => ∃ k : Nat, k ≤ xs.length ∧ i = .int .i64 ((xs.length : Int) - 1 - (k : Int)) ∧ OwI wr w.heap.size out ((invL xs).take k) ∧ Below w.heap.size w wr)
  (fun _ i _ => (intOf i + 1).toNat)
 case atStart => exact ⟨0, Nat.zero_le _, by simp, ⟨hown0, I64s_nil⟩, (Below.refl _ _).grown hgrow0 (Nat.le_refl _) (fun k h => by cases h)⟩
 case round =>
  obtain ⟨k, hk, rfl, hown, hbel⟩ := hrel
  have hsz := hbel.size
  have hkl : ((invL xs).take k).length ≤ k := List.length_take_le _ _
  by_cases hlt : k < xs.length
  ·obtain ⟨b, off, rfl, hbl, hc⟩ := (H.out.below hbel).at (by omega)
   have hcell := hc (xs.length - 1 - k) (by omega)
   have HS := Lib.hid (invL_step xs k hlt)
   have HO := Lib.hid hown
   clear hc hown
   go_wp2_with (at_builtin; refine push_int rfl (.tmp 15) (.tmp 21) rfl _ _ _ (OwI.alloc HO.out _) rfl _ _ rfl (cell_new1 _ _ _) (I64_wrap _) (by first | omega | (simp <;> omega)) (by first | omega | (simp <;> omega)) ?_; intro v1 wv1 o1 g1 p1)
   go_roundw
   case rel => exact ⟨k + 1, by omega, by go_num, by rw [HS.out]; exact o1, bel_push hbel hsz HO.out.1 (Nat.le_refl _) g1⟩
   case measure => simp [intOf]; omega
  ·obtain rfl : k = xs.length := by omega
   go_wp2
   go_ret
   exact ⟨_, rfl, by rw [List.take_of_length_le (by simp [invL, negL])] at hown; exact hown, hbel⟩

/-! ## Reduced products -/
def red1 (acc : List Int) (x : Int) : List Int := if 0 < acc.length ∧ invB (acc.getLastD 0) x = true then acc.dropLast else acc ++ [x]
def redL (acc xs : List Int) : List Int := xs.foldl red1 acc
theorem red1_len (acc : List Int) (x : Int) : (red1 acc x).length ≤ acc.length + 1 := by
 unfold red1; split <;> simp; omega
theorem redL_len (acc xs : List Int) : (redL acc xs).length ≤ acc.length + xs.length := by
 unfold redL
 induction xs generalizing acc with
 | nil => simp
 | cons x xs ih => have := ih (red1 acc x); have := red1_len acc x; simp only [List.foldl_cons, List.length_cons]; omega
theorem redL_succ (acc xs : List Int) (k : Nat) (h : k < xs.length) : redL acc (xs.take (k + 1)) = red1 (redL acc (xs.take k)) xs[k] := by
 unfold redL
 rw [List.take_succ_eq_append_getElem h, List.foldl_append]
 rfl
theorem last_get {acc : List Int} (h : 0 < acc.length) : acc.getLastD 0 = acc[acc.length - 1] := by
 cases acc with
 | nil => simp at h
 | cons a l => simp [List.getLastD, List.getLast_eq_getElem]
theorem red1_cut {acc : List Int} {x : Int} (h : 0 < acc.length) (hi : invB acc[acc.length - 1] x = true) : red1 acc x = acc.take (acc.length - 1) := by
 rw [← last_get h] at hi
 rw [red1, if_pos ⟨h, hi⟩, List.dropLast_eq_take]
theorem red1_push {acc : List Int} {x : Int} (h : 0 < acc.length) (hi : invB acc[acc.length - 1] x = false) : red1 acc x = acc ++ [x] := by
 rw [← last_get h] at hi
 rw [red1, if_neg]
 intro hh
 rw [hi] at hh
 exact absurd hh.2 (by simp)
end Go.Proofs.YtfadnkjlilhneaaGreat
