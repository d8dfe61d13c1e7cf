/- Rotations and the least rotation, of the reference and of the program. -/
import Derived.Test.YtnmkbkpegkchpaaCmpW
import Derived.Test.YtnmkbkpegkchpaaCpy
import Derived.Test.YtnmkbkpegkchpaaParts
import Derived.Deep.RegionHeld3
import Derived.Outline
namespace Go.Proofs.Ytnmkbkpegkchpaa
set_option maxRecDepth 20000
set_option linter.unusedVariables false
set_option linter.unusedSimpArgs false
open Go.RowKit

theorem rot_idx {i k n : Nat} (hn : 0 < n) : ((((i : Int) + (k : Int)) % (n : Int) + (n : Int)) % (n : Int)) = (((k + i) % n : Nat) : Int) := by
  rw [Int.add_emod_right, Int.emod_emod]
  rw [show (i : Int) + (k : Int) = ((k + i : Nat) : Int) by omega]
  rfl
set_option maxHeartbeats 1000000 in
theorem specRotateWord_any (v : Value) (xs : List Int) (k : Nat) (w : World) (h : RdI w v xs) (hk : k < xs.length) (hl : xs.length ≤ 1073741824) :
    Calls Try.prog 77 #[v, .int .i64 k] w fun e w' => ∃ r, e = .returned r ∧ OwI w' w.heap.size r (rotF xs k) ∧ Below w.heap.size w w' := by
  have H := Lib.hid h
  obtain ⟨A, cap, rfl, hcap, hm, _⟩ := h.arg
  unfold maxLen at hm
  clear h
  have hrl := rotF_len xs k
  have hn0 : (0 : Int) < (xs.length : Int) := by omega
  have hkI : (k : Int) < (xs.length : Int) := by omega
  go_enter Try.func77, Try.ntmps77
  go_wp2
  go_loopw [5, 6] (fun out i wr => ∃ m : Nat, m ≤ xs.length ∧ i = .int .i64 m ∧ OwI wr w.heap.size out ((rotF xs k).take m) ∧ Below w.heap.size w wr)
    (fun _ i _ => xs.length - (intOf i).toNat)
  case atStart => exact ⟨0, Nat.zero_le _, rfl, OwI_lit _ [] I64s_nil (by simp) (Nat.le_refl _), (Below.refl _ _).alloc (Nat.le_refl _) _⟩
  case round =>
    obtain ⟨m, hm', rfl, hown, hbel⟩ := hrel
    have hsz := hbel.size
    have hal : ((rotF xs k).take m).length ≤ m := List.length_take_le _ _
    by_cases hlt : m < xs.length
    · obtain ⟨b, off, rfl, hbl, hc⟩ := (H.out.below hbel).at (by omega)
      have hix : (k + m) % xs.length < xs.length := Nat.mod_lt _ (by omega)
      have hcell := hc _ hix
      have hix2 := rot_idx (i := m) (k := k) (n := xs.length) (by omega)
      have hkm : (k : Int) % (xs.length : Int) = (k : Int) := Int.emod_eq_of_lt (by omega) hkI
      have hq0 : 0 ≤ ((m : Int) + (k : Int)) % (xs.length : Int) := Int.emod_nonneg _ (by omega)
      have hq1 : ((m : Int) + (k : Int)) % (xs.length : Int) < (xs.length : Int) := Int.emod_lt_of_pos _ hn0
      have HX := Lib.hid (H.out.2 xs[(k + m) % xs.length] (by simp))
      have HS : Hid ((rotF xs k).take (m + 1) = (rotF xs k).take m ++ [xs[(k + m) % xs.length]]) := Lib.hid (by
        have h1 : m < (rotF xs k).length := by rw [rotF_len]; exact hlt
        rw [List.take_succ_eq_append_getElem h1]
        congr 2
        have h2 := rotF_getD xs k m (by omega) hlt
        simpa [List.getD, h1, hix] using h2)
      generalize (rotF xs k).take m = acc at hown HS hal
      have HO := Lib.hid hown
      obtain ⟨A1, cap1, rfl, hcap1, hm1, _⟩ := hown.form
      clear hc hown
      generalize hxx : xs[(k + m) % xs.length] = x at hcell HX HS
      rw [Nat.add_comm k m] at hcell
      clear hxx hix2
      go_wp2_with (at_builtin; refine push_int rfl (.tmp 14) (.tmp 33) rfl _ _ _ (OwI.alloc HO.out _) rfl _ _ rfl (cell_new1 _ _ _) HX.out (by first | omega | (simp <;> omega)) (by first | omega | (simp <;> omega)) ?_; intro v1 wv1 o1 g1 p1)
      go_roundw
      case rel => exact ⟨m + 1, by omega, by go_num, by rw [HS.out]; exact o1, bel_push hbel hsz HO.out.1 (Nat.le_refl _) g1⟩
      case measure => simp [intOf]; omega
    · obtain rfl : m = xs.length := by omega
      rw [List.take_of_length_le (by rw [rotF_len]; omega)] at hown
      go_wp2
      go_ret
      exact ⟨_, rfl, hown, hbel⟩
set_option maxHeartbeats 1000000 in
theorem implRotateWord_any (v : Value) (xs : List Int) (k : Nat) (w : World) (h : RdI w v xs) (hk : k < xs.length) (hl : xs.length ≤ 1073741824) :
    Calls Try.prog 81 #[v, .int .i64 k] w fun e w' => ∃ r, e = .returned r ∧ OwI w' w.heap.size r (rotF xs k) ∧ Below w.heap.size w w' := by
  have H := Lib.hid h
  obtain ⟨A, cap, rfl, hcap, hm, _⟩ := h.arg
  unfold maxLen at hm
  clear h
  obtain ⟨b, off, rfl, hbl, hc⟩ := H.out.at (by omega)
  have hn0 : (0 : Int) < (xs.length : Int) := by omega
  have hkI : (k : Int) < (xs.length : Int) := by omega
  have hd : ((xs.length : Int) == 0) = false := beq_eq_false_iff_ne.2 (by omega)
  have hkm : (k : Int) % (xs.length : Int) = (k : Int) := Int.emod_eq_of_lt (by omega) hkI
  have hkm2 : ((k : Int) + (xs.length : Int)) % (xs.length : Int) = (k : Int) := by rw [Int.add_emod_right]; exact hkm
  have hk0 : (0 : Int) ≤ (k : Int) := by omega
  have hkc : (k : Int) ≤ (cap : Int) := by omega
  have hkl : (k : Int) ≤ (xs.length : Int) := by omega
  have hcp : ¬ cap = k := by omega
  have HT : Hid (RdI w.drew (.slice (some ⟨b, off + k, none⟩) (xs.length - k) (cap - k)) (xs.drop k)) := Lib.hid (by
    have := H.out.cut (k := k) rfl (by omega)
    rw [if_neg hcp] at this
    exact RdI.drew (by simpa [Addr.add_lit] using this))
  have HH := Lib.hid (H.out.head (k := k) rfl (by omega)).drew
  have BB := Lib.hid ((Below.refl w.heap.size w).drew)
  have HKM := Lib.hid hkm2
  clear hc hkm2
  go_enter Try.func81, Try.ntmps81
  go_wp2_with fail
  skip
  rw [HKM.out]
  go_region_held3 (fun w' => True) (go_keep)
    (first
    | (go_at_call 31; go_loud (with_reducible refine (copyInts_any (.slice (some ⟨b, off + k, none⟩) (xs.length - k) (cap - k)) _ _ HT.out (by simp; omega)).mono ?_); rintro e w2 ⟨r1, rfl, o1, b1⟩; have OA := Lib.hid o1; replace HH := Lib.hid (HH.out.below b1); replace BB := Lib.hid (BB.out.trans b1); clear o1 b1)
    | (refine step_append_ints rfl (.tmp 21) (.tmp 24) rfl _ _ _ OA.out (by rfl) _ _ HH.out (by rfl) (by simp; omega) (by exact BB.out.size) ?_; intro v1 w1 o1 g1 p1; have O1 := Lib.hid o1; have BB2 := Lib.hid (BB.out.grown g1 BB.out.size (fun j hj => (OA.out.1.lt j hj).1)); clear o1 g1 p1))
  go_wp2
  go_ret
  exact ⟨_, rfl, O1.out, BB2.out⟩
theorem i64_of_small {k : Nat} (h : k ≤ 1073741824) : I64 (k : Int) := by unfold I64; omega
set_option maxHeartbeats 1000000 in
theorem specLeastRotation_any (v : Value) (xs : List Int) (w : World) (h : RdI w v xs) (hl : xs.length ≤ 536870912) :
    Calls Try.prog 57 #[v] w fun e w' => ∃ r, e = .returned (.tuple #[r, .int .i64 (lrF xs).2]) ∧ OwI w' w.heap.size r (lrF xs).1 ∧ Below w.heap.size w w' := by
  have H := Lib.hid h
  obtain ⟨A, cap, rfl, hcap, hm, _⟩ := h.arg
  unfold maxLen at hm
  clear h
  go_enter Try.func57, Try.ntmps57
  go_wp2_with (at_builtin; refine append_ints rfl (.tmp 8) (.tmp 9) rfl w.heap.size _ [] (OwI_lit w [] I64s_nil (by simp) (Nat.le_refl _)) rfl _ _ (H.out.alloc _) rfl (by simp only [List.length_nil]; omega) (by simp) ?_; intro v1 w1 o1 g1 p1; have O1 := Lib.hid o1; have hb1 : Hid (Below w.heap.size w w1) := Lib.hid (((Below.refl _ _).alloc (Nat.le_refl _) _).grown g1 (by simp) (fun k hk => by simp [Value.ownBlock] at hk; omega)); clear o1 g1 p1)
  go_loopw [4, 5, 6] (fun b t i wr => ∃ k : Nat, 1 ≤ k ∧ (k ≤ xs.length ∨ k = 1) ∧ i = .int .i64 k ∧ t = .int .i64 ((lrAt xs k).2 : Nat) ∧ OwI wr w.heap.size b (lrAt xs k).1 ∧ Below w.heap.size w wr)
    (fun _ _ i _ => xs.length - (intOf i).toNat)
  case atStart => exact ⟨1, by omega, .inr rfl, rfl, rfl, by simpa [lrAt] using O1.out, hb1.out⟩
  case round =>
    obtain ⟨k, hk1, hk, rfl, rfl, hown, hbel⟩ := hrel
    have hsz := hbel.size
    by_cases hlt : k < xs.length
    · have HR := Lib.hid (H.out.below hbel)
      have HO := Lib.hid hown
      have HB := Lib.hid hbel
      have HS := Lib.hid (lrAt_succ xs k hk1)
      obtain ⟨A1, cap1, rfl, hcap1, hm1, _⟩ := hown.form
      have hal : (lrAt xs k).1.length = xs.length := lrAt_len xs k
      have HAL := Lib.hid hal
      clear hown hbel hal
      generalize hb : lrAt xs k = bt at HO HS HAL
      clear hb
      go_wp2_with fail
      refine (specRotateWord_any _ xs k _ HR.out hlt (by omega)).mono ?_
      rintro e w2 ⟨r2, rfl, o2, b2⟩
      have O2 := Lib.hid o2
      have B2 := Lib.hid b2
      have HO2 := Lib.hid (HO.out.below b2)
      have hsz2 := b2.size
      obtain ⟨A2, cap2, rfl, hcap2, hm2, _⟩ := o2.form
      clear o2 b2
      go_wp2_with fail
      refine (specCompareWords_any _ _ (rotF xs k) bt.1 _ O2.out.arg HO2.out.arg).mono ?_
      rintro e w3 ⟨rfl, n3, rfl⟩
      have BB := Lib.hid (bel_drewN (HB.out.trans (B2.out.mono hsz)) n3)
      rcases e1 : decide (cmpW (rotF xs k) bt.1 < 0) with _ | _
      · have HF : Hid (lrAt xs (k + 1) = bt) := Lib.hid (by rw [HS.out]; unfold lrS; rw [if_neg (by simpa using e1)])
        go_wp2
        go_roundw
        case rel => exact ⟨k + 1, by omega, by omega, by go_num, by rw [HF.out], by rw [HF.out]; exact HO2.out.drewN _, BB.out⟩
        case measure => simp [intOf]; omega
      · have HF : Hid (lrAt xs (k + 1) = (rotF xs k, k)) := Lib.hid (by rw [HS.out]; unfold lrS; rw [if_pos (by simpa using e1)])
        go_wp2
        go_roundw
        case rel => exact ⟨k + 1, by omega, by omega, by go_num, by rw [HF.out], by rw [HF.out]; exact (O2.out.mono hsz).drewN _, BB.out⟩
        case measure => simp [intOf]; omega
    · have HF : Hid (lrAt xs k = lrF xs) := Lib.hid (by
        unfold lrF
        rcases hk with hk | rfl
        · rw [show k = xs.length by omega]
        · rcases Nat.eq_zero_or_pos xs.length with h0 | h0
          · rw [h0]; rfl
          · rw [show xs.length = 1 by omega])
      go_wp2
      go_ret2
      rw [← HF.out]
      exact ⟨_, rfl, hown, hbel⟩
set_option maxHeartbeats 1000000 in
theorem implLeastRotation_any (v : Value) (xs : List Int) (w : World) (h : RdI w v xs) (hl : xs.length ≤ 536870912) :
    Calls Try.prog 67 #[v] w fun e w' => ∃ r, e = .returned (.tuple #[r, .int .i64 (lrF xs).2]) ∧ OwI w' w.heap.size r (lrF xs).1 ∧ Below w.heap.size w w' := by
  have H := Lib.hid h
  obtain ⟨A, cap, rfl, hcap, hm, _⟩ := h.arg
  unfold maxLen at hm
  clear h
  go_enter Try.func67, Try.ntmps67
  go_wp2_with (go_at_call 31; refine (copyInts_any _ xs _ H.out (by omega)).mono ?_; rintro e w1 ⟨v1, rfl, o1, b1⟩; have O1 := Lib.hid o1; have hb1 := Lib.hid b1; clear o1 b1)
  go_loopw [4, 5, 6] (fun b t i wr => ∃ k : Nat, 1 ≤ k ∧ (k ≤ xs.length ∨ k = 1) ∧ i = .int .i64 k ∧ t = .int .i64 ((lrAt xs k).2 : Nat) ∧ OwI wr w.heap.size b (lrAt xs k).1 ∧ Below w.heap.size w wr)
    (fun _ _ i _ => xs.length - (intOf i).toNat)
  case atStart => exact ⟨1, by omega, .inr rfl, rfl, rfl, by simpa [lrAt] using O1.out, hb1.out⟩
  case round =>
    obtain ⟨k, hk1, hk, rfl, rfl, hown, hbel⟩ := hrel
    have hsz := hbel.size
    by_cases hlt : k < xs.length
    · have HR := Lib.hid (H.out.below hbel)
      have HO := Lib.hid hown
      have HB := Lib.hid hbel
      have HS := Lib.hid (lrAt_succ xs k hk1)
      obtain ⟨A1, cap1, rfl, hcap1, hm1, _⟩ := hown.form
      have hal : (lrAt xs k).1.length = xs.length := lrAt_len xs k
      have HAL := Lib.hid hal
      clear hown hbel hal
      generalize hb : lrAt xs k = bt at HO HS HAL
      clear hb
      go_wp2_with fail
      refine (implRotateWord_any _ xs k _ HR.out hlt (by omega)).mono ?_
      rintro e w2 ⟨r2, rfl, o2, b2⟩
      have O2 := Lib.hid o2
      have B2 := Lib.hid b2
      have HO2 := Lib.hid (HO.out.below b2)
      have hsz2 := b2.size
      obtain ⟨A2, cap2, rfl, hcap2, hm2, _⟩ := o2.form
      clear o2 b2
      go_wp2_with fail
      refine (implCompareWords_any _ _ (rotF xs k) bt.1 _ O2.out.arg HO2.out.arg).mono ?_
      rintro e w3 ⟨rfl, n3, rfl⟩
      have BB := Lib.hid (bel_drewN (HB.out.trans (B2.out.mono hsz)) n3)
      rcases e1 : decide (cmpW (rotF xs k) bt.1 < 0) with _ | _
      · have HF : Hid (lrAt xs (k + 1) = bt) := Lib.hid (by rw [HS.out]; unfold lrS; rw [if_neg (by simpa using e1)])
        go_wp2
        go_roundw
        case rel => exact ⟨k + 1, by omega, by omega, by go_num, by rw [HF.out], by rw [HF.out]; exact HO2.out.drewN _, BB.out⟩
        case measure => simp [intOf]; omega
      · have HF : Hid (lrAt xs (k + 1) = (rotF xs k, k)) := Lib.hid (by rw [HS.out]; unfold lrS; rw [if_pos (by simpa using e1)])
        go_wp2
        go_roundw
        case rel => exact ⟨k + 1, by omega, by omega, by go_num, by rw [HF.out], by rw [HF.out]; exact (O2.out.mono hsz).drewN _, BB.out⟩
        case measure => simp [intOf]; omega
    · have HF : Hid (lrAt xs k = lrF xs) := Lib.hid (by
        unfold lrF
        rcases hk with hk | rfl
        · rw [show k = xs.length by omega]
        · rcases Nat.eq_zero_or_pos xs.length with h0 | h0
          · rw [h0]; rfl
          · rw [show xs.length = 1 by omega])
      go_wp2
      go_ret2
      rw [← HF.out]
      exact ⟨_, rfl, hown, hbel⟩
end Go.Proofs.Ytnmkbkpegkchpaa
