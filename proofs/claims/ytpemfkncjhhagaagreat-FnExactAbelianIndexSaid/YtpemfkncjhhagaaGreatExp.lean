/- Exponent sums, of the reference and of the program. -/
import Derived.Test.YtpemfkncjhhagaaGreatNum
namespace Go.Proofs.YtpemfkncjhhagaaGreat
set_option maxRecDepth 20000
set_option linter.unusedVariables false
set_option linter.unusedSimpArgs false
open Go.RowKit

def exp1 (r : Int) (acc : List Int) (x : Int) : List Int :=
  if 1 ≤ x ∧ x ≤ r then acc.set (x - 1).toNat (wrap64 (acc.getD (x - 1).toNat 0 + 1))
  else if -r ≤ x ∧ x ≤ -1 then acc.set (-x - 1).toNat (wrap64 (acc.getD (-x - 1).toNat 0 - 1)) else acc
def expF (r : Int) (xs : List Int) : List Int := xs.foldl (exp1 r) (List.replicate r.toNat 0)
def expS (r : Int) (xs : List Int) : List Int := if inB r 1 3 then expF r xs else []
theorem exp1_len (r : Int) (acc : List Int) (x : Int) : (exp1 r acc x).length = acc.length := by
  unfold exp1; split <;> (try split) <;> simp
theorem expF_len (r : Int) (xs : List Int) : (expF r xs).length = r.toNat := by
  unfold expF
  suffices h : ∀ (l acc : List Int), (l.foldl (exp1 r) acc).length = acc.length by rw [h]; simp
  intro l
  induction l with
  | nil => intro acc; rfl
  | cons x l ih => intro acc; rw [List.foldl_cons, ih, exp1_len]
theorem expF_succ (r : Int) (xs : List Int) (k : Nat) (h : k < xs.length) : expF r (xs.take (k + 1)) = exp1 r (expF r (xs.take k)) xs[k] := by
  unfold expF
  rw [List.take_succ_eq_append_getElem h, List.foldl_append]
  rfl
theorem exp1_pos {r : Int} {acc : List Int} {j : Nat} (h : (j : Int) + 1 ≤ r) (hj : j < acc.length) : exp1 r acc ((j : Int) + 1) = acc.set j (wrap64 (acc[j] + 1)) := by
  unfold exp1
  rw [if_pos ⟨by omega, h⟩]
  have : ((j : Int) + 1 - 1).toNat = j := by omega
  rw [this]
  simp [List.getD, hj]
theorem exp1_neg {r : Int} {acc : List Int} {j : Nat} (h : (j : Int) + 1 ≤ r) (hj : j < acc.length) : exp1 r acc (-((j : Int) + 1)) = acc.set j (wrap64 (acc[j] - 1)) := by
  unfold exp1
  rw [if_neg (by omega), if_pos ⟨by omega, by omega⟩]
  have : (- -((j : Int) + 1) - 1).toNat = j := by omega
  rw [this]
  simp [List.getD, hj]
theorem exp1_out {r x : Int} {acc : List Int} (h : ¬ (1 ≤ x ∧ x ≤ r)) (h' : ¬ (-r ≤ x ∧ x ≤ -1)) : exp1 r acc x = acc := by
  unfold exp1
  rw [if_neg h, if_neg h']
theorem I64_wrap' (x : Int) : I64 (wrap64 x) := by
  unfold I64 wrap64; omega
theorem expF_nil (r : Int) : expF r [] = List.replicate r.toNat 0 := rfl

theorem expS_len (r : Int) (xs : List Int) : (expS r xs).length ≤ 3 := by
  unfold expS
  split
  · rename_i h
    have := inB_iff.1 h
    rw [expF_len]
    omega
  · simp

set_option maxHeartbeats 1000000 in
theorem implExponentSums_any (r : Int) (v : Value) (xs : List Int) (w : World) (h : RdI w v xs) (hl : xs.length ≤ 1073741824) :
    Calls Tryz.prog 53 #[.int .i64 r, v] w fun e w' => ∃ u, e = .returned u ∧ OwI w' w.heap.size u (expS r xs) ∧ Below w.heap.size w w' := by
  have H := Lib.hid h
  obtain ⟨A, cap, rfl, hcap, hm, _, _⟩ := h.arg
  clear h
  obtain ⟨i0, hi0, hz0, hz1, hz2⟩ := info_parts int_info
  rcases e1 : inB r 1 3 with _ | _
  · have F : Hid (expS r xs = []) := Lib.hid (by unfold expS; rw [e1]; rfl)
    go_enter Tryz.func53, Tryz.ntmps53
    go_wp2_with (go_at_call 90; refine (within_any _ _ _ _).mono ?_; rintro e w' ⟨rfl, rfl⟩)
    go_ret
    exact ⟨_, rfl, by rw [F.out]; exact OwI_lit _ [] I64s_nil (by simp) (Nat.le_refl _), (Below.refl _ _).alloc (Nat.le_refl _) _⟩
  · have F : Hid (expS r xs = expF r xs) := Lib.hid (by unfold expS; rw [e1]; rfl)
    have hr1 := (inB_iff.1 e1).1
    have hr3 := (inB_iff.1 e1).2
    obtain ⟨rn, rfl⟩ : ∃ n : Nat, r = n := ⟨r.toNat, by omega⟩
    go_enter Tryz.func53, Tryz.ntmps53
    go_wp2_with (first
      | (go_at_call 90; refine (within_any _ _ _ _).mono ?_; rintro e w' ⟨rfl, rfl⟩)
      | (at_make; refine wpList_make_full _ rfl _ _ 33 rfl w.heap.size 3 i0 (.int .i64 0) 1 Tryz.underlying33 hi0 hz0 hz1 _ _ _ _ rn rfl rfl rfl rfl (by rw [hz2]; omega) (by unfold maxLen; omega) (Nat.le_refl _) ?_; intro w0 hown0 hgrow0))
    go_loopw [16] (fun i wr => ∃ k : Nat, k ≤ xs.length ∧ i = .int .i64 k ∧ OwI wr w.heap.size (.slice (some ⟨w.heap.size, 0, none⟩) rn rn) (expF rn (xs.take k)) ∧ Below w.heap.size w wr)
      (fun i _ => xs.length - (intOf i).toNat)
    case atStart => exact ⟨0, Nat.zero_le _, rfl, ⟨by have h := hown0; rw [show (Value.int IntKind.i64 0).cells = #[Value.int .i64 0] from rfl, Nat.mul_one, toList_madeCells_one] at h; simpa [expF] using h, fun x hx => by simp [expF] at hx; rw [hx.2]; unfold I64; omega⟩, (Below.refl _ _).grown hgrow0 (Nat.le_refl _) (fun k h => by cases h)⟩
    case round =>
      obtain ⟨k, hk, rfl, hown, hbel⟩ := hrel
      have hsz := hbel.size
      by_cases hlt : k < xs.length
      · obtain ⟨b, off, rfl, hbl, hc⟩ := (H.out.below hbel).at (by omega)
        have hcell := hc k hlt
        have HS := Lib.hid (expF_succ rn xs k hlt)
        have hla := expF_len rn (xs.take k)
        clear hc
        generalize expF rn (xs.take k) = acc at hown HS hla
        generalize xs[k] = x at hcell HS
        rcases e2 : inB x 1 rn with _ | _
        · rcases e3 : inB x (-rn) (-1) with _ | _
          · have G := Lib.hid (exp1_out (acc := acc) (inB_not.1 e2) (inB_not.1 e3))
            have HO := Lib.hid hown
            clear hown
            go_wp2_with (go_at_call 90; refine (within_any _ _ _ _).mono ?_; rintro e w' ⟨rfl, rfl⟩)
            go_roundw
            case rel => exact ⟨k + 1, by omega, by go_num, by rw [HS.out, G.out]; exact HO.out, hbel⟩
            case measure => simp [intOf]; omega
          · obtain ⟨j, rfl⟩ : ∃ j : Nat, x = -((j : Int) + 1) := ⟨(-x - 1).toNat, by have := inB_iff.1 e3; omega⟩
            have hj3 : (j : Int) + 1 ≤ rn := by have := inB_iff.1 e3; omega
            have hj : j < acc.length := by omega
            have G := Lib.hid (exp1_neg hj3 hj)
            have hat := hown.cellAt j hj
            have hfr := hown.free j
            have HO := Lib.hid (hown.set j (wrap64 (acc[j] - 1)) (I64_wrap' _))
            clear hown
            go_wp2_with (go_at_call 90; refine (within_any _ _ _ _).mono ?_; rintro e w' ⟨rfl, rfl⟩)
            go_roundw
            case rel => exact ⟨k + 1, by omega, by go_num, by rw [HS.out, G.out]; exact HO.out.1, hbel.setCell (Nat.le_refl _) _⟩
            case measure => simp [intOf]; omega
        · obtain ⟨j, rfl⟩ : ∃ j : Nat, x = (j : Int) + 1 := ⟨(x - 1).toNat, by have := inB_iff.1 e2; omega⟩
          have hj3 : (j : Int) + 1 ≤ rn := by have := inB_iff.1 e2; omega
          have hj : j < acc.length := by omega
          have G := Lib.hid (exp1_pos hj3 hj)
          have hat := hown.cellAt j hj
          have hfr := hown.free j
          have HO := Lib.hid (hown.set j (wrap64 (acc[j] + 1)) (I64_wrap' _))
          clear hown
          go_wp2_with (go_at_call 90; refine (within_any _ _ _ _).mono ?_; rintro e w' ⟨rfl, rfl⟩)
          go_roundw
          case rel => exact ⟨k + 1, by omega, by go_num, by rw [HS.out, G.out]; exact HO.out.1, hbel.setCell (Nat.le_refl _) _⟩
          case measure => simp [intOf]; omega
      · obtain rfl : k = xs.length := by omega
        rw [List.take_length] at hown
        have HO := Lib.hid hown
        clear hown
        go_wp2
        go_ret
        exact ⟨_, rfl, by rw [F.out]; exact HO.out, hbel⟩
set_option maxHeartbeats 1000000 in
theorem specExponentSums_any (r : Int) (v : Value) (xs : List Int) (w : World) (h : RdI w v xs) (hl : xs.length ≤ 1073741824) :
    Calls Tryz.prog 49 #[.int .i64 r, v] w fun e w' => ∃ u, e = .returned u ∧ OwI w' w.heap.size u (expS r xs) ∧ Below w.heap.size w w' := by
  have H := Lib.hid h
  obtain ⟨A, cap, rfl, hcap, hm, _, _⟩ := h.arg
  clear h
  obtain ⟨i0, hi0, hz0, hz1, hz2⟩ := info_parts int_info
  rcases e1 : inB r 1 3 with _ | _
  · have F : Hid (expS r xs = []) := Lib.hid (by unfold expS; rw [e1]; rfl)
    go_enter Tryz.func49, Tryz.ntmps49
    go_wp2_with (go_at_call 78; refine (l1In_any _ _ _ _).mono ?_; rintro e w' ⟨rfl, rfl⟩)
    go_ret
    exact ⟨_, rfl, by rw [F.out]; exact OwI_lit _ [] I64s_nil (by simp) (Nat.le_refl _), (Below.refl _ _).alloc (Nat.le_refl _) _⟩
  · have F : Hid (expS r xs = expF r xs) := Lib.hid (by unfold expS; rw [e1]; rfl)
    have hr1 := (inB_iff.1 e1).1
    have hr3 := (inB_iff.1 e1).2
    obtain ⟨rn, rfl⟩ : ∃ n : Nat, r = n := ⟨r.toNat, by omega⟩
    go_enter Tryz.func49, Tryz.ntmps49
    go_wp2_with (first
      | (go_at_call 78; refine (l1In_any _ _ _ _).mono ?_; rintro e w' ⟨rfl, rfl⟩)
      | (at_make; refine wpList_make_full _ rfl _ _ 33 rfl w.heap.size 3 i0 (.int .i64 0) 1 Tryz.underlying33 hi0 hz0 hz1 _ _ _ _ rn rfl rfl rfl rfl (by rw [hz2]; omega) (by unfold maxLen; omega) (Nat.le_refl _) ?_; intro w0 hown0 hgrow0))
    go_loopw [6] (fun i wr => ∃ k : Nat, k ≤ xs.length ∧ i = .int .i64 k ∧ OwI wr w.heap.size (.slice (some ⟨w.heap.size, 0, none⟩) rn rn) (expF rn (xs.take k)) ∧ Below w.heap.size w wr)
      (fun i _ => xs.length - (intOf i).toNat)
    case atStart => exact ⟨0, Nat.zero_le _, rfl, ⟨by have h := hown0; rw [show (Value.int IntKind.i64 0).cells = #[Value.int .i64 0] from rfl, Nat.mul_one, toList_madeCells_one] at h; simpa [expF] using h, fun x hx => by simp [expF] at hx; rw [hx.2]; unfold I64; omega⟩, (Below.refl _ _).grown hgrow0 (Nat.le_refl _) (fun k h => by cases h)⟩
    case round =>
      obtain ⟨k, hk, rfl, hown, hbel⟩ := hrel
      have hsz := hbel.size
      by_cases hlt : k < xs.length
      · obtain ⟨b, off, rfl, hbl, hc⟩ := (H.out.below hbel).at (by omega)
        have hcell := hc k hlt
        have HS := Lib.hid (expF_succ rn xs k hlt)
        have hla := expF_len rn (xs.take k)
        clear hc
        generalize expF rn (xs.take k) = acc at hown HS hla
        generalize xs[k] = x at hcell HS
        have HN : Hid (wrap64 (-(rn : Int)) = -(rn : Int)) := Lib.hid (IntWalk.wrap64_in _ ⟨by omega, by omega⟩)
        rcases e0 : (x != 0) with _ | _
        · obtain rfl : x = 0 := by simpa using e0
          have G := Lib.hid (exp1_out (acc := acc) (r := (rn : Int)) (x := 0) (by omega) (by omega))
          have HO := Lib.hid hown
          clear hown
          go_wp2
          go_roundw
          case rel => exact ⟨k + 1, by omega, by go_num, by rw [HS.out, G.out]; exact HO.out, hbel⟩
          case measure => simp [intOf]; omega
        · rcases e2 : inB x (-(rn : Int)) rn with _ | _
          · have hx : ¬ (-(rn : Int) ≤ x ∧ x ≤ rn) := inB_not.1 e2
            have G := Lib.hid (exp1_out (acc := acc) (r := (rn : Int)) (x := x) (by omega) (by omega))
            have HO := Lib.hid hown
            clear hown hx
            go_wp2_with (go_at_call 78; refine (l1In_any _ _ _ _).mono ?_; rintro e w' ⟨rfl, rfl⟩)
            go_roundw
            case rel => exact ⟨k + 1, by omega, by go_num, by rw [HS.out, G.out]; exact HO.out, hbel⟩
            case measure => simp [intOf]; omega
          · have hx := inB_iff.1 e2
            have hx0 : x ≠ 0 := by simpa using e0
            rcases Int.lt_or_lt_of_ne hx0 with hneg | hpos
            · obtain ⟨j, rfl⟩ : ∃ j : Nat, x = -((j : Int) + 1) := ⟨(-x - 1).toNat, by omega⟩
              have hj3 : (j : Int) + 1 ≤ rn := by omega
              have hj : j < acc.length := by omega
              have G := Lib.hid (exp1_neg hj3 hj)
              have hat := hown.cellAt j hj
              have hfr := hown.free j
              have HO := Lib.hid (hown.set j (wrap64 (acc[j] - 1)) (I64_wrap' _))
              have HA : Hid (abs64 (-((j : Int) + 1)) = (j : Int) + 1) := Lib.hid (by unfold abs64; rw [if_pos (by omega), Int.neg_neg]; exact IntWalk.wrap64_in _ ⟨by omega, by omega⟩)
              have hA := l21Abs_any (-((j : Int) + 1))
              rw [HA.out] at hA
              have HB := Lib.hid hA
              clear hown hA hx0 hx
              go_wp2_with (first | (go_at_call 78; refine (l1In_any _ _ _ _).mono ?_; rintro e w' ⟨rfl, rfl⟩) | (go_at_call 79; refine (HB.out _).mono ?_; rintro e w' ⟨rfl, rfl⟩))
              go_roundw
              case rel => exact ⟨k + 1, by omega, by go_num, by rw [HS.out, G.out]; exact HO.out.1, hbel.setCell (Nat.le_refl _) _⟩
              case measure => simp [intOf]; omega
            · obtain ⟨j, rfl⟩ : ∃ j : Nat, x = (j : Int) + 1 := ⟨(x - 1).toNat, by omega⟩
              have hj3 : (j : Int) + 1 ≤ rn := by omega
              have hj : j < acc.length := by omega
              have G := Lib.hid (exp1_pos hj3 hj)
              have hat := hown.cellAt j hj
              have hfr := hown.free j
              have HO := Lib.hid (hown.set j (wrap64 (acc[j] + 1)) (I64_wrap' _))
              have HA : Hid (abs64 ((j : Int) + 1) = (j : Int) + 1) := Lib.hid (by unfold abs64; rw [if_neg (by omega)])
              have hA := l21Abs_any ((j : Int) + 1)
              rw [HA.out] at hA
              have HB := Lib.hid hA
              clear hown hA hx0 hx
              go_wp2_with (first | (go_at_call 78; refine (l1In_any _ _ _ _).mono ?_; rintro e w' ⟨rfl, rfl⟩) | (go_at_call 79; refine (HB.out _).mono ?_; rintro e w' ⟨rfl, rfl⟩))
              go_roundw
              case rel => exact ⟨k + 1, by omega, by go_num, by rw [HS.out, G.out]; exact HO.out.1, hbel.setCell (Nat.le_refl _) _⟩
              case measure => simp [intOf]; omega
      · obtain rfl : k = xs.length := by omega
        rw [List.take_length] at hown
        have HO := Lib.hid hown
        clear hown
        go_wp2
        go_ret
        exact ⟨_, rfl, by rw [F.out]; exact HO.out, hbel⟩
/-! ## InDerived -/
def zeroL (xs : List Int) : Bool := xs.all (· == 0)
theorem zeroL_true {xs : List Int} (h : ∀ j (hj : j < xs.length), xs[j] = 0) : zeroL xs = true := by
  unfold zeroL
  simp
  intro x hx
  obtain ⟨j, hj, rfl⟩ := List.getElem_of_mem hx
  exact h j hj
theorem zeroL_false {xs : List Int} (i : Nat) (hi : i < xs.length) (h : xs[i] ≠ 0) : zeroL xs = false := by
  unfold zeroL
  simp
  exact ⟨xs[i], by simp, h⟩

set_option maxHeartbeats 400000 in
theorem l27Zero_any (v : Value) (xs : List Int) (w : World) (h : ArgI w v xs) (hl : xs.length ≤ 1073741824) :
    Calls Tryz.prog 117 #[v] w fun e w' => e = .returned (.bool (zeroL xs)) ∧ w = w' := by
  obtain ⟨A, cap, rfl, hcap, hm, hr, hb⟩ := h
  have HB := Lib.hid hb
  clear hr hb
  go_enter Tryz.func117, Tryz.ntmps117
  go_wp2
  go_loop [3] (fun i => ∃ k : Nat, k ≤ xs.length ∧ i = .int .i64 k ∧ (∀ j (hj : j < xs.length), j < k → xs[j] = 0)) (fun i => xs.length - (intOf i).toNat)
  case atStart => exact ⟨0, Nat.zero_le _, rfl, fun j hj h => absurd h (by omega)⟩
  case round =>
    obtain ⟨k, hk, rfl, hok⟩ := hrel
    have HOK := Lib.hid hok
    clear hok
    by_cases hlt : k < xs.length
    · obtain ⟨b, off, rfl, hc⟩ := HB.out (by omega)
      have hcell := hc k hlt
      have ST : Hid (xs[k] = 0 → ∀ j (hj : j < xs.length), j < k + 1 → xs[j] = 0) := fun F j hj hjk => by
        rcases Nat.lt_or_eq_of_le (Nat.le_of_lt_succ hjk) with h | rfl
        · exact HOK.out j hj h
        · exact F
      have FA : Hid (xs[k] ≠ 0 → zeroL xs = false) := fun F => zeroL_false k hlt F
      clear hc
      generalize hx : xs[k] = x at hcell ST FA
      clear hx
      rcases e1 : (x != 0) with _ | _
      · have F := Lib.hid (ST.out (by simpa using e1))
        go_wp2
        go_round
        case rel => exact ⟨k + 1, by omega, by go_num, F.out⟩
        case measure => simp [intOf]; omega
      · have F := Lib.hid (FA.out (by simpa using e1))
        go_wp2
        go_ret
        exact ⟨ret_bool F.out.symm, rfl⟩
    · obtain rfl : k = xs.length := by omega
      have F := Lib.hid (zeroL_true (fun j hj => HOK.out j hj hj))
      go_wp2
      go_ret
      exact ⟨ret_bool F.out.symm, rfl⟩
end Go.Proofs.YtpemfkncjhhagaaGreat
