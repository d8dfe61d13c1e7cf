/- Copies of lists of rows (both), and the tests of the rows (the program's). -/
import Derived.Test.YtnnckojpmnpgbaaHerB
import Derived.Test.YtnnckojpmnpgbaaCpy
import Derived.Test.YtnnckojpmnpgbaaOwnII
namespace Go.Proofs.Ytnnckojpmnpgbaa
set_option maxRecDepth 20000
set_option linter.unusedVariables false
set_option linter.unusedSimpArgs false
open Go.RowKit

theorem ownsRow0 {w : World} {base : Nat} {e : TypeId} {sz n : Nat} {v : Value} {cs : List Value} (h : w.ownsRow base e sz v n cs) : w.ownsRow 0 e sz v n cs := by
  refine ⟨h.1, ?_⟩
  rcases h.2 with h0 | ⟨g, cap, cur, hv, hg, r⟩
  · exact .inl h0
  · exact .inr ⟨g, cap, cur, hv, Nat.zero_le _, r⟩
set_option maxHeartbeats 800000 in
theorem copyLists_any (v : Value) (L : List (List Int)) (w : World) (h : RdII w v L) (hl : L.length ≤ 1073741824) (hr : ∀ r ∈ L, r.length ≤ 1073741824) :
    Calls Try.prog 39 #[v] w fun e w' => ∃ r, e = .returned r ∧ OwII w.heap.size w'.heap.size r L w' ∧ Below w.heap.size w w' := by
  have H := Lib.hid h
  have HR := Lib.hid hr
  obtain ⟨A, cap, rfl, hcap, hm, _⟩ := h.form
  unfold maxLen at hm
  clear h hr
  go_enter Try.func39, Try.ntmps39
  obtain ⟨i0, hi0, hz0, hz1, hz2⟩ := info_parts ints_info
  go_wp2_with (at_make; refine wpList_make_own _ rfl _ _ 22 rfl w.heap.size 27 i0 (.slice none 0 0) 1 Try.underlying22 hi0 hz0 hz1 _ _ _ L.length rfl rfl rfl (by rw [hz2]; omega) (by unfold maxLen; omega) (Nat.le_refl _) ?_)
  intro w1 hown0 hgrow0
  have O0 : Hid (OwII w.heap.size w1.heap.size (.slice (some ⟨w.heap.size, 0, none⟩) 0 L.length) [] w1) := Lib.hid (OwnL.nil (ownsRow0 hown0) fun b hb => by have := (hown0.lt b hb); simp [Value.ownBlock] at hb; omega)
  have B0 : Hid (Below w.heap.size w w1) := Lib.hid ((Below.refl w.heap.size w).grown hgrow0 (Nat.le_refl _) (fun k h => by cases h))
  clear hown0 hgrow0
  go_wp2
  go_loopw [3, 11] (fun out i wr => ∃ k : Nat, k ≤ L.length ∧ i = .int .i64 k ∧ OwII w.heap.size wr.heap.size out (L.take k) wr ∧ Below w.heap.size w wr) (fun _ i _ => L.length - (intOf i).toNat)
  case atStart => exact ⟨0, Nat.zero_le _, rfl, O0.out, B0.out⟩
  case round =>
    obtain ⟨k, hk, rfl, hown, hbel⟩ := hrel
    have HO := Lib.hid hown
    have HB := Lib.hid hbel
    have hsz := hbel.size
    obtain ⟨Ao, co, rfl, _⟩ := OwnL.len hown
    by_cases hlt : k < L.length
    · obtain ⟨b, off, A1, cap1, rfl, hb, hcell, hc1, hm1, hrd⟩ := (H.out.below hbel).at hlt
      have HRD := Lib.hid hrd
      have hln := HR.out L[k] (by simp)
      have HTK : Hid (L.take (k + 1) = L.take k ++ [L[k]]) := Lib.hid (List.take_succ_eq_append_getElem hlt)
      have htl : (L.take k).length = k := by rw [List.length_take]; omega
      clear hown hbel hrd
      generalize L[k] = row at *
      generalize L.take k = LK at *
      subst htl
      go_wp2_with fail
      refine (copyInts_any _ row wr HRD.out hln).mono ?_
      rintro e w2 ⟨r2, rfl, o2, b2⟩
      have O2 := Lib.hid o2
      have B2 := Lib.hid b2
      have hs2 := b2.size
      obtain ⟨A2, c2, rfl, _⟩ := OwI.form o2
      clear o2 b2
      go_wp2_with (at_builtin; refine push_ints rfl (.tmp 15) (.tmp 18) rfl (w0 := wr) HO.out (by omega) (B2.out.alloc (by omega) _) rfl _ _ _ rfl (O2.out.alloc _) (Nat.le_refl _) (cell_new1 _ _ _) rfl (by omega) ?_; intro vz wz oz gz; have OZ := Lib.hid oz; have GZ := Lib.hid gz; have hz := gz.size; simp at hz; clear oz gz)
      go_roundw
      case rel => exact ⟨LK.length + 1, by omega, by go_num, by rw [HTK.out]; exact OZ.out, ((HB.out.trans (B2.out.mono (by omega))).alloc (by omega) _).grown GZ.out (by simp; omega) fun j hj => (HO.out.lt hj).1⟩
      case measure => simp [intOf]; omega
    · obtain rfl : k = L.length := by omega
      clear hown
      simp only [List.take_length] at HO ⊢
      go_wp2
      go_ret
      exact ⟨_, rfl, HO.out, hbel⟩
theorem rowsOk_no {n m : Int} {L : List (List Int)} {k : Nat} (hk : k < L.length) (h : rowOk n m L[k] = false) : rowsOk n m L = false := by
  unfold rowsOk
  rw [List.all_eq_false]
  exact ⟨L[k], by simp, by rw [h]; decide⟩
theorem rowsOk_yes {n m : Int} {L : List (List Int)} (h : ∀ k (hk : k < L.length), rowOk n m L[k] = true) : rowsOk n m L = true := by
  unfold rowsOk
  rw [List.all_eq_true]
  intro r hr
  obtain ⟨k, hk, rfl⟩ := List.mem_iff_getElem.1 hr
  exact h k hk
theorem rowOk_no {n m : Int} {r : List Int} {k : Nat} (hk : k < r.length) (h : inB r[k] (-m) m = false) : rowOk n m r = false := by
  unfold rowOk
  have : (r.all fun x => inB x (-m) m) = false := by
    rw [List.all_eq_false]
    exact ⟨r[k], by simp, by rw [h]; decide⟩
  rw [this, Bool.and_false]
theorem rowOk_yes {n m : Int} {r : List Int} (hn : (r.length : Int) = n) (h : ∀ k (hk : k < r.length), inB r[k] (-m) m = true) : rowOk n m r = true := by
  unfold rowOk
  rw [Bool.and_eq_true]
  refine ⟨by simpa using hn, ?_⟩
  rw [List.all_eq_true]
  intro x hx
  obtain ⟨k, hk, rfl⟩ := List.mem_iff_getElem.1 hx
  exact h k hk
set_option maxHeartbeats 800000 in
theorem areRows_any (v : Value) (L : List (List Int)) (n m : Int) (w : World) (h : RdII w v L) (hl : L.length ≤ 1073741824) (hm0 : 0 ≤ m) (hm1 : m ≤ 1000000000) :
    Calls Try.prog 26 #[v, .int .i64 n, .int .i64 m] w fun e w' => e = .returned (.bool (rowsOk n m L)) ∧ w = w' := by
  have H := Lib.hid h
  obtain ⟨A, cap, rfl, hcap, hm, _⟩ := h.form
  unfold maxLen at hm
  have hneg : wrap64 (-m) = -m := IntWalk.wrap64_in _ ⟨by omega, by omega⟩
  have hneg' : IntKind.i64.wrap (-m) = -m := by rw [wrap_i64_eq]; exact hneg
  clear h
  go_enter Try.func26, Try.ntmps26
  go_wp2
  go_loop [13] (fun i => ∃ k : Nat, k ≤ L.length ∧ i = .int .i64 k ∧ ∀ j (hj : j < L.length), j < k → rowOk n m L[j] = true) (fun i => L.length - (intOf i).toNat)
  case atStart => exact ⟨0, Nat.zero_le _, rfl, fun j hj h => absurd h (by omega)⟩
  case round =>
    obtain ⟨k, hk, rfl, hok⟩ := hrel
    have HOK := Lib.hid hok
    clear hok
    by_cases hlt : k < L.length
    · obtain ⟨b, off, A1, cap1, rfl, hb, hcell, hc1, hm1', hrd⟩ := H.out.at hlt
      have HRD := Lib.hid hrd
      have NO : Hid (rowOk n m L[k] = false → rowsOk n m L = false) := Lib.hid (rowsOk_no hlt)
      have YES : Hid (rowOk n m L[k] = true → ∀ j (hj : j < L.length), j < k + 1 → rowOk n m L[j] = true) := Lib.hid fun F j hj hjk => by
        rcases Nat.lt_or_eq_of_le (Nat.le_of_lt_succ hjk) with h | rfl
        · exact HOK.out j hj h
        · exact F
      unfold maxLen at hm1'
      clear hrd
      generalize L[k] = r at *
      rcases e1 : (((r.length : Nat) : Int) != n) with _ | _
      rotate_left
      · have F := Lib.hid (NO.out (by unfold rowOk; simp at e1; simp [e1]))
        go_wp2
        go_ret
        exact ⟨ret_bool F.out.symm, rfl⟩
      have hrn : (r.length : Int) = n := by simpa using e1
      have HRN := Lib.hid hrn
      clear hrn
      go_wp2
      go_loop [23] (fun i => ∃ q : Nat, q ≤ r.length ∧ i = .int .i64 q ∧ ∀ j (hj : j < r.length), j < q → inB r[j] (-m) m = true) (fun i => r.length - (intOf i).toNat)
      case atStart => exact ⟨0, Nat.zero_le _, rfl, fun j hj h => absurd h (by omega)⟩
      case round =>
        obtain ⟨q, hq, rfl, hok⟩ := hrel
        have HOK2 := Lib.hid hok
        clear hok
        by_cases hlt2 : q < r.length
        · obtain ⟨b2, off2, rfl, hb2, hcc⟩ := HRD.out.at (by omega)
          have hc2 := hcc q hlt2
          have NO2 : Hid (inB r[q] (-m) m = false → rowOk n m r = false) := Lib.hid (rowOk_no hlt2)
          have YES2 : Hid (inB r[q] (-m) m = true → ∀ j (hj : j < r.length), j < q + 1 → inB r[j] (-m) m = true) := Lib.hid fun F j hj hjk => by
            rcases Nat.lt_or_eq_of_le (Nat.le_of_lt_succ hjk) with h | rfl
            · exact HOK2.out j hj h
            · exact F
          clear hcc
          generalize r[q] = x at *
          go_wp2_with fail
          refine (within_any _ _ _ _).mono ?_
          rintro e w' ⟨rfl, rfl⟩
          rcases e2 : inB x (-m) m with _ | _
          · have F := Lib.hid (NO.out (NO2.out e2))
            go_wp2
            go_ret
            exact ⟨ret_bool F.out.symm, rfl⟩
          · have F := Lib.hid (YES2.out e2)
            go_wp2
            go_round
            case rel => exact ⟨q + 1, by omega, by go_num, F.out⟩
            case measure => simp [intOf]; omega
        · obtain rfl : q = r.length := by omega
          have F := Lib.hid (YES.out (rowOk_yes HRN.out fun k hk => HOK2.out k hk hk))
          go_wp2
          go_round
          case rel => exact ⟨k + 1, by omega, by go_num, F.out⟩
          case measure => simp [intOf]; omega
    · obtain rfl : k = L.length := by omega
      have F := Lib.hid (rowsOk_yes (n := n) (m := m) fun k hk => HOK.out k hk hk)
      go_wp2
      go_ret
      exact ⟨ret_bool F.out.symm, rfl⟩
end Go.Proofs.Ytnnckojpmnpgbaa
