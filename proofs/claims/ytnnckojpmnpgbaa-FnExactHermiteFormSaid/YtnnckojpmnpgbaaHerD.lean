/- The program's isHermite. -/
import Derived.Test.YtnnckojpmnpgbaaHerC
namespace Go.Proofs.Ytnnckojpmnpgbaa
set_option maxRecDepth 20000
set_option linter.unusedVariables false
set_option linter.unusedSimpArgs false
open Go.RowKit

theorem isHerm_no {L : List (List Int)} {k : Nat} (hk : k < L.length) (h : hOk L k = false) : isHerm L = false := by
  unfold isHerm
  rw [List.all_eq_false]
  exact ⟨k, List.mem_range.2 hk, by rw [h]; decide⟩
theorem isHerm_yes {L : List (List Int)} (h : ∀ k, k < L.length → hOk L k = true) : isHerm L = true := by
  unfold isHerm
  rw [List.all_eq_true]
  exact fun k hk => h k (List.mem_range.1 hk)
theorem hOk_eq {L : List (List Int)} {k : Nat} (hk : k < L.length) : hOk L k = (decide (pivF L[k] < L[k].length) && decide (0 < cl L[k] (pivF L[k])) && (decide (k = 0) || decide (pivF (rw_ L (k - 1)) < pivF L[k])) && (List.range k).all fun j => inB (cl (rw_ L j) (pivF L[k])) 0 (cl L[k] (pivF L[k]) - 1)) := by
  unfold hOk
  rw [rw_mem hk]
set_option maxHeartbeats 1600000 in
theorem isHermite_any (v : Value) (L : List (List Int)) (N : Nat) (w : World) (h : RdII w v L) (hl : L.length ≤ 1073741824) (hN : ∀ r ∈ L, r.length = N) (hN3 : N ≤ 1073741824) :
    Calls Try.prog 38 #[v] w fun e w' => e = .returned (.bool (isHerm L)) ∧ ∃ n, w' = w.drewN n := by
  have H := Lib.hid h
  have HNN := Lib.hid hN
  obtain ⟨A, cap, rfl, hcap, hm, _⟩ := h.form
  unfold maxLen at hm
  clear h hN
  go_enter Try.func38, Try.ntmps38
  go_wp2
  go_loopw [10] (fun i wr => ∃ k : Nat, k ≤ L.length ∧ i = .int .i64 k ∧ (∀ j, j < k → hOk L j = true) ∧ ∃ m, wr = w.drewN m) (fun i _ => L.length - (intOf i).toNat)
  case atStart => exact ⟨0, Nat.zero_le _, rfl, fun j h => absurd h (by omega), 0, rfl⟩
  case round =>
    obtain ⟨k, hk, rfl, hok, m0, hm0⟩ := hrel
    obtain ⟨w0, rfl⟩ : ∃ w0 : World, w0 = wr := ⟨_, rfl⟩
    have HW0 := Lib.hid hm0
    have HR0 : Hid (RdII w0 (.slice A L.length cap) L) := Lib.hid (by rw [hm0]; exact H.out.drewN m0)
    clear hm0
    have HFIN : Hid (∃ n, w0 = w.drewN n) := Lib.hid ⟨m0, HW0.out⟩
    have HOK := Lib.hid hok
    clear hok
    by_cases hlt : k < L.length
    · obtain ⟨b, off, A1, cap1, rfl, hb, hcell, hc1, hm1', hrd⟩ := HR0.out.at hlt
      have HRD := Lib.hid hrd
      have NO := Lib.hid (isHerm_no hlt)
      have YES : Hid (hOk L k = true → ∀ j, j < k + 1 → hOk L j = true) := Lib.hid fun F j hjk => by
        rcases Nat.lt_or_eq_of_le (Nat.le_of_lt_succ hjk) with h | rfl
        · exact HOK.out j h
        · exact F
      have HE := Lib.hid (hOk_eq hlt)
      have HRN := Lib.hid (HNN.out L[k] (by simp))
      unfold maxLen at hm1'
      clear hrd
      generalize L[k] = r at *
      generalize hOk L k = HK at *
      have hrl : r.length ≤ 1073741824 := by have := HRN.out; omega
      go_wp2_with fail
      refine (pivot_any _ r w0 HRD.out hrl).mono ?_
      rintro e w' ⟨rfl, rfl⟩
      have hple := piv_le r
      have HPZ := Lib.hid (piv_at r)
      have HCL : Hid (∀ j, j < r.length → ∀ h : j < r.length, cl r j = r[j]) := Lib.hid fun j hj h => cl_get h
      generalize pivF r = p at *
      rcases e1 : (((p : Nat) : Int) == ((r.length : Nat) : Int)) with _ | _
      rotate_left
      · have hpe : p = r.length := Int.ofNat_inj.mp (eq_of_beq e1)
        have F := Lib.hid (NO.out (by rw [HE.out, decide_eq_false (show ¬ p < r.length by omega)]; rfl))
        clear hpe
        go_wp2
        go_ret
        exact ⟨ret_bool F.out.symm, HFIN.out⟩
      have hpl : p < r.length := by
        have : p ≠ r.length := fun e => by rw [e] at e1; simp at e1
        omega
      obtain ⟨b2, off2, rfl, hb2, hcc⟩ := HRD.out.at (by omega)
      have hc2 := hcc p hpl
      have hyl := HCL.out p hpl hpl
      have hy0 := HPZ.out hpl
      have hyI : I64 r[p] := HRD.out.2 _ (by simp)
      rw [hyl] at HE hy0
      have hpr : (p : Int) < (r.length : Int) := by omega
      have HI : Hid (∀ (q : Nat), q < L.length → (rw_ L q).length = r.length) := Lib.hid fun q hq => by rw [rw_mem hq, HNN.out _ (List.getElem_mem hq), HRN.out]
      clear hcc hyl HCL HPZ
      generalize r[p] = y at *
      rcases e2 : decide (y < 0) with _ | _
      rotate_left
      · have F := Lib.hid (NO.out (by rw [HE.out, decide_eq_false (show ¬ 0 < y by simp at e2; omega)]; simp))
        go_wp2
        go_ret
        exact ⟨ret_bool F.out.symm, HFIN.out⟩
      have hy : 0 < y := by simp at e2; omega
      have hd1 : decide (p < r.length) = true := decide_eq_true hpl
      have hd2 : decide (0 < y) = true := decide_eq_true hy
      rw [hd1, hd2, Bool.and_self, Bool.true_and] at HE
      have hw1 : IntKind.i64.wrap (y - 1) = y - 1 := by rw [wrap_i64_eq]; exact IntWalk.wrap64_in _ ⟨by omega, by have := hyI.2; omega⟩
      have hw2 : wrap64 (y - 1) = y - 1 := IntWalk.wrap64_in _ ⟨by omega, by have := hyI.2; omega⟩
      clear hd1 hd2 hyI hy0
      rcases Nat.eq_zero_or_pos k with rfl | hk0
      · have F := Lib.hid (YES.out (by rw [HE.out]; rfl))
        go_wp2
        go_loop [46] (fun i => i = .int .i64 0) (fun i => 0)
        case atStart => exact rfl
        case round =>
          obtain rfl := hrel
          go_wp2
          go_roundw
          case rel => exact ⟨0 + 1, by omega, by go_num, F.out, HFIN.out⟩
          case measure => simp [intOf]; omega
      · have hd0 : decide (k = 0) = false := decide_eq_false (by omega)
        rw [hd0, Bool.false_or] at HE
        obtain ⟨b3, off3, A3, cap3, hA3, hb3, hcell3, hc3, hm3, hrd3⟩ := HR0.out.at (show k - 1 < L.length by omega)
        obtain ⟨rfl, rfl⟩ : b = b3 ∧ off = off3 := by simpa using hA3
        have hpv : rw_ L (k - 1) = L[k - 1] := rw_mem (by omega)
        rw [hpv] at HE
        have HRN3 := Lib.hid (HNN.out L[k - 1] (by simp))
        have HRD3 := Lib.hid hrd3
        unfold maxLen at hm3
        clear hrd3 hA3 hpv hd0
        generalize L[k - 1] = r3 at *
        have hr3l : r3.length ≤ 1073741824 := by have := HRN3.out; omega
        have hk1 : IntKind.i64.wrap ((k : Int) - 1) = ((k - 1 : Nat) : Int) := by rw [IntKind.wrap_i64]; omega
        have hk2 : wrap64 ((k : Int) - 1) = ((k - 1 : Nat) : Int) := by rw [IntWalk.wrap64_in _ ⟨by omega, by omega⟩]; omega
        have hk3 : ((k - 1 : Nat) : Int) < (L.length : Int) := by omega
        have hk4 : (0 : Int) < (k : Int) := by omega
        have hcell3' : w0.cell? ⟨b, off + (k - 1), none⟩ = some (.slice A3 r3.length cap3) := hcell3
        clear hcell3
        go_wp2_with fail
        refine (pivot_any _ r3 w0 HRD3.out hr3l).mono ?_
        rintro e w' ⟨rfl, rfl⟩
        generalize pivF r3 = p3 at *
        rcases e3 : decide (p3 < p) with _ | _
        · have F := Lib.hid (NO.out (by rw [HE.out, e3]; rfl))
          have hge : (p : Int) ≤ (p3 : Int) := by simp at e3; omega
          go_wp2
          go_ret
          exact ⟨ret_bool F.out.symm, HFIN.out⟩
        have hge : ¬ (p : Int) ≤ (p3 : Int) := by simp at e3; omega
        rw [e3, Bool.true_and] at HE
        clear e3
        go_wp2
        go_loopw [46] (fun i wr => ∃ q : Nat, q ≤ k ∧ i = .int .i64 q ∧ (∀ j, j < q → inB (cl (rw_ L j) p) 0 (y - 1) = true) ∧ ∃ m, wr = w0.drewN m) (fun i _ => k - (intOf i).toNat)
        case atStart => exact ⟨0, Nat.zero_le _, rfl, fun j h => absurd h (by omega), 0, rfl⟩
        case round =>
          obtain ⟨q, hq, rfl, hok, m1, hm1q⟩ := hrel
          have HR1 : Hid (RdII wr (.slice (some ⟨b, off, none⟩) L.length cap) L) := Lib.hid (by rw [hm1q]; exact HR0.out.drewN m1)
          have HFIN2 : Hid (∀ n, ∃ n', wr.drewN n = w.drewN n') := Lib.hid fun n => by obtain ⟨a, ha⟩ := HFIN.out; exact ⟨_, by rw [hm1q, ha, World.drewN_drewN, World.drewN_drewN]⟩
          have HFIN3 : Hid (∀ n, ∃ n', wr.drewN n = w0.drewN n') := Lib.hid fun n => ⟨_, by rw [hm1q, World.drewN_drewN]⟩
          have hc2q : wr.cell? ⟨b2, off2 + p, none⟩ = some (.int .i64 y) := by rw [hm1q]; exact hc2
          clear hm1q
          have HOK2 := Lib.hid hok
          clear hok
          by_cases hlt2 : q < k
          · obtain ⟨b4, off4, A4, cap4, hA4, hb4, hcell4, hc4, hm4, hrd4⟩ := HR1.out.at (show q < L.length by omega)
            obtain ⟨rfl, rfl⟩ : b = b4 ∧ off = off4 := by simpa using hA4
            have hr4l := HI.out q (by omega)
            have hr4 : rw_ L q = L[q] := rw_mem (by omega)
            rw [hr4] at hr4l
            have HR4 := Lib.hid hr4l
            have hpL4 : p < L[q].length := by rw [hr4l]; exact hpl
            have NO2 : Hid (inB (cl L[q] p) 0 (y - 1) = false → HK = false) := Lib.hid fun F => by
              rw [HE.out, List.all_eq_false]
              exact ⟨q, List.mem_range.2 hlt2, by rw [hr4, F]; decide⟩
            have YES2 : Hid (inB (cl L[q] p) 0 (y - 1) = true → ∀ j, j < q + 1 → inB (cl (rw_ L j) p) 0 (y - 1) = true) := Lib.hid fun F j hjk => by
              rcases Nat.lt_or_eq_of_le (Nat.le_of_lt_succ hjk) with h | rfl
              · exact HOK2.out j h
              · rw [hr4]; exact F
            unfold maxLen at hm4
            clear hA4 hr4 hr4l
            generalize L[q] = r4 at *
            obtain ⟨b5, off5, rfl, hb5, hcc5⟩ := hrd4.at (by omega)
            have hc5 := hcc5 p (by omega)
            have hcl4 : cl r4 p = r4[p] := cl_get (by omega)
            rw [hcl4] at NO2 YES2
            have hpr4 : (p : Int) < (r4.length : Int) := by omega
            clear hrd4 hcc5 hcl4
            generalize r4[p] = z at *
            rcases e5 : inB z 0 (y - 1) with _ | _
            · have HW : Hid (∀ W : World, Calls Try.prog 37 #[.int .i64 z, .int .i64 0, .int .i64 (y - 1)] W fun e w' => e = .returned (.bool false) ∧ W = w') := Lib.hid fun W => by have := within_any z 0 (y - 1) W; rw [e5] at this; exact this
              have F := Lib.hid (NO.out (NO2.out e5))
              go_wp2_with fail
              go_quiet ((go_at_call 37; first | exact quiet_left (HW.out _) | exact quiet_add_left (HW.out _)))
              go_wp2
              go_ret
              exact ⟨ret_bool F.out.symm, HFIN2.out _⟩
            · have HW : Hid (∀ W : World, Calls Try.prog 37 #[.int .i64 z, .int .i64 0, .int .i64 (y - 1)] W fun e w' => e = .returned (.bool true) ∧ W = w') := Lib.hid fun W => by have := within_any z 0 (y - 1) W; rw [e5] at this; exact this
              have F := Lib.hid (YES2.out e5)
              go_wp2_with fail
              go_quiet ((go_at_call 37; first | exact quiet_left (HW.out _) | exact quiet_add_left (HW.out _)))
              go_wp2
              go_roundw
              case rel => exact ⟨q + 1, by omega, by go_num, F.out, HFIN3.out _⟩
              case measure => simp [intOf]; omega
          · obtain rfl : q = k := by omega
            have F := Lib.hid (YES.out (by rw [HE.out, List.all_eq_true]; exact fun j hj => HOK2.out j (List.mem_range.1 hj)))
            go_wp2
            go_roundw
            case rel => exact ⟨q + 1, by omega, by go_num, F.out, HFIN2.out 0⟩
            case measure => simp [intOf]; omega
    · obtain rfl : k = L.length := by omega
      have F := Lib.hid (isHerm_yes HOK.out)
      go_wp2
      go_ret
      exact ⟨ret_bool F.out.symm, HFIN.out⟩
end Go.Proofs.Ytnnckojpmnpgbaa
