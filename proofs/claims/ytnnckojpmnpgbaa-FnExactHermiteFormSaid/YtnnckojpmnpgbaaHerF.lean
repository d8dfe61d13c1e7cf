/- The reference's tests of the rows. -/
import Derived.Test.YtnnckojpmnpgbaaHerE
namespace Go.Proofs.Ytnnckojpmnpgbaa
set_option maxRecDepth 20000
set_option linter.unusedVariables false
set_option linter.unusedSimpArgs false
open Go.RowKit

/-- The reference's last pivot ahead of row k. -/
def lastF (L : List (List Int)) (k : Nat) : Int := if k = 0 then -1 else (pivF (rw_ L (k - 1)) : Int)
set_option maxHeartbeats 2400000 in
theorem l27Done_any (v : Value) (L : List (List Int)) (N : Nat) (w : World) (h : RdII w v L) (hl : L.length ≤ 1073741824) (hN : ∀ r ∈ L, r.length = N) (hN3 : N ≤ 1073741824) :
    Calls Try.prog 31 #[v] w fun e w' => e = .returned (.bool (isHerm L && numOk 1000000000 L)) ∧ ∃ n, w' = w.drewN n := by
  have H := Lib.hid h
  have HNN := Lib.hid hN
  obtain ⟨A, cap, rfl, hcap, hm, _⟩ := h.form
  unfold maxLen at hm
  clear h hN
  go_enter Try.func31, Try.ntmps31
  go_wp2
  go_loopw [3, 4] (fun la i wr => ∃ k : Nat, k ≤ L.length ∧ i = .int .i64 k ∧ la = .int .i64 (lastF L k) ∧ (∀ j, j < k → hOk L j = true) ∧ ∃ m, wr = w.drewN m) (fun _ i _ => L.length - (intOf i).toNat)
  case atStart => exact ⟨0, Nat.zero_le _, rfl, rfl, fun j h => absurd h (by omega), 0, rfl⟩
  case round =>
    obtain ⟨k, hk, rfl, rfl, hok, m0, hm0⟩ := hrel
    obtain ⟨w0, rfl⟩ : ∃ w0 : World, w0 = wr := ⟨_, rfl⟩
    have HOK := Lib.hid hok
    have HW0 := Lib.hid hm0
    have HR0 : Hid (RdII w0 (.slice A L.length cap) L) := Lib.hid (by rw [hm0]; exact H.out.drewN m0)
    clear hm0
    have HFIN : Hid (∃ n, w0 = w.drewN n) := Lib.hid ⟨m0, HW0.out⟩
    clear hok
    by_cases hlt : k < L.length
    · obtain ⟨b, off, A1, cap1, rfl, hb, hcell, hc1, hm1', hrd⟩ := HR0.out.at hlt
      have HRD := Lib.hid hrd
      have NO : Hid (hOk L k = false → (isHerm L && numOk 1000000000 L) = false) := Lib.hid fun e => by rw [isHerm_no hlt e]; rfl
      have YES : Hid (hOk L k = true → ∀ j, j < k + 1 → hOk L j = true) := Lib.hid fun F j hjk => by
        rcases Nat.lt_or_eq_of_le (Nat.le_of_lt_succ hjk) with h | rfl
        · exact HOK.out j h
        · exact F
      have HE := Lib.hid (hOk_eq hlt)
      have HRN := Lib.hid (HNN.out L[k] (by simp))
      have HLA : Hid (lastF L (k + 1) = (pivF L[k] : Int)) := Lib.hid (by unfold lastF; rw [if_neg (by omega), Nat.add_sub_cancel, rw_mem hlt])
      have HLE : Hid (∀ p : Nat, ((p : Int) ≤ lastF L k ↔ (decide (k = 0) || decide (pivF (rw_ L (k - 1)) < p)) = false)) := Lib.hid fun p => by
        unfold lastF
        by_cases h0 : k = 0
        · simp [h0]; omega
        · rw [if_neg h0]; simp [h0]
      have hlaI : I64 (lastF L k) := by
        unfold lastF
        split
        · exact ⟨by decide, by decide⟩
        · rename_i h0
          have h1 := piv_le (rw_ L (k - 1))
          rw [rw_mem (show k - 1 < L.length by omega)] at h1 ⊢
          have h2 := HNN.out L[k - 1] (by simp)
          exact ⟨by omega, by omega⟩
      have HLAI := Lib.hid hlaI
      unfold maxLen at hm1'
      clear hrd hlaI
      generalize L[k] = r at *
      generalize hOk L k = HK at *
      generalize lastF L k = la at *
      have hrl : r.length ≤ 1073741824 := by have := HRN.out; omega
      have hple := piv_le r
      have HPZ := Lib.hid (piv_at r)
      have HZ := Lib.hid (zeroL_piv r)
      have HLD : Hid (leadF r = if pivF r < r.length then (pivF r : Int) else -1) := Lib.hid rfl
      have HCL : Hid (∀ j, j < r.length → ∀ h : j < r.length, cl r j = r[j]) := Lib.hid fun j hj h => cl_get h
      have HL0 := Lib.hid (fun W h => l27Zero_any (.slice A1 r.length cap1) r W h hrl)
      have HL1 := Lib.hid (fun W h => l27Lead_any (.slice A1 r.length cap1) r W h hrl)
      generalize leadF r = ld at *
      generalize pivF r = p at *
      generalize zeroL r = zr at *
      go_wp2_with fail
      refine (HL0.out w0 HRD.out.arg).mono ?_
      rintro e w' ⟨rfl, rfl⟩
      rcases e1 : zr with _ | _
      rotate_left
      · have hpe : p = r.length := by have := HZ.out; rw [e1] at this; simpa using this.symm
        have F := Lib.hid (NO.out (by rw [HE.out, decide_eq_false (show ¬ p < r.length by omega)]; rfl))
        clear hpe e1
        go_wp2
        go_ret
        exact ⟨ret_bool F.out.symm, HFIN.out⟩
      have hpl : p < r.length := by
        have h1 := HZ.out
        rw [e1] at h1
        have : ¬ p = r.length := by simpa using h1.symm
        omega
      obtain rfl : ld = (p : Int) := by rw [HLD.out, if_pos hpl]
      go_wp2_with fail
      refine (HL1.out w0 HRD.out).mono ?_
      rintro e w' ⟨rfl, rfl⟩
      rcases e2 : decide ((p : Int) ≤ la) with _ | _
      rotate_left
      · have hle : (p : Int) ≤ la := by simpa using e2
        have F := Lib.hid (NO.out (by rw [HE.out, (HLE.out p).1 hle]; simp))
        clear e1
        go_wp2
        go_ret
        exact ⟨ret_bool F.out.symm, HFIN.out⟩
      have hle : ¬ (p : Int) ≤ la := by simpa using e2
      have hd3 : (decide (k = 0) || decide (pivF (rw_ L (k - 1)) < p)) = true := by
        rcases e : (decide (k = 0) || decide (pivF (rw_ L (k - 1)) < p)) with _ | _
        · exact absurd ((HLE.out p).2 e) hle
        · rfl
      rw [hd3, Bool.and_true] at HE
      clear hd3 e2 e1 HLE
      go_wp2_with fail
      refine (HL1.out w0 HRD.out).mono ?_
      rintro e w' ⟨rfl, rfl⟩
      obtain ⟨b2, off2, rfl, hb2, hcc⟩ := HRD.out.at (by omega)
      have hc2 := hcc p hpl
      have hyl := HCL.out p hpl hpl
      have hyI : I64 r[p] := HRD.out.2 _ (by simp)
      rw [hyl] at HE
      have hpr : (p : Int) < (r.length : Int) := by omega
      have HI : Hid (∀ (q : Nat), q < L.length → (rw_ L q).length = r.length) := Lib.hid fun q hq => by rw [rw_mem hq, HNN.out _ (List.getElem_mem hq), HRN.out]
      clear hcc hyl HCL HPZ
      generalize r[p] = y at *
      rcases e3 : decide (y < 1) with _ | _
      rotate_left
      · have F := Lib.hid (NO.out (by rw [HE.out, decide_eq_false (show ¬ 0 < y by simp at e3; omega)]; simp))
        go_wp2
        go_ret
        exact ⟨ret_bool F.out.symm, HFIN.out⟩
      have hy : 0 < y := by simp at e3; omega
      have hd1 : decide (p < r.length) = true := decide_eq_true hpl
      have hd2 : decide (0 < y) = true := decide_eq_true hy
      rw [hd1, hd2, Bool.and_self, Bool.true_and] at HE
      have hw1 : IntKind.i64.wrap (y - 1) = y - 1 := by rw [wrap_i64_eq]; exact IntWalk.wrap64_in _ ⟨by omega, by have := hyI.2; omega⟩
      have hw2 : wrap64 (y - 1) = y - 1 := IntWalk.wrap64_in _ ⟨by omega, by have := hyI.2; omega⟩
      clear hd1 hd2 hyI
      go_wp2
      go_loopw [5] (fun i wr => ∃ q : Nat, q ≤ k ∧ i = .int .i64 q ∧ (∀ j, j < q → inB (cl (rw_ L j) p) 0 (y - 1) = true) ∧ ∃ m, wr = w0.drewN m) (fun i _ => k - (intOf i).toNat)
      case atStart => exact ⟨0, Nat.zero_le _, rfl, fun j h => absurd h (by omega), 0, rfl⟩
      case round =>
        obtain ⟨q, hq, rfl, hok, m1, hm1q⟩ := hrel
        have HR1 : Hid (RdII wr (.slice (some ⟨b, off, none⟩) L.length cap) L) := Lib.hid (by rw [hm1q]; exact HR0.out.drewN m1)
        have HFIN2 : Hid (∀ n, ∃ n', wr.drewN n = w.drewN n') := Lib.hid fun n => by obtain ⟨a, ha⟩ := HFIN.out; exact ⟨_, by rw [hm1q, ha, World.drewN_drewN, World.drewN_drewN]⟩
        have HFIN3 : Hid (∀ n, ∃ n', wr.drewN n = w0.drewN n') := Lib.hid fun n => ⟨_, by rw [hm1q, World.drewN_drewN]⟩
        have hc2q : wr.cell? ⟨b2, off2 + p, none⟩ = some (.int .i64 y) := by rw [hm1q]; exact hc2
        have hcellq : wr.cell? ⟨b, off + k, none⟩ = some (.slice (some ⟨b2, off2, none⟩) r.length cap1) := by rw [hm1q]; exact hcell
        clear hm1q
        have HOK2 := Lib.hid hok
        clear hok
        have hkL : (k : Int) < (L.length : Int) := by omega
        by_cases hlt2 : q < k
        · obtain ⟨b4, off4, A4, cap4, hA4, hb4, hcell4, hc4, hm4, hrd4⟩ := HR1.out.at (show q < L.length by omega)
          obtain ⟨rfl, rfl⟩ : b = b4 ∧ off = off4 := by simpa using hA4
          have hr4l := HI.out q (by omega)
          have hr4 : rw_ L q = L[q] := rw_mem (by omega)
          rw [hr4] at hr4l
          have HR4 := Lib.hid hr4l
          have hpL4 : p < L[q].length := by rw [hr4l]; exact hpl
          have NO2 : Hid (inB (cl L[q] p) 0 (y - 1) = false → HK = false) := Lib.hid fun F => by
            rw [HE.out, List.all_eq_false]
            exact ⟨q, List.mem_range.2 hlt2, by rw [hr4, F]; decide⟩
          have YES2 : Hid (inB (cl L[q] p) 0 (y - 1) = true → ∀ j, j < q + 1 → inB (cl (rw_ L j) p) 0 (y - 1) = true) := Lib.hid fun F j hjk => by
            rcases Nat.lt_or_eq_of_le (Nat.le_of_lt_succ hjk) with h | rfl
            · exact HOK2.out j h
            · rw [hr4]; exact F
          unfold maxLen at hm4
          have hqL : (q : Int) < (L.length : Int) := by omega
          clear hA4 hr4 hr4l
          generalize L[q] = r4 at *
          obtain ⟨b5, off5, rfl, hb5, hcc5⟩ := hrd4.at (by omega)
          have hc5 := hcc5 p (by omega)
          have hcl4 : cl r4 p = r4[p] := cl_get (by omega)
          rw [hcl4] at NO2 YES2
          have hpr4 : (p : Int) < (r4.length : Int) := by omega
          clear hrd4 hcc5 hcl4
          generalize r4[p] = z at *
          rcases e5 : inB z 0 (y - 1) with _ | _
          · have HW : Hid (∀ W : World, Calls Try.prog 36 #[.int .i64 z, .int .i64 0, .int .i64 (y - 1)] W fun e w' => e = .returned (.bool false) ∧ W = w') := Lib.hid fun W => by have := l1In_any z 0 (y - 1) W; rw [e5] at this; exact this
            have F := Lib.hid (NO.out (NO2.out e5))
            go_wp2_with fail
            go_quiet ((go_at_call 36; first | exact quiet_left (HW.out _) | exact quiet_add_left (HW.out _)))
            go_wp2
            go_ret
            exact ⟨ret_bool F.out.symm, HFIN2.out _⟩
          · have HW : Hid (∀ W : World, Calls Try.prog 36 #[.int .i64 z, .int .i64 0, .int .i64 (y - 1)] W fun e w' => e = .returned (.bool true) ∧ W = w') := Lib.hid fun W => by have := l1In_any z 0 (y - 1) W; rw [e5] at this; exact this
            have F := Lib.hid (YES2.out e5)
            go_wp2_with fail
            go_quiet ((go_at_call 36; first | exact quiet_left (HW.out _) | exact quiet_add_left (HW.out _)))
            go_wp2
            go_roundw
            case rel => exact ⟨q + 1, by omega, by go_num, F.out, HFIN3.out _⟩
            case measure => simp [intOf]; omega
        · obtain rfl : q = k := by omega
          have F := Lib.hid (YES.out (by rw [HE.out, List.all_eq_true]; exact fun j hj => HOK2.out j (List.mem_range.1 hj)))
          go_wp2
          go_roundw
          case rel => exact ⟨q + 1, by omega, by go_num, by rw [HLA.out], F.out, HFIN2.out 0⟩
          case measure => simp [intOf]; omega
    · obtain rfl : k = L.length := by omega
      have F : Hid (isHerm L = true) := Lib.hid (isHerm_yes HOK.out)
      go_wp2_with fail
      refine (l27Within_any _ L 1000000000 w0 HR0.out hl (by omega) (by omega)).mono ?_
      rintro e w' ⟨rfl, rfl⟩
      have F2 : Hid ((isHerm L && numOk 1000000000 L) = numOk 1000000000 L) := Lib.hid (by rw [F.out]; rfl)
      go_wp2
      go_ret
      exact ⟨ret_bool F2.out.symm, HFIN.out⟩
theorem lenOk_no {n : Int} {L : List (List Int)} {k : Nat} (hk : k < L.length) (h : ¬ (L[k].length : Int) = n) : lenOk n L = false := by
  unfold lenOk
  rw [List.all_eq_false]
  exact ⟨L[k], by simp, by simpa using h⟩
theorem lenOk_yes {n : Int} {L : List (List Int)} (h : ∀ k (hk : k < L.length), (L[k].length : Int) = n) : lenOk n L = true := by
  unfold lenOk
  rw [List.all_eq_true]
  intro r hr
  obtain ⟨k, hk, rfl⟩ := List.mem_iff_getElem.1 hr
  simpa using h k hk
set_option maxHeartbeats 800000 in
theorem l27Rows_any (v : Value) (L : List (List Int)) (n : Int) (w : World) (h : RdII w v L) (hl : L.length ≤ 1073741824) :
    Calls Try.prog 20 #[v, .int .i64 n] w fun e w' => e = .returned (.bool (rows27 n L)) ∧ ∃ k, w' = w.drewN k := by
  have H := Lib.hid h
  obtain ⟨A, cap, rfl, hcap, hm, _⟩ := h.form
  unfold maxLen at hm
  clear h
  have HR : Hid (rows27 n L = (inB n 1 3 && decide (L.length ≤ 100) && lenOk n L && (numOk 100 L || (isHerm L && numOk 1000000000 L)))) := Lib.hid rfl
  generalize rows27 n L = R at *
  go_enter Try.func20, Try.ntmps20
  go_wp2_with fail
  refine (l1In_any _ _ _ _).mono ?_
  rintro e w' ⟨rfl, rfl⟩
  rcases e1 : inB n 1 3 with _ | _
  · have F : Hid (R = false) := Lib.hid (by rw [HR.out, e1]; rfl)
    clear e1
    go_wp2
    go_ret
    exact ⟨ret_bool F.out.symm, 0, rfl⟩
  have hn := inB_iff.1 e1
  rcases e2 : decide ((100 : Int) < (L.length : Int)) with _ | _
  rotate_left
  · have F : Hid (R = false) := Lib.hid (by rw [HR.out, e1, decide_eq_false (show ¬ L.length ≤ 100 by simp at e2; omega)]; rfl)
    clear e1
    go_wp2
    go_ret
    exact ⟨ret_bool F.out.symm, 0, rfl⟩
  have hlen : L.length ≤ 100 := by simp at e2; omega
  rw [e1, decide_eq_true hlen, Bool.and_self, Bool.true_and] at HR
  clear e1
  go_wp2
  go_loop [5] (fun i => ∃ k : Nat, k ≤ L.length ∧ i = .int .i64 k ∧ ∀ j (hj : j < L.length), j < k → (L[j].length : Int) = n) (fun i => L.length - (intOf i).toNat)
  case atStart => exact ⟨0, Nat.zero_le _, rfl, fun j hj h => absurd h (by omega)⟩
  case round =>
    obtain ⟨k, hk, rfl, hok⟩ := hrel
    have HOK := Lib.hid hok
    clear hok
    by_cases hlt : k < L.length
    · obtain ⟨b, off, A1, cap1, rfl, hb, hcell, hc1, hm1', hrd⟩ := H.out.at hlt
      have NO : Hid (¬ (L[k].length : Int) = n → lenOk n L = false) := Lib.hid (lenOk_no hlt)
      have YES : Hid ((L[k].length : Int) = n → ∀ j (hj : j < L.length), j < k + 1 → (L[j].length : Int) = n) := Lib.hid fun F j hj hjk => by
        rcases Nat.lt_or_eq_of_le (Nat.le_of_lt_succ hjk) with h | rfl
        · exact HOK.out j hj h
        · exact F
      unfold maxLen at hm1'
      clear hrd
      generalize L[k] = r at *
      rcases e3 : (((r.length : Nat) : Int) != n) with _ | _
      · have F := Lib.hid (YES.out (by simpa using e3))
        go_wp2
        go_round
        case rel => exact ⟨k + 1, by omega, by go_num, F.out⟩
        case measure => simp [intOf]; omega
      · have F : Hid (R = false) := Lib.hid (by rw [HR.out, NO.out (by simpa using e3)]; rfl)
        go_wp2
        go_ret
        exact ⟨ret_bool F.out.symm, 0, rfl⟩
    · obtain rfl : k = L.length := by omega
      have hlo : lenOk n L = true := lenOk_yes fun k hk => HOK.out k hk hk
      rw [hlo, Bool.true_and] at HR
      have HNN : Hid (∀ r ∈ L, r.length = n.toNat) := Lib.hid fun r hr => by have := len_mem hlo hr; omega
      clear hlo
      go_wp2_with fail
      refine (l27Within_any _ L 100 w H.out hl (by omega) (by omega)).mono ?_
      rintro e w' ⟨rfl, rfl⟩
      rcases e4 : numOk 100 L with _ | _
      rotate_left
      · have F : Hid (R = true) := Lib.hid (by rw [HR.out, e4]; rfl)
        clear e4
        go_wp2
        go_ret
        exact ⟨ret_bool F.out.symm, 0, rfl⟩
      rw [e4, Bool.false_or] at HR
      clear e4
      go_wp2_with fail
      refine (l27Done_any _ L n.toNat w H.out hl HNN.out (by omega)).mono ?_
      rintro e w' ⟨rfl, m, rfl⟩
      go_wp2
      go_ret
      exact ⟨ret_bool HR.out.symm, m, rfl⟩
end Go.Proofs.Ytnnckojpmnpgbaa
