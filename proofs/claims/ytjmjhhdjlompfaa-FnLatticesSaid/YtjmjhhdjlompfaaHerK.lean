/- The reference's HermiteForm. Lists of rows: a row taken out into a new list, a new row stored; a column's round that changes nothing. A region that draws its order and ends in 'x[i] = f(..)': the two moves of x and i first, quiet operations, the call, the address, the store. The reference's copy of a list of rows. The reference's tests of the rows. The reference's small functions of the Hermite form. -/
import Derived.Test.YtjmjhhdjlompfaaHerG0
import Derived.Test.YtjmjhhdjlompfaaExp
import Derived.Deep.RegionHeld3
import Derived.Test.YtjmjhhdjlompfaaQuiC
namespace Go.Proofs.Ytjmjhhdjlompfaa
set_option maxRecDepth 20000
set_option linter.unusedVariables false
set_option linter.unusedSimpArgs false
open Go.RowKit

def leadF (xs : List Int) : Int := if pivF xs < xs.length then (pivF xs : Int) else -1
theorem zeroL_piv (xs : List Int) : zeroL xs = decide (pivF xs = xs.length) := by
  by_cases h : pivF xs = xs.length
  · rw [decide_eq_true h]
    refine zeroL_true fun j hj => ?_
    have := piv_zero xs j (by omega)
    rw [cl_get hj] at this
    exact this
  · rw [decide_eq_false h]
    have hp : pivF xs < xs.length := by have := piv_le xs; omega
    have := piv_at xs hp
    rw [cl_get hp] at this
    exact zeroL_false _ hp this
theorem subR_take (xs : List Int) (q : Int) (ys : List Int) (k : Nat) (h : k < xs.length) (h' : k < ys.length) : (subR xs q ys).take (k + 1) = (subR xs q ys).take k ++ [wS xs[k] q ys[k]] := by
  have hl : k < (subR xs q ys).length := by rw [subR_len]; exact h
  have e : (subR xs q ys)[k] = wS xs[k] q ys[k] := by
    rw [← cl_get hl, subR_cl xs q ys k h, cl_get h, cl_get h']
  rw [List.take_succ_eq_append_getElem hl, e]
set_option maxHeartbeats 1000000 in
theorem l27Less_any (v u : Value) (xs ys : List Int) (q : Int) (w : World) (h : RdI w v xs) (h' : RdI w u ys) (hle : xs.length ≤ ys.length) (hl : xs.length ≤ 1073741824) :
    Calls Try.prog 23 #[v, u, .int .i64 q] w fun e w' => ∃ r, e = .returned r ∧ OwI w' w.heap.size r (subR xs q ys) ∧ Below w.heap.size w w' := by
  have H := Lib.hid h
  have H' := Lib.hid h'
  obtain ⟨A, cap, rfl, hc, hm, _⟩ := h.arg
  obtain ⟨Au, capu, rfl, hcu, hmu, _⟩ := h'.arg
  unfold maxLen at hm hmu
  clear h h'
  go_enter Try.func23, Try.ntmps23
  go_wp2
  go_loopw [7, 8] (fun out i wr => ∃ k : Nat, k ≤ xs.length ∧ i = .int .i64 k ∧ OwI wr w.heap.size out ((subR xs q ys).take k) ∧ Below w.heap.size w wr) (fun _ i _ => xs.length - (intOf i).toNat)
  case atStart => exact ⟨0, Nat.zero_le _, rfl, OwI_lit _ [] I64s_nil (by simp) (Nat.le_refl _), (Below.refl _ _).alloc (Nat.le_refl _) _⟩
  case round =>
    obtain ⟨k, hk, rfl, hown, hbel⟩ := hrel
    have HO := Lib.hid hown
    have HB := Lib.hid hbel
    have hsz := hbel.size
    obtain ⟨Ao, co, rfl, _⟩ := OwI.form hown
    by_cases hlt : k < xs.length
    · obtain ⟨b1, off1, rfl, hb1, hcc1⟩ := (H.out.below hbel).at (by omega)
      obtain ⟨b2, off2, rfl, hb2, hcc2⟩ := (H'.out.below hbel).at (by omega)
      have c1 := hcc1 k hlt
      have c2 := hcc2 k (by omega)
      have hb1' : b1 < w.heap.size := by
        obtain ⟨b, o, e, h, _⟩ := H.out.at (by omega)
        obtain ⟨rfl, _⟩ : b1 = b ∧ off1 = o := by simpa using e
        exact h
      have hb2' : b2 < w.heap.size := by
        obtain ⟨b, o, e, h, _⟩ := H'.out.at (by omega)
        obtain ⟨rfl, _⟩ : b2 = b ∧ off2 = o := by simpa using e
        exact h
      have HS := Lib.hid (subR_take xs q ys k hlt (by omega))
      have hky : (k : Int) < (ys.length : Int) := by omega
      have htl : ((subR xs q ys).take k).length ≤ 1073741824 := by rw [List.length_take]; omega
      clear hown hbel hcc1 hcc2
      generalize xs[k] = x at *
      generalize ys[k] = y at *
      generalize (subR xs q ys).take k = acc at *
      have HX : Hid (wS x q y = IntKind.i64.wrap (x - IntKind.i64.wrap (q * y))) := Lib.hid (by rw [wrap_i64_eq, wrap_i64_eq]; rfl)
      have HZ : Hid (I64 (IntKind.i64.wrap (x - IntKind.i64.wrap (q * y)))) := Lib.hid (by rw [wrap_i64_eq]; exact I64_wrap0 _)
      have HOF : Hid (∀ b, (Value.slice Ao acc.length co).ownBlock = some b → w.heap.size ≤ b) := Lib.hid fun b hb => (HO.out.1.lt b hb).1
      go_wp2_with fail
      go_region_held3 (fun w' => w'.cell? ⟨b1, off1 + k, none⟩ = some (.int .i64 x) ∧ w'.cell? ⟨b2, off2 + k, none⟩ = some (.int .i64 y))
        (first | go_keep | (refine ⟨?_, ?_⟩ <;> (rw [hcg _ _ (by omega)]; simp [go_sem, *])))
        (first | (refine step_append_ints rfl (.tmp 16) (.tmp 28) rfl w.heap.size _ acc (HO.out.drew.alloc _) (by rfl) _ [IntKind.i64.wrap (x - IntKind.i64.wrap (q * y))] (RdI_new1 _ _ HZ.out) (by rfl) (by simp; omega) (by simp; omega) ?_; intro v1 w1 o1 g1 p1; have O1 := Lib.hid o1; have G1 := Lib.hid g1; have hz1 := g1.size; simp at hz1; obtain ⟨A1, cap1, rfl, _⟩ := OwI.form o1; have hcg : ∀ b o, b < w.heap.size → w1.cell? ⟨b, o, none⟩ = wr.cell? ⟨b, o, none⟩ := (fun b o hb => (World.cell?_of_block (g1.block b (by simp; omega) (fun e => by have := HOF.out b e.symm; omega))).trans (by simp [go_sem, show b < wr.heap.size by omega])); clear o1 g1 p1))
      go_wp2
      go_roundw
      case rel => exact ⟨k + 1, by omega, by go_num, by rw [HS.out, HX.out]; simpa using O1.out, (HB.out.drew.alloc (show w.heap.size ≤ wr.heap.size by omega) _).grown G1.out (by have hq : wr.drew.heap.size = wr.heap.size := rfl; simp; omega) HOF.out⟩
      case measure => simp [intOf]; omega
    · obtain rfl : k = xs.length := by omega
      have hT : (subR xs q ys).take xs.length = subR xs q ys := by rw [← subR_len xs q ys, List.take_length]
      clear hown
      rw [hT] at HO
      simp only [hT]
      clear hT
      go_wp2
      go_ret
      exact ⟨_, rfl, HO.out, hbel⟩
set_option maxHeartbeats 400000 in
theorem l27Lead_any (v : Value) (xs : List Int) (w : World) (h : RdI w v xs) (hl : xs.length ≤ 1073741824) :
    Calls Try.prog 32 #[v] w fun e w' => e = .returned (.int .i64 (leadF xs)) ∧ w = w' := by
  have H := Lib.hid h
  obtain ⟨A, cap, rfl, hcap, hm, _⟩ := h.arg
  clear h
  have HP : Hid (pivF xs = pivF (xs.drop 0) + 0) := Lib.hid rfl
  have HL : Hid (leadF xs = if pivF xs < xs.length then (pivF xs : Int) else -1) := Lib.hid rfl
  generalize leadF xs = R at *
  generalize pivF xs = P at *
  go_enter Try.func32, Try.ntmps32
  go_wp2
  go_loop [3] (fun i => ∃ k : Nat, k ≤ xs.length ∧ i = .int .i64 k ∧ P = pivF (xs.drop k) + k) (fun i => xs.length - (intOf i).toNat)
  case atStart => exact ⟨0, Nat.zero_le _, rfl, HP.out⟩
  case round =>
    obtain ⟨k, hk, rfl, hP⟩ := hrel
    have HPK := Lib.hid hP
    clear hP
    by_cases hlt : k < xs.length
    · obtain ⟨b, off, rfl, hbl, hc⟩ := H.out.at (by omega)
      have hcell := hc k hlt
      have HD := Lib.hid (piv_drop hlt)
      clear hc
      generalize xs[k] = x at *
      rcases e1 : (x != 0) with _ | _
      · have F : Hid (P = pivF (xs.drop (k + 1)) + (k + 1)) := Lib.hid (by rw [HPK.out, HD.out, if_neg (by simpa using e1)]; omega)
        go_wp2
        go_round
        case rel => exact ⟨k + 1, by omega, by go_num, F.out⟩
        case measure => simp [intOf]; omega
      · have F : Hid (R = k) := Lib.hid (by
          have hPk : P = k := by rw [HPK.out, HD.out, if_pos (by simpa using e1)]; omega
          rw [HL.out, hPk, if_pos hlt])
        go_wp2
        go_ret
        exact ⟨ret_int (by rw [F.out]), rfl⟩
    · obtain rfl : k = xs.length := by omega
      have F : Hid (R = -1) := Lib.hid (by
        have hPk : P = xs.length := by rw [HPK.out, List.drop_length]; simp [pivF]
        rw [HL.out, hPk, if_neg (Nat.lt_irrefl _)])
      go_wp2
      go_ret
      exact ⟨ret_int (by rw [F.out]), rfl⟩
set_option maxHeartbeats 400000 in
theorem l27Floor_any (a b : Int) (w : World) (hb : 0 < b) :
    Calls Try.prog 24 #[.int .i64 a, .int .i64 b] w fun e w' => e = .returned (.int .i64 (floorW a b)) ∧ w = w' := by
  have hb0 : ¬ b = 0 := by omega
  have hb1 : ¬ b = -1 := by omega
  have hbn : decide (b < 0) = false := decide_eq_false (by omega)
  have hbn' : ¬ b < 0 := by omega
  have HF : Hid (floorW a b = if Int.tmod a b < 0 then wrap64 (quoW a b - 1) else quoW a b) := Lib.hid rfl
  have HQ : Hid (quoW a b = wrap64 (Int.tdiv a b)) := Lib.hid rfl
  have HS1 : Hid (0 ≤ a → 0 ≤ Int.tmod a b) := Lib.hid fun h => Int.tmod_nonneg b h
  have HS2 : Hid (a < 0 → Int.tmod a b ≤ 0) := Lib.hid fun h => by
    have h1 := Int.neg_tmod a b
    have h2 := Int.tmod_nonneg b (show 0 ≤ -a by omega)
    omega
  generalize floorW a b = F at *
  go_enter Try.func24, Try.ntmps24
  rcases e1 : (Int.tmod a b != 0) with _ | _
  · have HF' : Hid (F = quoW a b) := Lib.hid (by rw [HF.out, if_neg (by simp at e1; omega)])
    go_wp2
    go_ret
    exact ⟨ret_int (by rw [HF'.out, HQ.out]), rfl⟩
  · rcases e2 : decide (a < 0) with _ | _
    · have HF' : Hid (F = quoW a b) := Lib.hid (by rw [HF.out, if_neg (by have := HS1.out (by simp at e2; omega); omega)])
      go_wp2
      go_ret
      exact ⟨ret_int (by rw [HF'.out, HQ.out]), rfl⟩
    · have HF' : Hid (F = wrap64 (quoW a b - 1)) := Lib.hid (by rw [HF.out, if_pos (by have := HS2.out (by simpa using e2); have : Int.tmod a b ≠ 0 := (by simpa using e1); omega)])
      go_wp2
      go_ret
      exact ⟨ret_int (by rw [HF'.out, HQ.out]), rfl⟩
theorem numOk_no {m : Int} {L : List (List Int)} {k q : Nat} (hk : k < L.length) (hq : q < L[k].length) (h : inB L[k][q] (-m) m = false) : numOk m L = false := by
  unfold numOk
  rw [List.all_eq_false]
  refine ⟨L[k], by simp, ?_⟩
  rw [Bool.not_eq_true, List.all_eq_false]
  exact ⟨L[k][q], by simp, by rw [h]; decide⟩
theorem numOk_yes {m : Int} {L : List (List Int)} (h : ∀ k (hk : k < L.length) q (hq : q < L[k].length), inB L[k][q] (-m) m = true) : numOk m L = true := by
  unfold numOk
  rw [List.all_eq_true]
  intro r hr
  obtain ⟨k, hk, rfl⟩ := List.mem_iff_getElem.1 hr
  rw [List.all_eq_true]
  intro x hx
  obtain ⟨q, hq, rfl⟩ := List.mem_iff_getElem.1 hx
  exact h k hk q hq
set_option maxHeartbeats 800000 in
theorem l27Within_any (v : Value) (L : List (List Int)) (m : Int) (w : World) (h : RdII w v L) (hl : L.length ≤ 1073741824) (hm0 : 0 ≤ m) (hm1 : m ≤ 1000000000) :
    Calls Try.prog 31 #[v, .int .i64 m] w fun e w' => e = .returned (.bool (numOk m L)) ∧ w = w' := by
  have H := Lib.hid h
  obtain ⟨A, cap, rfl, hcap, hm, _⟩ := h.form
  unfold maxLen at hm
  have hneg : wrap64 (-m) = -m := IntWalk.wrap64_in _ ⟨by omega, by omega⟩
  have hneg' : IntKind.i64.wrap (-m) = -m := by rw [wrap_i64_eq]; exact hneg
  clear h
  go_enter Try.func31, Try.ntmps31
  go_wp2
  go_loop [5] (fun i => ∃ k : Nat, k ≤ L.length ∧ i = .int .i64 k ∧ ∀ j (hj : j < L.length), j < k → ∀ q (hq : q < L[j].length), inB L[j][q] (-m) m = true) (fun i => L.length - (intOf i).toNat)
  case atStart => exact ⟨0, Nat.zero_le _, rfl, fun j hj h => absurd h (by omega)⟩
  case round =>
    obtain ⟨k, hk, rfl, hok⟩ := hrel
    have HOK := Lib.hid hok
    clear hok
    by_cases hlt : k < L.length
    · obtain ⟨b, off, A1, cap1, rfl, hb, hcell, hc1, hm1', hrd⟩ := H.out.at hlt
      have HRD := Lib.hid hrd
      have NO : Hid (∀ q (hq : q < L[k].length), inB L[k][q] (-m) m = false → numOk m L = false) := Lib.hid fun q hq => numOk_no hlt hq
      have YES : Hid ((∀ q (hq : q < L[k].length), inB L[k][q] (-m) m = true) → ∀ j (hj : j < L.length), j < k + 1 → ∀ q (hq : q < L[j].length), inB L[j][q] (-m) m = true) := Lib.hid fun F j hj hjk => by
        rcases Nat.lt_or_eq_of_le (Nat.le_of_lt_succ hjk) with h | rfl
        · exact HOK.out j hj h
        · exact F
      unfold maxLen at hm1'
      clear hrd
      generalize L[k] = r at *
      go_wp2
      go_loop [6] (fun i => ∃ q : Nat, q ≤ r.length ∧ i = .int .i64 q ∧ ∀ j (hj : j < r.length), j < q → inB r[j] (-m) m = true) (fun i => r.length - (intOf i).toNat)
      case atStart => exact ⟨0, Nat.zero_le _, rfl, fun j hj h => absurd h (by omega)⟩
      case round =>
        obtain ⟨q, hq, rfl, hok⟩ := hrel
        have HOK2 := Lib.hid hok
        clear hok
        by_cases hlt2 : q < r.length
        · obtain ⟨b2, off2, rfl, hb2, hcc⟩ := HRD.out.at (by omega)
          have hc2 := hcc q hlt2
          have NO2 := Lib.hid (NO.out q hlt2)
          have YES2 : Hid (inB r[q] (-m) m = true → ∀ j (hj : j < r.length), j < q + 1 → inB r[j] (-m) m = true) := Lib.hid fun F j hj hjk => by
            rcases Nat.lt_or_eq_of_le (Nat.le_of_lt_succ hjk) with h | rfl
            · exact HOK2.out j hj h
            · exact F
          clear hcc
          generalize r[q] = x at *
          go_wp2_with fail
          refine (l1In_any _ _ _ _).mono ?_
          rintro e w' ⟨rfl, rfl⟩
          rcases e2 : inB x (-m) m with _ | _
          · have F := Lib.hid (NO2.out e2)
            go_wp2
            go_ret
            exact ⟨ret_bool F.out.symm, rfl⟩
          · have F := Lib.hid (YES2.out e2)
            go_wp2
            go_round
            case rel => exact ⟨q + 1, by omega, by go_num, F.out⟩
            case measure => simp [intOf]; omega
        · obtain rfl : q = r.length := by omega
          have F := Lib.hid (YES.out fun k hk => HOK2.out k hk hk)
          go_wp2
          go_round
          case rel => exact ⟨k + 1, by omega, by go_num, F.out⟩
          case measure => simp [intOf]; omega
    · obtain rfl : k = L.length := by omega
      have F := Lib.hid (numOk_yes (m := m) fun k hk => HOK.out k hk hk)
      go_wp2
      go_ret
      exact ⟨ret_bool F.out.symm, rfl⟩
/-- The reference's last pivot ahead of row k. -/
def lastF (L : List (List Int)) (k : Nat) : Int := if k = 0 then -1 else (pivF (rw_ L (k - 1)) : Int)
set_option maxHeartbeats 2400000 in
theorem l27Done_any (v : Value) (L : List (List Int)) (N : Nat) (w : World) (h : RdII w v L) (hl : L.length ≤ 1073741824) (hN : ∀ r ∈ L, r.length = N) (hN3 : N ≤ 1073741824) :
    Calls Try.prog 21 #[v] w fun e w' => e = .returned (.bool (isHerm L && numOk 1000000000 L)) ∧ ∃ n, w' = w.drewN n := by
  have H := Lib.hid h
  have HNN := Lib.hid hN
  obtain ⟨A, cap, rfl, hcap, hm, _⟩ := h.form
  unfold maxLen at hm
  clear h hN
  go_enter Try.func21, Try.ntmps21
  go_wp2
  go_loopw [3, 4] (fun la i wr => ∃ k : Nat, k ≤ L.length ∧ i = .int .i64 k ∧ la = .int .i64 (lastF L k) ∧ (∀ j, j < k → hOk L j = true) ∧ ∃ m, wr = w.drewN m) (fun _ i _ => L.length - (intOf i).toNat)
  case atStart => exact ⟨0, Nat.zero_le _, rfl, rfl, fun j h => absurd h (by omega), 0, rfl⟩
  case round =>
    obtain ⟨k, hk, rfl, rfl, hok, m0, hm0⟩ := hrel
    obtain ⟨w0, rfl⟩ : ∃ w0 : World, w0 = wr := ⟨_, rfl⟩
    have HOK := Lib.hid hok
    have HW0 := Lib.hid hm0
    have HR0 : Hid (RdII w0 (.slice A L.length cap) L) := Lib.hid (by rw [hm0]; exact H.out.drewN m0)
    clear hm0
    have HFIN : Hid (∃ n, w0 = w.drewN n) := Lib.hid ⟨m0, HW0.out⟩
    clear hok
    by_cases hlt : k < L.length
    · obtain ⟨b, off, A1, cap1, rfl, hb, hcell, hc1, hm1', hrd⟩ := HR0.out.at hlt
      have HRD := Lib.hid hrd
      have NO : Hid (hOk L k = false → (isHerm L && numOk 1000000000 L) = false) := Lib.hid fun e => by rw [isHerm_no hlt e]; rfl
      have YES : Hid (hOk L k = true → ∀ j, j < k + 1 → hOk L j = true) := Lib.hid fun F j hjk => by
        rcases Nat.lt_or_eq_of_le (Nat.le_of_lt_succ hjk) with h | rfl
        · exact HOK.out j h
        · exact F
      have HE := Lib.hid (hOk_eq hlt)
      have HRN := Lib.hid (HNN.out L[k] (by simp))
      have HLA : Hid (lastF L (k + 1) = (pivF L[k] : Int)) := Lib.hid (by unfold lastF; rw [if_neg (by omega), Nat.add_sub_cancel, rw_mem hlt])
      have HLE : Hid (∀ p : Nat, ((p : Int) ≤ lastF L k ↔ (decide (k = 0) || decide (pivF (rw_ L (k - 1)) < p)) = false)) := Lib.hid fun p => by
        unfold lastF
        by_cases h0 : k = 0
        · simp [h0]; omega
        · rw [if_neg h0]; simp [h0]
      have hlaI : I64 (lastF L k) := by
        unfold lastF
        split
        · exact ⟨by decide, by decide⟩
        · rename_i h0
          have h1 := piv_le (rw_ L (k - 1))
          rw [rw_mem (show k - 1 < L.length by omega)] at h1 ⊢
          have h2 := HNN.out L[k - 1] (by simp)
          exact ⟨by omega, by omega⟩
      have HLAI := Lib.hid hlaI
      unfold maxLen at hm1'
      clear hrd hlaI
      generalize L[k] = r at *
      generalize hOk L k = HK at *
      generalize lastF L k = la at *
      have hrl : r.length ≤ 1073741824 := by have := HRN.out; omega
      have hple := piv_le r
      have HPZ := Lib.hid (piv_at r)
      have HZ := Lib.hid (zeroL_piv r)
      have HLD : Hid (leadF r = if pivF r < r.length then (pivF r : Int) else -1) := Lib.hid rfl
      have HCL : Hid (∀ j, j < r.length → ∀ h : j < r.length, cl r j = r[j]) := Lib.hid fun j hj h => cl_get h
      have HL0 := Lib.hid (fun W h => l27Zero_any (.slice A1 r.length cap1) r W h hrl)
      have HL1 := Lib.hid (fun W h => l27Lead_any (.slice A1 r.length cap1) r W h hrl)
      generalize leadF r = ld at *
      generalize pivF r = p at *
      generalize zeroL r = zr at *
      go_wp2_with fail
      refine (HL0.out w0 HRD.out.arg).mono ?_
      rintro e w' ⟨rfl, rfl⟩
      rcases e1 : zr with _ | _
      rotate_left
      · have hpe : p = r.length := by have := HZ.out; rw [e1] at this; simpa using this.symm
        have F := Lib.hid (NO.out (by rw [HE.out, decide_eq_false (show ¬ p < r.length by omega)]; rfl))
        clear hpe e1
        go_wp2
        go_ret
        exact ⟨ret_bool F.out.symm, HFIN.out⟩
      have hpl : p < r.length := by
        have h1 := HZ.out
        rw [e1] at h1
        have : ¬ p = r.length := by simpa using h1.symm
        omega
      obtain rfl : ld = (p : Int) := by rw [HLD.out, if_pos hpl]
      go_wp2_with fail
      refine (HL1.out w0 HRD.out).mono ?_
      rintro e w' ⟨rfl, rfl⟩
      rcases e2 : decide ((p : Int) ≤ la) with _ | _
      rotate_left
      · have hle : (p : Int) ≤ la := by simpa using e2
        have F := Lib.hid (NO.out (by rw [HE.out, (HLE.out p).1 hle]; simp))
        clear e1
        go_wp2
        go_ret
        exact ⟨ret_bool F.out.symm, HFIN.out⟩
      have hle : ¬ (p : Int) ≤ la := by simpa using e2
      have hd3 : (decide (k = 0) || decide (pivF (rw_ L (k - 1)) < p)) = true := by
        rcases e : (decide (k = 0) || decide (pivF (rw_ L (k - 1)) < p)) with _ | _
        · exact absurd ((HLE.out p).2 e) hle
        · rfl
      rw [hd3, Bool.and_true] at HE
      clear hd3 e2 e1 HLE
      go_wp2_with fail
      refine (HL1.out w0 HRD.out).mono ?_
      rintro e w' ⟨rfl, rfl⟩
      obtain ⟨b2, off2, rfl, hb2, hcc⟩ := HRD.out.at (by omega)
      have hc2 := hcc p hpl
      have hyl := HCL.out p hpl hpl
      have hyI : I64 r[p] := HRD.out.2 _ (by simp)
      rw [hyl] at HE
      have hpr : (p : Int) < (r.length : Int) := by omega
      have HI : Hid (∀ (q : Nat), q < L.length → (rw_ L q).length = r.length) := Lib.hid fun q hq => by rw [rw_mem hq, HNN.out _ (List.getElem_mem hq), HRN.out]
      clear hcc hyl HCL HPZ
      generalize r[p] = y at *
      rcases e3 : decide (y < 1) with _ | _
      rotate_left
      · have F := Lib.hid (NO.out (by rw [HE.out, decide_eq_false (show ¬ 0 < y by simp at e3; omega)]; simp))
        go_wp2
        go_ret
        exact ⟨ret_bool F.out.symm, HFIN.out⟩
      have hy : 0 < y := by simp at e3; omega
      have hd1 : decide (p < r.length) = true := decide_eq_true hpl
      have hd2 : decide (0 < y) = true := decide_eq_true hy
      rw [hd1, hd2, Bool.and_self, Bool.true_and] at HE
      have hw1 : IntKind.i64.wrap (y - 1) = y - 1 := by rw [wrap_i64_eq]; exact IntWalk.wrap64_in _ ⟨by omega, by have := hyI.2; omega⟩
      have hw2 : wrap64 (y - 1) = y - 1 := IntWalk.wrap64_in _ ⟨by omega, by have := hyI.2; omega⟩
      clear hd1 hd2 hyI
      go_wp2
      go_loopw [5] (fun i wr => ∃ q : Nat, q ≤ k ∧ i = .int .i64 q ∧ (∀ j, j < q → inB (cl (rw_ L j) p) 0 (y - 1) = true) ∧ ∃ m, wr = w0.drewN m) (fun i _ => k - (intOf i).toNat)
      case atStart => exact ⟨0, Nat.zero_le _, rfl, fun j h => absurd h (by omega), 0, rfl⟩
      case round =>
        obtain ⟨q, hq, rfl, hok, m1, hm1q⟩ := hrel
        have HR1 : Hid (RdII wr (.slice (some ⟨b, off, none⟩) L.length cap) L) := Lib.hid (by rw [hm1q]; exact HR0.out.drewN m1)
        have HFIN2 : Hid (∀ n, ∃ n', wr.drewN n = w.drewN n') := Lib.hid fun n => by obtain ⟨a, ha⟩ := HFIN.out; exact ⟨_, by rw [hm1q, ha, World.drewN_drewN, World.drewN_drewN]⟩
        have HFIN3 : Hid (∀ n, ∃ n', wr.drewN n = w0.drewN n') := Lib.hid fun n => ⟨_, by rw [hm1q, World.drewN_drewN]⟩
        have hc2q : wr.cell? ⟨b2, off2 + p, none⟩ = some (.int .i64 y) := by rw [hm1q]; exact hc2
        have hcellq : wr.cell? ⟨b, off + k, none⟩ = some (.slice (some ⟨b2, off2, none⟩) r.length cap1) := by rw [hm1q]; exact hcell
        clear hm1q
        have HOK2 := Lib.hid hok
        clear hok
        have hkL : (k : Int) < (L.length : Int) := by omega
        by_cases hlt2 : q < k
        · obtain ⟨b4, off4, A4, cap4, hA4, hb4, hcell4, hc4, hm4, hrd4⟩ := HR1.out.at (show q < L.length by omega)
          obtain ⟨rfl, rfl⟩ : b = b4 ∧ off = off4 := by simpa using hA4
          have hr4l := HI.out q (by omega)
          have hr4 : rw_ L q = L[q] := rw_mem (by omega)
          rw [hr4] at hr4l
          have HR4 := Lib.hid hr4l
          have hpL4 : p < L[q].length := by rw [hr4l]; exact hpl
          have NO2 : Hid (inB (cl L[q] p) 0 (y - 1) = false → HK = false) := Lib.hid fun F => by
            rw [HE.out, List.all_eq_false]
            exact ⟨q, List.mem_range.2 hlt2, by rw [hr4, F]; decide⟩
          have YES2 : Hid (inB (cl L[q] p) 0 (y - 1) = true → ∀ j, j < q + 1 → inB (cl (rw_ L j) p) 0 (y - 1) = true) := Lib.hid fun F j hjk => by
            rcases Nat.lt_or_eq_of_le (Nat.le_of_lt_succ hjk) with h | rfl
            · exact HOK2.out j h
            · rw [hr4]; exact F
          unfold maxLen at hm4
          have hqL : (q : Int) < (L.length : Int) := by omega
          clear hA4 hr4 hr4l
          generalize L[q] = r4 at *
          obtain ⟨b5, off5, rfl, hb5, hcc5⟩ := hrd4.at (by omega)
          have hc5 := hcc5 p (by omega)
          have hcl4 : cl r4 p = r4[p] := cl_get (by omega)
          rw [hcl4] at NO2 YES2
          have hpr4 : (p : Int) < (r4.length : Int) := by omega
          clear hrd4 hcc5 hcl4
          generalize r4[p] = z at *
          rcases e5 : inB z 0 (y - 1) with _ | _
          · have HW : Hid (∀ W : World, Calls Try.prog 39 #[.int .i64 z, .int .i64 0, .int .i64 (y - 1)] W fun e w' => e = .returned (.bool false) ∧ W = w') := Lib.hid fun W => by have := l1In_any z 0 (y - 1) W; rw [e5] at this; exact this
            have F := Lib.hid (NO.out (NO2.out e5))
            go_wp2_with fail
            go_quiet ((go_at_call 39; first | exact quiet_left (HW.out _) | exact quiet_add_left (HW.out _)))
            go_wp2
            go_ret
            exact ⟨ret_bool F.out.symm, HFIN2.out _⟩
          · have HW : Hid (∀ W : World, Calls Try.prog 39 #[.int .i64 z, .int .i64 0, .int .i64 (y - 1)] W fun e w' => e = .returned (.bool true) ∧ W = w') := Lib.hid fun W => by have := l1In_any z 0 (y - 1) W; rw [e5] at this; exact this
            have F := Lib.hid (YES2.out e5)
            go_wp2_with fail
            go_quiet ((go_at_call 39; first | exact quiet_left (HW.out _) | exact quiet_add_left (HW.out _)))
            go_wp2
            go_roundw
            case rel => exact ⟨q + 1, by omega, by go_num, F.out, HFIN3.out _⟩
            case measure => simp [intOf]; omega
        · obtain rfl : q = k := by omega
          have F := Lib.hid (YES.out (by rw [HE.out, List.all_eq_true]; exact fun j hj => HOK2.out j (List.mem_range.1 hj)))
          go_wp2
          go_roundw
          case rel => exact ⟨q + 1, by omega, by go_num, by rw [HLA.out], F.out, HFIN2.out 0⟩
          case measure => simp [intOf]; omega
    · obtain rfl : k = L.length := by omega
      have F : Hid (isHerm L = true) := Lib.hid (isHerm_yes HOK.out)
      go_wp2_with fail
      refine (l27Within_any _ L 1000000000 w0 HR0.out hl (by omega) (by omega)).mono ?_
      rintro e w' ⟨rfl, rfl⟩
      have F2 : Hid ((isHerm L && numOk 1000000000 L) = numOk 1000000000 L) := Lib.hid (by rw [F.out]; rfl)
      go_wp2
      go_ret
      exact ⟨ret_bool F2.out.symm, HFIN.out⟩
theorem lenOk_no {n : Int} {L : List (List Int)} {k : Nat} (hk : k < L.length) (h : ¬ (L[k].length : Int) = n) : lenOk n L = false := by
  unfold lenOk
  rw [List.all_eq_false]
  exact ⟨L[k], by simp, by simpa using h⟩
theorem lenOk_yes {n : Int} {L : List (List Int)} (h : ∀ k (hk : k < L.length), (L[k].length : Int) = n) : lenOk n L = true := by
  unfold lenOk
  rw [List.all_eq_true]
  intro r hr
  obtain ⟨k, hk, rfl⟩ := List.mem_iff_getElem.1 hr
  simpa using h k hk
set_option maxHeartbeats 800000 in
theorem l27Rows_any (v : Value) (L : List (List Int)) (n : Int) (w : World) (h : RdII w v L) (hl : L.length ≤ 1073741824) :
    Calls Try.prog 19 #[v, .int .i64 n] w fun e w' => e = .returned (.bool (rows27 n L)) ∧ ∃ k, w' = w.drewN k := by
  have H := Lib.hid h
  obtain ⟨A, cap, rfl, hcap, hm, _⟩ := h.form
  unfold maxLen at hm
  clear h
  have HR : Hid (rows27 n L = (inB n 1 3 && decide (L.length ≤ 100) && lenOk n L && (numOk 100 L || (isHerm L && numOk 1000000000 L)))) := Lib.hid rfl
  generalize rows27 n L = R at *
  go_enter Try.func19, Try.ntmps19
  go_wp2_with fail
  refine (l1In_any _ _ _ _).mono ?_
  rintro e w' ⟨rfl, rfl⟩
  rcases e1 : inB n 1 3 with _ | _
  · have F : Hid (R = false) := Lib.hid (by rw [HR.out, e1]; rfl)
    clear e1
    go_wp2
    go_ret
    exact ⟨ret_bool F.out.symm, 0, rfl⟩
  have hn := inB_iff.1 e1
  rcases e2 : decide ((100 : Int) < (L.length : Int)) with _ | _
  rotate_left
  · have F : Hid (R = false) := Lib.hid (by rw [HR.out, e1, decide_eq_false (show ¬ L.length ≤ 100 by simp at e2; omega)]; rfl)
    clear e1
    go_wp2
    go_ret
    exact ⟨ret_bool F.out.symm, 0, rfl⟩
  have hlen : L.length ≤ 100 := by simp at e2; omega
  rw [e1, decide_eq_true hlen, Bool.and_self, Bool.true_and] at HR
  clear e1
  go_wp2
  go_loop [5] (fun i => ∃ k : Nat, k ≤ L.length ∧ i = .int .i64 k ∧ ∀ j (hj : j < L.length), j < k → (L[j].length : Int) = n) (fun i => L.length - (intOf i).toNat)
  case atStart => exact ⟨0, Nat.zero_le _, rfl, fun j hj h => absurd h (by omega)⟩
  case round =>
    obtain ⟨k, hk, rfl, hok⟩ := hrel
    have HOK := Lib.hid hok
    clear hok
    by_cases hlt : k < L.length
    · obtain ⟨b, off, A1, cap1, rfl, hb, hcell, hc1, hm1', hrd⟩ := H.out.at hlt
      have NO : Hid (¬ (L[k].length : Int) = n → lenOk n L = false) := Lib.hid (lenOk_no hlt)
      have YES : Hid ((L[k].length : Int) = n → ∀ j (hj : j < L.length), j < k + 1 → (L[j].length : Int) = n) := Lib.hid fun F j hj hjk => by
        rcases Nat.lt_or_eq_of_le (Nat.le_of_lt_succ hjk) with h | rfl
        · exact HOK.out j hj h
        · exact F
      unfold maxLen at hm1'
      clear hrd
      generalize L[k] = r at *
      rcases e3 : (((r.length : Nat) : Int) != n) with _ | _
      · have F := Lib.hid (YES.out (by simpa using e3))
        go_wp2
        go_round
        case rel => exact ⟨k + 1, by omega, by go_num, F.out⟩
        case measure => simp [intOf]; omega
      · have F : Hid (R = false) := Lib.hid (by rw [HR.out, NO.out (by simpa using e3)]; rfl)
        go_wp2
        go_ret
        exact ⟨ret_bool F.out.symm, 0, rfl⟩
    · obtain rfl : k = L.length := by omega
      have hlo : lenOk n L = true := lenOk_yes fun k hk => HOK.out k hk hk
      rw [hlo, Bool.true_and] at HR
      have HNN : Hid (∀ r ∈ L, r.length = n.toNat) := Lib.hid fun r hr => by have := len_mem hlo hr; omega
      clear hlo
      go_wp2_with fail
      refine (l27Within_any _ L 100 w H.out hl (by omega) (by omega)).mono ?_
      rintro e w' ⟨rfl, rfl⟩
      rcases e4 : numOk 100 L with _ | _
      rotate_left
      · have F : Hid (R = true) := Lib.hid (by rw [HR.out, e4]; rfl)
        clear e4
        go_wp2
        go_ret
        exact ⟨ret_bool F.out.symm, 0, rfl⟩
      rw [e4, Bool.false_or] at HR
      clear e4
      go_wp2_with fail
      refine (l27Done_any _ L n.toNat w H.out hl HNN.out (by omega)).mono ?_
      rintro e w' ⟨rfl, m, rfl⟩
      go_wp2
      go_ret
      exact ⟨ret_bool HR.out.symm, m, rfl⟩
set_option maxHeartbeats 800000 in
theorem l20Copy_any (v : Value) (L : List (List Int)) (w : World) (h : RdII w v L) (hl : L.length ≤ 1073741824) (hr : ∀ r ∈ L, r.length ≤ 1073741824) :
    Calls Try.prog 20 #[v] w fun e w' => ∃ r, e = .returned r ∧ OwII w.heap.size w'.heap.size r L w' ∧ Below w.heap.size w w' := by
  have H := Lib.hid h
  have HR := Lib.hid hr
  obtain ⟨A, cap, rfl, hcap, hm, _⟩ := h.form
  unfold maxLen at hm
  clear h hr
  have O0 : Hid (OwII w.heap.size (w.alloc (.cells #[] 30)).heap.size (.slice (some ⟨w.heap.size, 0, none⟩) 0 0) [] (w.alloc (.cells #[] 30))) := Lib.hid (by have := OwII_lit (lo := w.heap.size) w (Nat.le_refl _); simpa using this)
  have B0 : Hid (Below w.heap.size w (w.alloc (.cells #[] 30))) := Lib.hid ((Below.refl _ _).alloc (Nat.le_refl _) _)
  go_enter Try.func20, Try.ntmps20
  go_wp2
  go_loopw [3, 4] (fun out i wr => ∃ k : Nat, k ≤ L.length ∧ i = .int .i64 k ∧ OwII w.heap.size wr.heap.size out (L.take k) wr ∧ Below w.heap.size w wr) (fun _ i _ => L.length - (intOf i).toNat)
  case atStart => exact ⟨0, Nat.zero_le _, rfl, O0.out, B0.out⟩
  case round =>
    obtain ⟨k, hk, rfl, hown, hbel⟩ := hrel
    have HO := Lib.hid hown
    have HB := Lib.hid hbel
    have hsz := hbel.size
    obtain ⟨Ao, co, rfl, _⟩ := OwnL.len hown
    by_cases hlt : k < L.length
    · obtain ⟨b, off, A1, cap1, rfl, hb, hcell, hc1, hm1, hrd⟩ := (H.out.below hbel).at hlt
      have HRD := Lib.hid hrd
      have hln := HR.out L[k] (by simp)
      have HTK : Hid (L.take (k + 1) = L.take k ++ [L[k]]) := Lib.hid (List.take_succ_eq_append_getElem hlt)
      have htl : (L.take k).length = k := by rw [List.length_take]; omega
      clear hown hbel hrd
      generalize L[k] = row at *
      generalize L.take k = LK at *
      subst htl
      go_wp2_with (first
        | (at_builtin; refine append_ints rfl (.tmp 13) (.tmp 17) rfl wr.heap.size _ [] (OwI_lit _ [] I64s_nil (by simp) (Nat.le_refl _)) rfl _ _ (HRD.out.alloc _) rfl (by simp; omega) (by simp) ?_; intro v1 w1 o1 g1 p1; have B1 : Hid (Below wr.heap.size wr w1) := Lib.hid (((Below.refl _ _).alloc (Nat.le_refl _) _).grown g1 (by simp) (fun k hk => by simp [Value.ownBlock] at hk; omega)); have O1 : Hid (OwI w1 wr.heap.size v1 row) := Lib.hid (by simpa using o1); have hs1 := B1.out.size; obtain ⟨A2, c2, rfl, _⟩ := OwI.form O1.out; clear o1 g1 p1)
        | (at_builtin; refine push_ints rfl (.tmp 12) (.tmp 19) rfl (w0 := wr) HO.out (by omega) (B1.out.alloc (by omega) _) rfl _ _ _ rfl (O1.out.alloc _) (Nat.le_refl _) (cell_new1 _ _ _) rfl (by omega) ?_; intro vz wz oz gz; have OZ := Lib.hid oz; have GZ := Lib.hid gz; have hz := gz.size; simp at hz; clear oz gz))
      go_roundw
      case rel => exact ⟨LK.length + 1, by omega, by go_num, by rw [HTK.out]; exact OZ.out, ((HB.out.trans (B1.out.mono (by omega))).alloc (by omega) _).grown GZ.out (by simp; omega) fun j hj => (HO.out.lt hj).1⟩
      case measure => simp [intOf]; omega
    · obtain rfl : k = L.length := by omega
      clear hown
      simp only [List.take_length] at HO ⊢
      go_wp2
      go_ret
      exact ⟨_, rfl, HO.out, hbel⟩
def call3eB (ops : Array Oper) (e c : Nat) : Bool :=
  lastB ops (c + 2) && (List.range c).all (fun i => decide (i < e) || (List.range (c + 1)).any fun j => decide (i < j) && waitsB ops j i) &&
  match ops[c]?, ops[c + 1]? with
  | some oc, some om => oc.guard.isNone && om.guard.isNone && oc.apart ops om && (match oc.dst with | some d => !(oc.looksAt ops).contains d | none => false) && (match om.dst with | some d => !(om.looksAt ops).contains d | none => false) && (match oc.op with | .select _ _ => false | _ => true) && (match om.op with | .select _ _ => false | _ => true)
  | _, _ => false

structure C3E (ops ops' : Array Oper) (e c : Nat) (oc om st : Oper) (d tm : Tmp) : Prop where
  ok : LastOk ops ops' (c + 2) st (dumO st)
  getc : ops[c]? = some oc
  getc' : ops'[c]? = some (dumO oc)
  getm : ops[c + 1]? = some om
  getm' : ops'[c + 1]? = some om
  gc : oc.guard = none
  gm : om.guard = none
  dc : oc.dst = some d
  dm : om.dst = some tm
  ap : oc.apart ops om = true
  self : d ∉ oc.looksAt ops
  selfm : tm ∉ om.looksAt ops
  sc : ∀ cs b, oc.op ≠ .select cs b
  sm : ∀ cs b, om.op ≠ .select cs b
  sink : ∀ i, i < c → i < e ∨ ∃ j o, i < j ∧ j ≤ c ∧ ops[j]? = some o ∧ ∃ e ∈ o.after, Region.binds .any e = true ∧ e.on = i


section
variable {P : Program} {ops ops' : Array Oper} {e c : Nat} {oc om st : Oper} {d tm : Tmp}

theorem C3E.head (h : C3E ops ops' e c oc om st d tm) {listed : Array Bool} (hc : Cl ops listed) (hr : c ∈ Region.ready .any ops listed) (hE : ∀ i, i < e → listed.getD i false = true) :
    ∀ (x i : Nat), c - i = x → i < c → listed.getD i false = true := by
  intro x
  induction x using Nat.strongRecOn with
  | _ x ih =>
    intro i hd hi
    rcases h.sink i hi with hie | ⟨j, o, hij, hjc, ho, e', he, hb, rfl⟩
    · exact hE i hie
    by_cases hjn : j = c
    · subst hjn
      obtain ⟨_, o', ho', hall⟩ := mem_ready.1 hr
      rw [ho] at ho'
      injection ho' with ho'
      subst ho'
      exact hall e' he hb
    · exact hc.2 j o ho (ih (c - j) (by omega) j rfl (by omega)) e' he hb
theorem C3E.only (h : C3E ops ops' e c oc om st d tm) {listed : Array Bool} (hc : Cl ops listed) (hn : Near c listed) : Region.ready .any ops listed ≠ [] ∧ ∀ i ∈ Region.ready .any ops listed, i = c + 2 := by
  have hs : listed.size = c + 3 := hc.1.trans h.ok.size
  refine ⟨h.ok.stuck hc.1 (c + 2) (by rw [h.ok.size]; omega) hn.1, fun i hi => ?_⟩
  obtain ⟨h0, o, ho, _⟩ := mem_ready.1 hi
  have hlt : i < c + 3 := by rw [← h.ok.size]; exact (Array.getElem?_eq_some_iff.1 ho).1
  by_cases hi2 : i < c + 2
  · rw [getD_tf (by omega), hn.2 i hi2] at h0
    cases h0
  · omega
theorem C3E.getQ (h : C3E ops ops' e c oc om st d tm) {C : World → Prop} {Q : Act → Prop} {listed : Array Bool} (hc : Cl ops listed) (hn : Near c listed) :
    ∀ {fuel : Nat} {b : Act}, wpAnyQ P .any ops' C Q fuel listed b → Q b := by
  intro fuel b hh
  obtain ⟨hne, hall⟩ := h.only hc hn
  obtain ⟨i, hi⟩ := List.exists_mem_of_ne_nil _ hne
  have hin := hall i hi
  subst hin
  cases fuel with
  | zero => have h1 := hh.1; rw [h.ok.ready] at h1; exact absurd h1 hne
  | succ f =>
    have hq := hh.2 (c + 2) (by rw [h.ok.ready]; exact hi)
    unfold qOp at hq
    simp only [h.ok.hst'] at hq
    rw [if_pos (wanted_none h.ok.guard' _)] at hq
    obtain ⟨v, _, hK⟩ := hq
    rw [h.ok.dst'] at hK
    have hd := h.ok.done hc hi
    cases f with
    | zero => exact hK.2
    | succ _ => exact hK.1 (by rw [h.ok.ready]; exact hd)
theorem C3E.fin (h : C3E ops ops' e c oc om st d tm) {Q' : Exit → Act → World → Prop} {listed : Array Bool} (hc : Cl ops listed) (hn : Near c listed) {a : Act} {w : World}
    (hw : wpList P #[st] Q' [st] a w) : ∀ fuel, wpAny P .any ops Q' (fuel + 1) listed a w := by
  intro fuel
  obtain ⟨hne, hall⟩ := h.only hc hn
  refine ⟨fun h0 => absurd h0 hne, fun i hi => ?_⟩
  have hin := hall i hi
  subst hin
  unfold wpOp
  simp only [h.ok.hst]
  rw [if_pos (wanted_none h.ok.guard _)]
  unfold wpList at hw
  rw [if_pos (wanted_none h.ok.guard _)] at hw
  exact hw.imp (Oper.wp_mono fun a' w' hn' => wpAny_done (h.ok.done hc hi) hn' fuel) id

theorem C3E.main (h : C3E ops ops' e c oc om st d tm) {C : World → Prop} {Q' : Exit → Act → World → Prop} (hsame : ∀ j, j < c → ops'[j]? = ops[j]?) :
    ∀ (fuel : Nat) (listed : Array Bool) (a : Act) (w : World), C w → Cl ops listed → (∀ i, i < e → listed.getD i false = true) → listed.getD c true = false → listed.getD (c + 2) true = false →
    wpAnyQ P .any ops' C (CallAsk P C Q' oc om st d) fuel listed a → wpAny P .any ops Q' fuel listed a w := by
  intro fuel
  have apx := Oper.apart_spec h.ap
  have hdm : some d ≠ some tm := fun e => apx.2.1 d h.dc (by rw [h.dm, e])
  have e_c : ∀ (a : Act) v, execOp (a.put (some d) v).eval oc = execOp a.eval oc := fun a v => execOp_put (ops := ops) oc h.sc a (some d) v fun x hx => by injection hx with hx; subst hx; exact h.self
  have e_cm : ∀ (a : Act) v, execOp (a.put (some tm) v).eval oc = execOp a.eval oc := fun a v => execOp_put (ops := ops) oc h.sc a (some tm) v fun x hx => apx.2.2 x (by rw [h.dm, hx])
  have e_m : ∀ (a : Act) v, execOp (a.put (some d) v).eval om = execOp a.eval om := fun a v => execOp_put (ops := ops) om h.sm a (some d) v fun x hx => apx.1 x (by rw [h.dc, hx])
  have e_mm : ∀ (a : Act) v, execOp (a.put (some tm) v).eval om = execOp a.eval om := fun a v => execOp_put (ops := ops) om h.sm a (some tm) v fun x hx => by injection hx with hx; subst hx; exact h.selfm
  induction fuel with
  | zero =>
    intro listed a w hw hc hE hcn hn hh
    have := hh.1
    rw [h.ok.ready] at this
    exact absurd this (h.ok.stuck hc.1 (c + 2) (by rw [h.ok.size]; omega) hn)
  | succ fuel ih =>
    intro listed a w hw hc hE hcn hn hh
    have hs : listed.size = c + 3 := hc.1.trans h.ok.size
    refine ⟨fun h0 => absurd h0 (h.ok.stuck hc.1 (c + 2) (by rw [h.ok.size]; omega) hn), fun i hi => ?_⟩
    have hq := hh.2 i (by rw [h.ok.ready]; exact hi)
    obtain ⟨hi0, o, ho, _⟩ := mem_ready.1 hi
    have hlt : i < c + 3 := by rw [← h.ok.size]; exact (Array.getElem?_eq_some_iff.1 ho).1
    have hin : i ≠ c + 2 := by
      intro e
      subst e
      have := h.ok.all hc hi _ c rfl (by omega)
      rw [getD_tf (by omega), this] at hcn
      cases hcn
    by_cases hic : i = c
    · subst hic
      have hc' := hc.set hi
      have hhead := h.head hc hi hE
      unfold wpOp
      unfold qOp at hq
      simp only [h.getc, h.getc'] at hq ⊢
      rw [if_pos (wanted_none h.gc _)]
      rw [if_pos (wanted_none (show (dumO oc).guard = none from h.gc) _)] at hq
      obtain ⟨v0, _, hK⟩ := hq
      rw [show (dumO oc).dst = some d from h.dc] at hK
      refine .inl ?_
      unfold Oper.wp
      have hn' : (listed.setIfInBounds i true).getD (i + 2) true = false := by rw [getD_set_ne true (by omega)]; exact hn
      by_cases hml : listed.getD (i + 1) false = true
      · have near : Near i (listed.setIfInBounds i true) := ⟨hn', fun j hj => by
          by_cases e : i = j
          · subst e; simp [hs]
          · rw [getD_set_ne false e]
            by_cases e1 : j = i + 1
            · subst e1; exact hml
            · exact hhead _ j rfl (by omega)⟩
        obtain ⟨_, hB⟩ := h.getQ hc' near hK
        obtain ⟨f, args, hr, hcl⟩ := hB w hw
        rw [e_c] at hr
        rw [hr]
        simp only [Oper.upon]
        refine hcl.mono fun e w2 he => ?_
        obtain ⟨v, rfl, hl⟩ := he
        rw [put_put] at hl
        show wpAny P .any ops Q' fuel (listed.setIfInBounds i true) (a.put oc.dst v) w2
        rw [h.dc]
        cases fuel with
        | zero => have h1 := hK.1; rw [h.ok.ready] at h1; exact absurd h1 (h.only hc' near).1
        | succ f => exact h.fin hc' near hl f
      · have hml' : listed.getD (i + 1) true = false := by rw [getD_tf (by omega)]; simpa using hml
        have hml2 : (listed.setIfInBounds i true).getD (i + 1) true = false := by rw [getD_set_ne true (by omega)]; exact hml'
        have honly : ∀ j ∈ Region.ready .any ops (listed.setIfInBounds i true), j = i + 1 := fun j hj => by
          obtain ⟨hj0, oj, hoj, _⟩ := mem_ready.1 hj
          have hjlt : j < i + 3 := by rw [← h.ok.size]; exact (Array.getElem?_eq_some_iff.1 hoj).1
          by_cases e2 : j = i + 2
          · subst e2
            have := h.ok.all hc' hj _ (i + 1) rfl (by omega)
            rw [getD_tf (by simp [hs]), this] at hml2
            cases hml2
          · by_cases e0 : i = j
            · subst e0; simp [hs] at hj0
            · by_cases e1 : j = i + 1
              · exact e1
              · rw [getD_set_ne true e0, getD_tf (by omega), hhead _ j rfl (by omega)] at hj0
                cases hj0
        have hne := h.ok.stuck hc'.1 (i + 1) (by rw [h.ok.size]; omega) hml2
        have hmr : i + 1 ∈ Region.ready .any ops (listed.setIfInBounds i true) := by
          obtain ⟨j, hj⟩ := List.exists_mem_of_ne_nil _ hne
          have := honly j hj
          subst this
          exact hj
        cases fuel with
        | zero => have h1 := hK.1; rw [h.ok.ready] at h1; exact absurd h1 hne
        | succ f =>
          have hq2 := hK.2 (i + 1) (by rw [h.ok.ready]; exact hmr)
          unfold qOp at hq2
          simp only [h.getm'] at hq2
          rw [if_pos (wanted_none h.gm _)] at hq2
          obtain ⟨um, hum, hK2⟩ := hq2
          rw [h.dm] at hK2
          have hc2 := hc'.set hmr
          have near : Near i ((listed.setIfInBounds i true).setIfInBounds (i + 1) true) := ⟨by rw [getD_set_ne true (by omega)]; exact hn', fun j hj => by
            by_cases e1 : i + 1 = j
            · subst e1; simp [hs]
            · rw [getD_set_ne false e1]
              by_cases e : i = j
              · subst e; simp [hs]
              · rw [getD_set_ne false e]
                exact hhead _ j rfl (by omega)⟩
          obtain ⟨⟨vm, hvm⟩, hB⟩ := h.getQ hc2 near hK2
          have hu := hum w hw
          unfold Oper.quietAt at hu
          rw [e_mm] at hvm
          rw [hvm w] at hu
          obtain ⟨_, hu⟩ := hu
          obtain ⟨f2, args, hr, hcl⟩ := hB w hw
          rw [e_cm, e_c] at hr
          rw [hr]
          simp only [Oper.upon]
          refine hcl.mono fun e w2 he => ?_
          obtain ⟨v, rfl, hl⟩ := he
          rw [Act.put_comm (a.put (some d) v0) um v (fun x hx => by injection hx with hx; subst hx; exact hdm), put_put, ← hu] at hl
          show wpAny P .any ops Q' (f + 1) (listed.setIfInBounds i true) (a.put oc.dst v) w2
          rw [h.dc]
          refine ⟨fun h0 => absurd h0 hne, fun j hj => ?_⟩
          have hj1 := honly j hj
          subst hj1
          unfold wpOp
          simp only [h.getm]
          rw [if_pos (wanted_none h.gm _)]
          refine .inl ?_
          unfold Oper.wp
          rw [e_m, ← e_m a v0, hvm w2]
          show wpAny P .any ops Q' f _ ((a.put (some d) v).put om.dst vm) w2
          rw [h.dm]
          cases f with
          | zero => have h1 := hK2.1; rw [h.ok.ready] at h1; exact absurd h1 (h.only hc2 near).1
          | succ f => exact h.fin hc2 near hl f
    · have hw2 : wpOp P ops Q' i (wpAny P .any ops Q' fuel (listed.setIfInBounds i true)) a w = wpOp P ops' Q' i (wpAny P .any ops Q' fuel (listed.setIfInBounds i true)) a w := by
        unfold wpOp
        rw [h.ok.yielded]
        by_cases e1 : i = c + 1
        · subst e1; rw [h.getm, h.getm']
        · rw [hsame i (by omega)]
      rw [hw2]
      exact wpOp_of_qOp hw (fun a' w' hw' hk => ih _ a' w' hw' (hc.set hi) (fun x hx => getD_set_true (hE x hx)) (by rw [getD_set_ne true hic]; exact hcn) (by rw [getD_set_ne true hin]; exact hn) hk) hq
end

theorem c3e_of {l : List Oper} {e c : Nat} (hl : l.length = c + 3) (hB : call3eB l.toArray e c = true) : ∃ oc om st d tm, tail3 l = [oc, om, st] ∧ C3E l.toArray (dum3 l).toArray e c oc om st d tm ∧ ∀ j, j < c → (dum3 l).toArray[j]? = l.toArray[j]? := by
  obtain ⟨oc, om, st, h1, h2, h3, h4, h5, h6, h7, h8⟩ := dum3_spec l c hl
  unfold call3eB at hB
  simp only [Bool.and_eq_true, List.all_eq_true, List.mem_range, Bool.or_eq_true, List.any_eq_true, decide_eq_true_eq] at hB
  obtain ⟨⟨hL, hS⟩, hM⟩ := hB
  have e1 : l.toArray[c]? = some oc := by simpa using h1
  have e2 : l.toArray[c + 1]? = some om := by simpa using h2
  have e3 : l.toArray[c + 2]? = some st := by simpa using h3
  have f1 : (dum3 l).toArray[c]? = some (dumO oc) := by simpa using h5
  have f2 : (dum3 l).toArray[c + 1]? = some om := by simpa using h6
  have f3 : (dum3 l).toArray[c + 2]? = some (dumO st) := by simpa using h7
  have f4 : ∀ j, j < c → (dum3 l).toArray[j]? = l.toArray[j]? := fun j hj => by simpa using h8 j hj
  rw [e1, e2] at hM
  simp only [Bool.and_eq_true, Option.isNone_iff_eq_none] at hM
  obtain ⟨⟨⟨⟨⟨⟨gc, gm⟩, ap⟩, sd⟩, sm⟩, nsc⟩, nsm⟩ := hM
  obtain ⟨d, dc⟩ : ∃ d, oc.dst = some d := by
    cases h : oc.dst with
    | none => rw [h] at sd; cases sd
    | some d => exact ⟨d, rfl⟩
  obtain ⟨tm, dm⟩ : ∃ d, om.dst = some d := by
    cases h : om.dst with
    | none => rw [h] at sm; cases sm
    | some d => exact ⟨d, rfl⟩
  rw [dc] at sd
  rw [dm] at sm
  refine ⟨oc, om, st, d, tm, h4, ?_, f4⟩
  unfold lastB at hL
  simp only [Bool.and_eq_true, List.all_eq_true, List.mem_range, List.any_eq_true, decide_eq_true_eq] at hL
  obtain ⟨⟨hb, hc⟩, hg⟩ := hL
  rw [e3] at hg
  simp only [Bool.and_eq_true, Option.isNone_iff_eq_none] at hg
  have hlk : ∀ j, j < c + 2 → ((dum3 l).toArray[j]?).map (·.after) = (l.toArray[j]?).map (·.after) ∧ ((dum3 l).toArray[j]?).bind (·.dst) = (l.toArray[j]?).bind (·.dst) := fun j hj => by
    rcases Nat.lt_or_ge j c with h | h
    · rw [f4 j h]; exact ⟨rfl, rfl⟩
    · rcases (show j = c ∨ j = c + 1 by omega) with rfl | rfl
      · rw [e1, f1]; exact ⟨rfl, rfl⟩
      · rw [e2, f2]; exact ⟨rfl, rfl⟩
  have ok : LastOk l.toArray (dum3 l).toArray (c + 2) st (dumO st) := by
    refine ⟨by simpa using hl, by simpa [dum3_len] using hl, hlk, e3, f3, rfl, hg.1, hg.1, hg.2, hg.2, fun i o ho e he hbd => ?_, fun i hi => ?_⟩
    · have hi := (Array.getElem?_eq_some_iff.1 ho).1
      have := hb i hi
      rw [ho] at this
      have := Array.all_eq_true_iff_forall_mem.1 this e he
      rw [hbd] at this
      simpa using this
    · obtain ⟨j, _, hij, hm⟩ := hc i hi
      obtain ⟨o, ho, h⟩ := waitsB_spec (ops := l.toArray) (j := j) (i := i) hm
      exact ⟨j, o, hij, ho, h⟩
  refine ⟨ok, e1, f1, e2, f2, gc, gm, dc, dm, ap, by simpa using sd, by simpa using sm, fun cs b h => (by rw [h] at nsc; cases nsc), fun cs b h => (by rw [h] at nsm; cases nsm), fun i hi => ?_⟩
  rcases hS i hi with hie | ⟨j, hj, hij, hw⟩
  · exact .inl hie
  · obtain ⟨o, ho, h⟩ := waitsB_spec hw
    exact .inr ⟨j, o, hij, by omega, ho, h⟩

def clB2 (ops : Array Oper) (listed : Array Bool) : Bool :=
  decide (listed.size = ops.size) && (List.range ops.size).all fun j => !listed.getD j false || match ops[j]? with
    | some o => o.after.all fun e => !Region.binds .any e || listed.getD e.on false
    | none => true
theorem cl_of2 {ops : Array Oper} {listed : Array Bool} (h : clB2 ops listed = true) : Cl ops listed := by
  unfold clB2 at h
  simp only [Bool.and_eq_true, decide_eq_true_eq, List.all_eq_true, List.mem_range, Bool.or_eq_true, Bool.not_eq_true'] at h
  refine ⟨h.1, fun j o ho hl e he hb => ?_⟩
  have hj := (Array.getElem?_eq_some_iff.1 ho).1
  rcases h.2 j hj with h1 | h1
  · rw [hl] at h1; cases h1
  · rw [ho] at h1
    have := Array.all_eq_true_iff_forall_mem.1 h1 e he
    rw [hb] at this
    simpa using this
theorem dum3_two {o0 o1 : Oper} {l : List Oper} {n : Nat} (h : l.length = n + 3) : dum3 (o0 :: o1 :: l) = o0 :: o1 :: dum3 l ∧ tail3 (o0 :: o1 :: l) = tail3 l := by
  match l, h with
  | a :: b :: c :: r, _ => exact ⟨rfl, rfl⟩
/-- The two moves first; one walk in the text's order; the call behind it, then the store. -/
theorem wp_region_call3e {P : Program} {id : Nat} {Q : Exit → Act → World → Prop} {a : Act} {w : World} {l : List Oper} {oc om st o0 o1 : Oper} {d : Tmp} {v0 v1 : Value} (c : Nat) (hm : P.follows .mixedOrders = true) (hl : l.length = c + 3)
    (hB : Region.lexFrom .any (dum3 (o0 :: o1 :: l)).toArray (c + 3) 2 (((Array.replicate (c + 5) false).setIfInBounds 0 true).setIfInBounds 1 true) = true) (hN : Region.noSelect (dum3 (o0 :: o1 :: l)).toArray = true) (hN' : Region.noSelect (o0 :: o1 :: l).toArray = true) (hL : call3eB (o0 :: o1 :: l).toArray 2 (c + 2) = true)
    (hf0 : Region.free .any (o0 :: o1 :: l).toArray (Array.replicate (c + 5) false) 0 = true) (hr0 : (Region.ready .any (o0 :: o1 :: l).toArray (Array.replicate (c + 5) false)).contains 0 = true)
    (hf1 : Region.free .any (o0 :: o1 :: l).toArray ((Array.replicate (c + 5) false).setIfInBounds 0 true) 1 = true) (hr1 : (Region.ready .any (o0 :: o1 :: l).toArray ((Array.replicate (c + 5) false).setIfInBounds 0 true)).contains 1 = true) (hc : clB2 (o0 :: o1 :: l).toArray (((Array.replicate (c + 5) false).setIfInBounds 0 true).setIfInBounds 1 true) = true)
    (h3 : tail3 l = [oc, om, st]) (hd : oc.dst = some d)
    (y0 : Yields P (o0 :: o1 :: l).toArray o0 v0 a) (y1 : Yields P (o0 :: o1 :: l).toArray o1 v1 (a.put o0.dst v0))
    (h : wpQuiet P (dum3 (o0 :: o1 :: l)).toArray (fun w' => ∃ p : BelW w, w' = p.W) (CallAsk P (fun w' => ∃ p : BelW w, w' = p.W) (NoPanic Q) oc om st d) (dum3 l) ((a.put o0.dst v0).put o1.dst v1)) : (Code.region id (o0 :: o1 :: l).toArray true).wp P Q a w := by
  have hll : (o0 :: o1 :: l).length = (c + 2) + 3 := by simp [hl]
  obtain ⟨oc', om', st', d', tm, e, hok, hs⟩ := c3e_of hll hL
  rw [(dum3_two hl).2, h3] at e
  injection e with x1 e
  injection e with x2 e
  injection e with x3 _
  subst x1 x2 x3
  have hdd : d = d' := by have := hok.dc; rw [hd] at this; injection this
  subst hdd
  have hsz : (o0 :: o1 :: l).toArray.size = c + 5 := by simp [hl]
  refine wp_region_noPanic (wp_region_any hm ?_)
  rw [hsz]
  refine wpAny_take (fuel := c + 4) (i := 0) (oi := o0) (v := v0) rfl hN' hf0 hr0 (fun _ _ _ h => h) y0 (wpAny_take (fuel := c + 3) (i := 1) (oi := o1) (v := v1) rfl hN' hf1 hr1 (fun _ _ _ h => h) y1 ?_)
  refine hok.main (C := fun w' => ∃ p : BelW w, w' = p.W) hs _ _ _ _ ⟨⟨w.drew, (Below.refl _ _).drew⟩, rfl⟩ (cl_of2 hc) (fun i hi => ?_) ?_ ?_ ?_
  · rcases (show i = 0 ∨ i = 1 by omega) with rfl | rfl
    · rw [getD_set_ne false (by decide)]; simp
    · simp
  · rw [getD_set_ne true (by omega), getD_set_ne true (by omega)]; simp
  · rw [getD_set_ne true (by omega), getD_set_ne true (by omega)]; simp
  · have hlen : (dum3 l).length = c + 3 := by rw [dum3_len, hl]
    have := wpAnyQ_lex (P := P) (C := fun w' => ∃ p : BelW w, w' = p.W) (md := .any) (ops := (dum3 (o0 :: o1 :: l)).toArray) hN (dum3 l) 2 (((Array.replicate (c + 5) false).setIfInBounds 0 true).setIfInBounds 1 true) _ (by intro j; rw [(dum3_two hl).1]; simp [Nat.add_comm 2 j]) (by rw [hlen]; exact hB) h
    rw [hlen] at this
    exact this
theorem chg_none {rows : List (List Int)} {c j : Nat} (h : chgF rows c j rows.length = false) : rnd rows c j = rows ∧ moreF rows c j rows.length = false := by
  unfold chgF at h
  rw [List.any_eq_false] at h
  have hh : ∀ i, hitR rows c j i = false := fun i => by
    rcases e : hitR rows c j i with _ | _
    · rfl
    · exact absurd e (h i (List.mem_range.2 (hit_lt e)))
  refine ⟨rw_ext (rnd_len rows c j) fun i => by rw [rnd_get, hh i, if_neg (by decide)], ?_⟩
  unfold moreF
  rw [List.any_eq_false]
  intro i _
  rw [hh i]; simp
section
variable {lo : Nat} {w w' : World} {v v' v1 v2 : Value} {hs h1 h2 : List Value} {L L1 L2 : List (List Int)}
theorem HB.eraseN {i : Nat} (h : HB lo w v hs L) (hi : i < L.length) (hb : Below w.heap.size w w') (hlo : lo ≤ w.heap.size) (hrow : w'.ownsRow 0 30 1 v' (hs.length - 1) (hs.take i ++ hs.drop (i + 1))) (hat : ∀ b, v'.ownBlock = some b → w.heap.size ≤ b) :
    HB lo w' v' (hs.eraseIdx i) (L.eraseIdx i) := by
  have hih : i < hs.length := by rw [h.len]; exact hi
  have h' := h.below hb
  have hrg : ∀ j b, j < hs.length → (hd hs j).ownBlock = some b → lo ≤ b ∧ b < w.heap.size := fun j b hj hb => h.rg b (bl_hd hj hb)
  have hsz := hb.size
  have hidx : ∀ j, j < hs.length - 1 → (if j < i then j else j + 1) < hs.length ∧ (if j < i then j else j + 1) ≠ i := fun j hj => by split <;> omega
  refine HB.mk2 ?_ ?_ (fun j hj => ?_) (fun j b hj hb hv => ?_) (fun j k b hj hk h1 h2 => ?_) (fun b hb => ?_) (fun j b hj hb => ?_)
  · rw [er_len hih, List.eraseIdx_eq_take_drop_succ]; exact hrow
  · rw [er_len hih, er_len hi, h.len]
  · rw [er_len hi] at hj
    rw [hd_erase, rw_erase]
    exact h'.own _ (by have := (hidx j (by rw [h.len]; exact hj)).1; rw [h.len] at this; exact this)
  · rw [er_len hih] at hj
    rw [hd_erase] at hb
    have q := hrg _ b (hidx j hj).1 hb
    have := hat b hv
    omega
  · rw [er_len hih] at hj hk
    rw [hd_erase] at h1 h2
    have := h.two (hidx j hj).1 (hidx k hk).1 h1 h2
    split at this <;> split at this <;> omega
  · have := hat b hb
    exact ⟨by omega, (hrow.lt b hb).2⟩
  · rw [er_len hih] at hj
    rw [hd_erase] at hb
    have q := hrg _ b (hidx j hj).1 hb
    omega
theorem HB.erase_apart {i b : Nat} (h : HB lo w v hs L) (hi : i < L.length) (hb : (hd hs i).ownBlock = some b) : ∀ k, k < (hs.eraseIdx i).length → (hd (hs.eraseIdx i) k).ownBlock ≠ some b := by
  have hih : i < hs.length := by rw [h.len]; exact hi
  intro k hk hv
  rw [er_len hih] at hk
  rw [hd_erase] at hv
  have := h.two (i := if k < i then k else k + 1) (j := i) (by split <;> omega) hih hv hb
  split at this <;> omega
theorem HB.frozen {g n cap : Nat} (h : HB lo w (.slice (some ⟨g, 0, none⟩) n cap) hs L) (k : Nat) : w.frozen? ⟨g, k, none⟩ = false := by
  obtain ⟨_, rfl⟩ := h.len0
  exact h.row.frozenAt k
/-- Behind an append of headers to a new empty row. -/
theorem app_first {wx w8 : World} {v8 : Value} {hT : List Value} {j : Nat} (hj : hT.length = j) (o : w8.ownsRow 0 30 1 v8 (([] : List Value).length + j) ([] ++ hT)) (g : (wx.drew.alloc (.cells #[] 30)).grownBy w8 (Value.slice (some ⟨wx.heap.size, 0, none⟩) 0 0).ownBlock)
    (p : v8.ownBlock = (Value.slice (some ⟨wx.heap.size, 0, none⟩) 0 0).ownBlock ∨ v8.ownBlock = some (wx.drew.alloc (.cells #[] 30)).heap.size) : w8.ownsRow 0 30 1 v8 hT.length hT ∧ Below wx.heap.size wx w8 ∧ ∀ b, v8.ownBlock = some b → wx.heap.size ≤ b := by
  have e0 : wx.drew.heap.size = wx.heap.size := rfl
  have e : (wx.drew.alloc (.cells #[] 30)).heap.size = wx.heap.size + 1 := by rw [← e0]; simp
  refine ⟨by rw [hj]; simpa using o, (((Below.refl _ _).drew).alloc (Nat.le_refl _) _).grown g (by rw [e]; omega) fun b hb => by simp [Value.ownBlock] at hb; omega, fun b hb => ?_⟩
  rcases p with p | p
  · rw [p] at hb; simp [Value.ownBlock] at hb; omega
  · rw [p, e] at hb; injection hb with hb; omega
/-- Behind the second append. -/
theorem app_second {wt wx w8 w9 : World} {v8 v9 : Value} (hx : Below wt.heap.size wt wx) (h8 : Below wx.heap.size wx w8) (hv : ∀ b, v8.ownBlock = some b → wx.heap.size ≤ b) (g : w8.grownBy w9 v8.ownBlock)
    (p : v9.ownBlock = v8.ownBlock ∨ v9.ownBlock = some w8.heap.size) : Below wt.heap.size wt w9 ∧ (∀ b, v9.ownBlock = some b → wt.heap.size ≤ b) ∧ Below wx.heap.size wx w9 ∧ ∀ b, v9.ownBlock = some b → wx.heap.size ≤ b := by
  have h1 := hx.size
  have h2 := h8.size
  have q : ∀ b, v9.ownBlock = some b → wx.heap.size ≤ b := fun b hb => by
    rcases p with p | p
    · rw [p] at hb; have := hv b hb; omega
    · rw [p] at hb; injection hb with hb; omega
  exact ⟨(hx.trans (h8.mono h1)).grown g (by omega) fun b hb => by have := hv b hb; omega, fun b hb => by have := q b hb; omega, h8.grown g h2 fun b hb => hv b hb, q⟩
theorem bl_set {i b : Nat} {x : Value} (hi : i < hs.length) (h : b ∈ bl v (hs.set i x)) : b ∈ bl v hs ∨ x.ownBlock = some b := by
  rcases bl_mem h with h | ⟨j, hj, h⟩
  · exact .inl (bl_own h)
  · rw [List.length_set] at hj
    rw [hd_set _ _ _ _ hi] at h
    split at h
    · exact .inr h
    · exact .inl (bl_hd hj h)
/-- A new row is stored into the first of two lists. -/
theorem HH.store1 {g n cap i : Nat} {x : Value} {r : List Int} (h : HH lo w (.slice (some ⟨g, 0, none⟩) n cap) h1 L1 v2 h2 L2) (hi : i < L1.length) (hb : Below w.heap.size w w') (hlo : lo ≤ w.heap.size) (ho : OwI w' w.heap.size x r) :
    HH lo (w'.setCell ⟨g, i, none⟩ x) (.slice (some ⟨g, 0, none⟩) n cap) (h1.set i x) (L1.set i r) v2 h2 L2 := by
  have hih : i < h1.length := by rw [h.a.len]; exact hi
  have hx : ∀ b, x.ownBlock = some b → w.heap.size ≤ b := fun b hb => (ho.1.lt b hb).1
  have hsz := hb.size
  have e : (w'.setCell ⟨g, i, none⟩ x).heap.size = w'.heap.size := by simp
  refine ⟨(h.a.below hb).setH hi (ho.mono (Nat.zero_le _)) fun b hv => ⟨by have := hx b hv; omega, fun hm => by have := (h.a.rg b hm).2; have := hx b hv; omega⟩, ?_, fun y hy hm => ?_⟩
  · refine (h.b.below hb).keep (fun b hm => Below.heap_setCell _ _ _ _ fun e => h.ap g (bl_own rfl) (by have e' : b = g := e; rw [← e']; exact hm)) (by omega)
  · rcases bl_set hih hy with hy | hy
    · exact h.ap y hy hm
    · have := hx y hy
      have := (h.b.rg y hm).2
      omega
theorem HH.swap (h : HH lo w v1 h1 L1 v2 h2 L2) : HH lo w v2 h2 L2 v1 h1 L1 := ⟨h.b, h.a, fun x hx hm => h.ap x hm hx⟩
theorem HH.store2 {g n cap i : Nat} {x : Value} {r : List Int} (h : HH lo w v1 h1 L1 (.slice (some ⟨g, 0, none⟩) n cap) h2 L2) (hi : i < L2.length) (hb : Below w.heap.size w w') (hlo : lo ≤ w.heap.size) (ho : OwI w' w.heap.size x r) :
    HH lo (w'.setCell ⟨g, i, none⟩ x) v1 h1 L1 (.slice (some ⟨g, 0, none⟩) n cap) (h2.set i x) (L2.set i r) := (h.swap.store1 hi hb hlo ho).swap
end
theorem hermF_no {n : Int} {L : List (List Int)} (h : (hermF n L).2 = false) : (hermF n L).1 = [] := by
  unfold hermF at h ⊢
  split
  · rfl
  · rename_i h1
    rw [if_neg h1] at h
    split
    · rename_i h2; rw [if_pos h2] at h; cases h
    · rename_i h2
      rw [if_neg h2] at h
      split
      · rfl
      · rename_i h3; rw [if_neg h3] at h; cases h
theorem sub_neg {n : Nat} {r : List Int} (hn : r.length = n) (h : ∀ t, I64 (cl r t)) : subR (List.replicate n 0) 1 r = r.map negW := by
  subst hn
  refine List.ext_getElem (by simp [subR_len]) fun i h1 h2 => ?_
  have hi : i < r.length := by simpa using h2
  have e1 := subR_cl (List.replicate r.length 0) 1 r i (by simpa using hi)
  rw [cl_get h1] at e1
  rw [e1, List.getElem_map, ← cl_get hi]
  have e2 : cl (List.replicate r.length 0) i = 0 := by rw [cl_get (by simpa using hi)]; simp
  rw [e2]
  unfold wS negW
  rw [Int.one_mul, IntWalk.wrap64_in (cl r i) (h i), Int.zero_sub]
set_option maxRecDepth 100000 in
set_option maxHeartbeats 8000000 in
theorem specHermiteForm_any (v : Value) (L : List (List Int)) (n : Int) (w : World) (h : RdII w v L) (hl : L.length ≤ 1073741824) (hr : ∀ r ∈ L, r.length ≤ 1073741824) :
    Calls Try.prog 8 #[v, .int .i64 n] w fun e w' => ∃ s, e = .returned s ∧ OwII w.heap.size w'.heap.size s (hermF n L).1 w' ∧ Below w.heap.size w w' := by
  have H := Lib.hid h
  have HR := Lib.hid hr
  obtain ⟨A, cap, rfl, hcap, hm, _⟩ := h.form
  unfold maxLen at hm
  clear h hr
  have HNO : Hid (rows27 n L = false → (hermF n L).1 = []) := Lib.hid fun e => hermF_no (by rw [← rows27_eq]; exact e)
  have HYES : Hid (rows27 n L = true → (hermF n L).1 = if (isHerm L && numOk 1000000000 L) = true then L else (hermS L n.toNat).2) := Lib.hid fun e => hermF_form e
  have HPT : Hid (rows27 n L = true → inB n 1 3 = true ∧ L.length ≤ 100 ∧ lenOk n L = true ∧ ((isHerm L && numOk 1000000000 L) = false → numOk 100 L = true)) := Lib.hid fun e => by
    unfold rows27 at e
    simp only [Bool.and_eq_true] at e
    refine ⟨e.1.1.1, by simpa using e.1.1.2, e.1.2, fun e' => ?_⟩
    have := e.2
    rw [e', Bool.or_false] at this
    exact this
  generalize (hermF n L).1 = R at *
  have O0 : Hid (HB w.heap.size (w.alloc (.cells #[] 30)) (.slice (some ⟨w.heap.size, 0, none⟩) 0 0) [] []) := Lib.hid (by
    obtain ⟨hs, hh⟩ := (OwII_lit (lo := w.heap.size) w (Nat.le_refl _)).hb (by simp)
    obtain rfl : hs = [] := List.eq_nil_of_length_eq_zero hh.len
    exact hh)
  have B0 : Hid (Below w.heap.size w (w.alloc (.cells #[] 30))) := Lib.hid ((Below.refl _ _).alloc (Nat.le_refl _) _)
  have H0 := Lib.hid (H.out.below B0.out)
  go_enter Try.func8, Try.ntmps8
  go_wp2_with fail
  have hs0 : w.heap.size < (w.alloc (.cells #[] 30)).heap.size := by simp
  generalize w.alloc (.cells #[] 30) = w0 at *
  refine (l27Rows_any _ L n w0 H0.out hl).mono ?_
  rintro e w' ⟨rfl, m1, rfl⟩
  rcases e1 : rows27 n L with _ | _
  · obtain rfl := HNO.out e1
    have O1 := Lib.hid O0.out.owII
    clear e1
    go_wp2
    go_ret
    exact ⟨_, rfl, O1.out, bel_drewN B0.out m1⟩
  obtain ⟨hn, hL100, hlo, hnum⟩ := HPT.out e1
  have hR := HYES.out e1
  have HRV := Lib.hid hR
  have HNUM := Lib.hid hnum
  have hn13 := inB_iff.1 hn
  have HLO := Lib.hid hlo
  have HNN := Lib.hid hn
  clear e1 hR hnum hlo hn HNO HYES HPT
  obtain ⟨wd, hwd⟩ : ∃ W, W = w0.drewN m1 := ⟨_, rfl⟩
  have HD : Hid (RdII wd (.slice A L.length cap) L) := Lib.hid (by rw [hwd]; exact H0.out.drewN m1)
  have HBD : Hid (Below w.heap.size w wd) := Lib.hid (by rw [hwd]; exact bel_drewN B0.out m1)
  have HOD : Hid (HB w.heap.size wd (.slice (some ⟨w.heap.size, 0, none⟩) 0 0) [] []) := Lib.hid (by rw [hwd]; exact O0.out.below (bel_drewN (Below.refl _ _) m1))
  have hsd : w.heap.size < wd.heap.size := by rw [hwd]; exact hs0
  rw [← hwd]
  clear hwd O0 B0 H0 hs0
  go_wp2_with fail
  refine (l20Copy_any _ L wd HD.out hl HR.out).mono ?_
  rintro e w1 ⟨s1, rfl, o1, b1⟩
  obtain ⟨hs1, hb1⟩ := o1.hb (Nat.le_refl _)
  have HW1 := Lib.hid hb1
  have HO1 := Lib.hid (HOD.out.below b1)
  have HB1 := Lib.hid (HBD.out.trans (b1.mono (by omega)))
  have HD1 := Lib.hid (HD.out.below b1)
  have hsz1 := b1.size
  have HOW := Lib.hid o1
  clear o1 b1 hb1
  go_wp2_with fail
  refine (l27Done_any _ L n.toNat w1 HD1.out hl (fun r hr => by have := len_mem HLO.out hr; omega) (by omega)).mono ?_
  rintro e w' ⟨rfl, m2, rfl⟩
  rcases e2 : (isHerm L && numOk 1000000000 L) with _ | _
  rotate_left
  · have F : Hid (R = L) := Lib.hid (by rw [HRV.out, if_pos e2])
    clear e2
    go_wp2
    go_ret
    exact ⟨_, rfl, by rw [F.out]; exact (HOW.out.widen (by omega) (Nat.le_refl _)), bel_drewN HB1.out m2⟩
  have F : Hid (R = (hermS L n.toNat).2) := Lib.hid (by rw [HRV.out, if_neg (by rw [e2]; decide)])
  have HPH : Hid (∀ k, k ≤ n.toNat → PhI n.toNat k (hermS L k)) := Lib.hid (elim_inv HNN.out HLO.out (HNUM.out e2))
  clear e2 HRV HNUM
  obtain ⟨N, rfl⟩ : ∃ N : Nat, n = (N : Int) := ⟨n.toNat, by omega⟩
  have hN3 : 1 ≤ N ∧ N ≤ 3 := by omega
  rw [Int.toNat_natCast] at HPH F
  obtain ⟨w2, hw2⟩ : ∃ W, W = w1.drewN m2 := ⟨_, rfl⟩
  obtain ⟨A1, c1, rfl, _⟩ := HW1.out.form
  have HH0 : Hid (HH w.heap.size w2 (.slice A1 L.length c1) hs1 L (.slice (some ⟨w.heap.size, 0, none⟩) 0 0) [] []) := Lib.hid (by
    rw [hw2]
    refine HH.drewN ⟨HW1.out.lo_le (by omega), HO1.out, fun x hx hm => ?_⟩ m2
    have h1 := (HW1.out.rg x hx).1
    rcases bl_mem hm with h | ⟨i, hi, _⟩
    · simp [Value.ownBlock] at h; omega
    · cases hi)
  have BZ : Hid (Below w.heap.size w w2) := Lib.hid (by rw [hw2]; exact bel_drewN HB1.out m2)
  rw [← hw2]
  clear hw2 HOW HO1 HW1 HB1 HD1 HD HBD HOD
  go_wp2
  go_loopw [5, 6, 7] (fun done work i wr => ∃ (k : Nat) (hW hO : List Value), k ≤ N ∧ i = .int .i64 k ∧ HH w.heap.size wr work hW (hermS L k).1 done hO (hermS L k).2 ∧ Below w.heap.size w wr) (fun _ _ i _ => N - (intOf i).toNat)
  case atStart => exact ⟨0, hs1, [], Nat.zero_le _, rfl, HH0.out, BZ.out⟩
  case round =>
    obtain ⟨c, hW0, hO, hk, rfl, hhh, hbel⟩ := hrel
    obtain ⟨wo, rfl⟩ : ∃ wo : World, wo = wr := ⟨_, rfl⟩
    have HW := Lib.hid hhh
    have HBW := Lib.hid hbel
    have hwo := hbel.size
    obtain ⟨Al, cl_, rfl, _⟩ := hhh.a.form
    obtain ⟨Ao, co, rfl, _⟩ := hhh.b.form
    have HP := Lib.hid (HPH.out c hk)
    clear hhh hbel
    by_cases hlt : c < N
    · have HSU := Lib.hid (hermS_succ L c)
      have hLL := hermS_len L c
      generalize hermS L c = st at *
      obtain ⟨LS, LO⟩ := st
      simp only at HW HP hLL
      obtain ⟨hLS, hLO⟩ := hLL
      have HRC := Lib.hid HP.out.rect
      have HBC : Hid (∀ i, mg LS c i ≤ 4000000000000000000) := Lib.hid fun i => by
        have h1 : mg LS c i ≤ bA c := HP.out.bd c (Nat.le_refl _) hlt i
        have h2 := (bA_le c).2
        omega
      have HEND := Lib.hid (end200 hlt HP.out.rect (HP.out.bd c (Nat.le_refl _) hlt))
      obtain ⟨RES, hRES⟩ : ∃ RES, RES = colI c 200 LS := ⟨_, rfl⟩
      have HRES := Lib.hid hRES
      clear hRES
      obtain ⟨nl, hnl⟩ : ∃ nl, nl = LS.length := ⟨_, rfl⟩
      rw [← hnl] at HW hLS ⊢
      have HNL := Lib.hid hnl
      clear hnl
      go_wp2
      go_loopw [8, 9] (fun best st wr => ∃ (rows : List (List Int)) (hW : List Value) (s : Nat), st = .int .i64 s ∧ HH w.heap.size wr (.slice Al nl cl_) hW rows (.slice Ao LO.length co) hO LO ∧ Below w.heap.size w wr ∧ Hid (rows.length = nl) ∧ Rect N rows ∧ (∀ i, mg rows c i ≤ 4000000000000000000) ∧
          ((∃ f, endI c f rows = true ∧ colI c f rows = RES ∧ f + s ≤ 200) ∨ (s ≤ 201 ∧ ∃ j : Nat, pickF rows c rows.length = (j : Int) ∧ (∀ i, i ≠ j → mg rows c i = 0) ∧ ((j : Int), rows) = RES))) (fun _ st _ => 10000 - (intOf st).toNat)
      case atStart => exact ⟨LS, hW0, 0, rfl, HW.out, HBW.out, Lib.hid HNL.out.symm, HRC.out, HBC.out, .inl ⟨200, HEND.out, HRES.out.symm, by omega⟩⟩
      case round =>
        obtain ⟨rows, hW, s, rfl, hh2, hbel2, HL2, hrc2, hbd2, hcase⟩ := hrel
        have HW2 := Lib.hid hh2
        have HB2 := Lib.hid hbel2
        have HR2 := Lib.hid hrc2
        have HD2 := Lib.hid hbd2
        have HCS := Lib.hid hcase
        have hs10 : (s : Int) < 10000 := by
          rcases hcase with ⟨f, _, _, h⟩ | ⟨h, _⟩ <;> omega
        obtain ⟨wa, rfl⟩ : ∃ wa : World, wa = wr := ⟨_, rfl⟩
        clear hh2 hbel2 hrc2 hbd2 hcase
        go_wp2
        go_loopw [8, 10] (fun at_ i wr => ∃ k : Nat, k ≤ nl ∧ i = .int .i64 k ∧ at_ = .int .i64 (pickF rows c k) ∧ ∃ m, wr = wa.drewN m) (fun _ i _ => nl - (intOf i).toNat)
        case atStart => exact ⟨0, Nat.zero_le _, rfl, rfl, 0, rfl⟩
        case round =>
          obtain ⟨k, hk3, rfl, rfl, m3, hm3⟩ := hrel
          have HW3 : Hid (HH w.heap.size wr (.slice Al nl cl_) hW rows (.slice Ao LO.length co) hO LO) := Lib.hid (by rw [hm3]; exact HW2.out.drewN m3)
          have HM3 : Hid (∀ q, ∃ m, wr.drewN q = wa.drewN m) := Lib.hid fun q => ⟨_, by rw [hm3, World.drewN_drewN]⟩
          have HWM : Hid (wr = wa.drewN m3) := Lib.hid hm3
          clear hm3
          by_cases hlt3 : k < nl
          · obtain ⟨_, _, e3, _, _, hA3⟩ := HW3.out.a.form
            injection e3 with e3 e3b e3c
            clear e3b e3c
            obtain ⟨gl, hgl, _⟩ := hA3 (by have := HL2.out; omega)
            obtain rfl := e3.trans hgl
            clear e3 hA3
            obtain ⟨gk, ck, h1, hv1, h2, b1, b2, b3, b4, hI⟩ := HW3.out.a.num (by have := HL2.out; omega) (HR2.out k (by have := HL2.out; omega)) hlt
            have hPS := Lib.hid (pickF_succ rows c k)
            have hPR := pickF_range rows c k
            have HSET : Hid (pickF rows c (k + 1) = if cl (rw_ rows k) c ≠ 0 ∧ (pickF rows c k < 0 ∨ abs64 (cl (rw_ rows k) c) < abs64 (cl (rw_ rows (pickF rows c k).toNat) c)) then (k : Int) else pickF rows c k) := hPS
            have HROW : Hid (∀ j, j < rows.length → ∃ gk ck, wr.cell? ⟨gl, j, none⟩ = some (.slice (some ⟨gk, 0, none⟩) N ck) ∧ wr.cell? ⟨gk, c, none⟩ = some (.int .i64 (cl (rw_ rows j) c)) ∧ N ≤ ck ∧ ck ≤ maxLen ∧ I64 (cl (rw_ rows j) c)) := Lib.hid fun j hj => by
              obtain ⟨gk, ck, q1, _, q2, _, _, q3, q4, q5⟩ := HW3.out.a.num hj (HR2.out j hj) hlt
              exact ⟨gk, ck, q1, q2, q3, q4, q5⟩
            unfold maxLen at b4
            clear hPS hv1
            generalize cl (rw_ rows k) c = x at *
            generalize pickF rows c k = P at *
            rcases ex : (x != 0) with _ | _
            · have F : Hid (pickF rows c (k + 1) = P) := Lib.hid (by rw [HSET.out, if_neg (fun h => h.1 (by simpa using ex))])
              go_wp2_with fail
              go_quiet (fail)
              go_wp2
              go_roundw
              case rel => exact ⟨k + 1, by omega, by go_num, by rw [F.out], HM3.out _⟩
              case measure => simp [intOf]; omega
            have hx : x ≠ 0 := by simpa using ex
            rcases ep : decide (P < 0) with _ | _
            rotate_left
            · have F : Hid (pickF rows c (k + 1) = (k : Int)) := Lib.hid (by rw [HSET.out, if_pos ⟨hx, .inl (by simpa using ep)⟩])
              go_wp2_with fail
              go_quiet (fail)
              go_wp2
              go_roundw
              case rel => exact ⟨k + 1, by omega, by go_num, by rw [F.out], HM3.out _⟩
              case measure => simp [intOf]; omega
            have hp0 : 0 ≤ P := by simp at ep; omega
            obtain ⟨p, rfl⟩ : ∃ p : Nat, P = (p : Int) := ⟨P.toNat, by omega⟩
            have hpk : p < rows.length := by have := HL2.out; omega
            obtain ⟨gp, cp, q1, q2, q3, q4, hIy⟩ := HROW.out p hpk
            have hpI : (p : Int) < (nl : Int) := by omega
            unfold maxLen at q4
            rw [Int.toNat_natCast] at HSET
            generalize cl (rw_ rows p) c = y at *
            have HA1 : Hid (∀ W : World, Calls Try.prog 22 #[.int .i64 x] W fun e w' => e = .returned (.int .i64 (abs64 x)) ∧ W = w') := Lib.hid fun W => l21Abs_any x W
            have HA2 : Hid (∀ W : World, Calls Try.prog 22 #[.int .i64 y] W fun e w' => e = .returned (.int .i64 (abs64 y)) ∧ W = w') := Lib.hid fun W => l21Abs_any y W
            generalize abs64 x = ax at *
            generalize abs64 y = ay at *
            clear HROW hI hIy hPR
            rcases ea : decide (ax < ay) with _ | _
            · have F : Hid (pickF rows c (k + 1) = (p : Int)) := Lib.hid (by rw [HSET.out, if_neg (fun h => h.2.elim (fun h => by omega) fun h => by simp at ea; omega)])
              go_wp2_with fail
              go_quiet (first | (go_at_call 22; first | exact quiet_left (HA1.out _) | exact quiet_add_left (HA1.out _)) | (go_at_call 22; first | exact quiet_left (HA2.out _) | exact quiet_add_left (HA2.out _)))
              go_wp2
              go_roundw
              case rel => exact ⟨k + 1, by omega, by go_num, by rw [F.out], HM3.out _⟩
              case measure => simp [intOf]; omega
            · have F : Hid (pickF rows c (k + 1) = (k : Int)) := Lib.hid (by rw [HSET.out, if_pos ⟨hx, .inr (by simpa using ea)⟩])
              go_wp2_with fail
              go_quiet (first | (go_at_call 22; first | exact quiet_left (HA1.out _) | exact quiet_add_left (HA1.out _)) | (go_at_call 22; first | exact quiet_left (HA2.out _) | exact quiet_add_left (HA2.out _)))
              go_wp2
              go_roundw
              case rel => exact ⟨k + 1, by omega, by go_num, by rw [F.out], HM3.out _⟩
              case measure => simp [intOf]; omega
          · obtain rfl : k = nl := by omega
            have HB3 : Hid (Below w.heap.size w wr) := Lib.hid (by rw [HWM.out]; exact bel_drewN HB2.out m3)
            clear HM3 HWM
            have HPK := Lib.hid (pick_spec HD2.out rows.length)
            have hnr : rows.length = k := HL2.out
            rw [hnr] at HPK
            have HCS2 : Hid ((∃ f, endI c (f + 1) rows = true ∧ colI c (f + 1) rows = RES ∧ f + 1 + s ≤ 200) ∨ (s ≤ 201 ∧ ∃ j : Nat, pickF rows c k = (j : Int) ∧ (∀ i, i ≠ j → mg rows c i = 0) ∧ ((j : Int), rows) = RES)) := Lib.hid (by
              rcases HCS.out with ⟨f, h1, h2, h3⟩ | ⟨h1, j, h2, h3⟩
              · rcases f with _ | f
                · exact absurd h1 (by simp [endI])
                · exact .inl ⟨f, h1, h2, h3⟩
              · rw [hnr] at h2; exact .inr ⟨h1, j, h2, h3⟩)
            have HA1 : Hid (∀ f, colI c (f + 1) rows = if pickF rows c k < 0 then (-1, rows) else if moreF rows c (pickF rows c k).toNat k = true then colI c f (rnd rows c (pickF rows c k).toNat) else (pickF rows c k, rnd rows c (pickF rows c k).toNat)) := Lib.hid fun f => by rw [colI_succ, hnr]
            have HA2 : Hid (∀ f, endI c (f + 1) rows = if pickF rows c k < 0 then true else if moreF rows c (pickF rows c k).toNat k = true then endI c f (rnd rows c (pickF rows c k).toNat) else true) := Lib.hid fun f => by rw [endI_succ, hnr]
            clear HCS hnr
            generalize pickF rows c k = P at *
            rcases ep : decide (P < 0) with _ | _
            rotate_left
            · have hPn : P < 0 := by simpa using ep
              obtain rfl : P = -1 := by
                rcases HPK.out with ⟨h, _⟩ | ⟨h, _⟩
                · exact h
                · omega
              have HRS : Hid ((-1, rows) = RES) := Lib.hid (by
                rcases HCS2.out with ⟨f, _, h, _⟩ | ⟨_, j, h, _⟩
                · rw [HA1.out, if_pos (by decide)] at h; exact h
                · omega)
              have HS1 : Hid (hermS L (c + 1) = (rows, LO)) := Lib.hid (by
                rw [HSU.out]
                unfold phF
                rw [← HRES.out, ← HRS.out]
                rfl)
              clear HA1 HA2 HCS2 HPK ep hPn
              go_wp2
              go_loop [11, 12] (fun ch i => ch = .bool false ∧ i = .int .i64 0) (fun _ _ => 0)
              case atStart => exact ⟨rfl, rfl⟩
              case round =>
                obtain ⟨rfl, rfl⟩ := hrel
                rcases ek : decide ((0 : Int) < (k : Int)) with _ | _
                all_goals
                  go_wp2
                  go_roundw
                  all_goals first
                    | exact ⟨⟨c + 1, hW, hO, by omega, by go_num, by rw [HS1.out]; exact HW3.out, HB3.out⟩, by simp [intOf]; omega⟩
                    | exact ⟨c + 1, hW, hO, by omega, by go_num, by rw [HS1.out]; exact HW3.out, HB3.out⟩
                    | (simp [intOf]; omega)
            have hp0 : 0 ≤ P := by simp at ep; omega
            obtain ⟨j, rfl⟩ : ∃ j : Nat, P = (j : Int) := ⟨P.toNat, by omega⟩
            rw [Int.toNat_natCast] at HPK HA1 HA2
            have hjk : j < k := by
              rcases HPK.out with ⟨h, _⟩ | ⟨_, h, _⟩
              · omega
              · exact h
            have HJ0 : Hid (mg rows c j ≠ 0) := Lib.hid (by
              rcases HPK.out with ⟨h, _⟩ | ⟨_, _, h, _⟩
              · omega
              · exact h)
            clear HPK ep
            have hj0I : (0 : Int) ≤ (j : Int) := by omega
            have hjkI : (j : Int) < (k : Int) := by omega
            go_wp2
            go_loopw [11, 12] (fun ch i wr => ∃ (q : Nat) (hW' : List Value), q ≤ k ∧ i = .int .i64 q ∧ ch = .bool (chgF rows c j q) ∧ HH w.heap.size wr (.slice Al k cl_) hW' (rndF rows c j q) (.slice Ao LO.length co) hO LO ∧ Below w.heap.size w wr) (fun _ i _ => k - (intOf i).toNat)
            case atStart => exact ⟨0, hW, Nat.zero_le _, rfl, rfl, HW3.out, HB3.out⟩
            case round =>
              obtain ⟨q, hW', hq, rfl, rfl, hh4, hb4⟩ := hrel
              have HW4 := Lib.hid hh4
              have HB4 := Lib.hid hb4
              clear hh4 hb4
              by_cases hlt4 : q < k
              · have hqr : q < rows.length := by have := HL2.out; omega
                have hjr : j < rows.length := by have := HL2.out; omega
                obtain ⟨r1, r2, r3⟩ := rnd_rows (rows := rows) (c := c) (j := j) (k := q) (by omega)
                have HNX := Lib.hid (rnd_next rows c j q hqr)
                have HMX := Lib.hid (chgF_succ rows c j q)
                have HHIT : Hid (hitR rows c j q = (decide (q ≠ j) && decide (cl (rw_ rows q) c ≠ 0))) := Lib.hid rfl
                have HLQ := Lib.hid (HR2.out q hqr)
                have HL4 := Lib.hid r1
                rw [← r3] at HLQ
                obtain ⟨_, _, e3, _, _, hA3⟩ := HW4.out.a.form
                injection e3 with e3 e3b e3c
                clear e3b e3c
                obtain ⟨gl, hgl, _⟩ := hA3 (by omega)
                obtain rfl := e3.trans hgl
                clear e3 hA3
                obtain ⟨gk, ck, h1, hv1, h2, b1, b2, b3, b4, _⟩ := HW4.out.a.num (k := q) (by omega) HLQ.out hlt
                have HOQ := Lib.hid (HW4.out.a.own2 (k := q) (by omega) hv1)
                rw [r3] at h2 HLQ HOQ
                unfold maxLen at b4
                clear hv1 r1 r2 r3
                have HRQ : Hid (rw_ rows q = rw_ rows q) := Lib.hid rfl
                obtain ⟨rq, hrq⟩ : ∃ r, r = rw_ rows q := ⟨_, rfl⟩
                have HRQ := Lib.hid hrq
                rw [← hrq] at h2 HLQ HOQ HHIT
                clear hrq
                generalize hitR rows c j q = HT at *
                generalize chgF rows c j q = MQ at *
                rcases eq1 : ((q : Int) != (j : Int)) with _ | _
                · have hqj : q = j := by simp at eq1; omega
                  have F1 : Hid (HT = false) := Lib.hid (by rw [HHIT.out, decide_eq_false (fun h => h hqj)]; rfl)
                  have F2 : Hid (rndF rows c j (q + 1) = rndF rows c j q) := Lib.hid (by rw [HNX.out, F1.out]; rfl)
                  have F3 : Hid (chgF rows c j (q + 1) = MQ) := Lib.hid (by rw [HMX.out, F1.out]; simp)
                  clear hqj
                  go_wp2
                  go_roundw
                  case rel => exact ⟨q + 1, hW', by omega, by go_num, by rw [F3.out], by rw [F2.out]; exact HW4.out, HB4.out⟩
                  case measure => simp [intOf]; omega
                have hqj : q ≠ j := by simp at eq1; omega
                rcases ex : (cl rq c != 0) with _ | _
                · have F1 : Hid (HT = false) := Lib.hid (by rw [HHIT.out, decide_eq_false (show ¬ cl rq c ≠ 0 by simpa using ex)]; simp)
                  have F2 : Hid (rndF rows c j (q + 1) = rndF rows c j q) := Lib.hid (by rw [HNX.out, F1.out]; rfl)
                  have F3 : Hid (chgF rows c j (q + 1) = MQ) := Lib.hid (by rw [HMX.out, F1.out]; simp)
                  generalize cl rq c = x at *
                  go_wp2
                  go_roundw
                  case rel => exact ⟨q + 1, hW', by omega, by go_num, by rw [F3.out], by rw [F2.out]; exact HW4.out, HB4.out⟩
                  case measure => simp [intOf]; omega
                have hx : cl rq c ≠ 0 := by simpa using ex
                have F1 : Hid (HT = true) := Lib.hid (by rw [HHIT.out, decide_eq_true hqj, decide_eq_true hx]; rfl)
                have F2 : Hid (rndF rows c j (q + 1) = (rndF rows c j q).set q (newR rows c j q)) := Lib.hid (by rw [HNX.out, F1.out]; rfl)
                have F3 : Hid (chgF rows c j (q + 1) = true) := Lib.hid (by rw [HMX.out, F1.out]; simp)
                obtain ⟨r1, r2, r3⟩ := rnd_rows (rows := rows) (c := c) (j := j) (k := q) (by omega)
                have HNW : Hid (newR rows c j q = subR (rw_ rows q) (wrap64 (Int.tdiv (cl (rw_ rows q) c) (cl (rw_ rows j) c))) (rw_ rows j)) := Lib.hid rfl
                rw [← HRQ.out] at HNW
                obtain ⟨gj, cj, g1, gv1, g2, d1, d2, d3, d4, _⟩ := HW4.out.a.num (k := j) (by omega) (by rw [r2]; exact HR2.out j hjr) hlt
                have HOJ := Lib.hid (HW4.out.a.own2 (k := j) (by omega) gv1)
                have HLJ := Lib.hid (HR2.out j hjr)
                rw [r2] at g2 HOJ
                have HYN : Hid (cl (rw_ rows j) c ≠ 0) := Lib.hid fun e => HJ0.out (mg_zero.2 e)
                have hy := HYN.out
                have HGL : Hid (w.heap.size ≤ gl ∧ gl < wr.heap.size) := Lib.hid (HW4.out.a.rg gl (bl_own rfl))
                have HFZ : Hid (wr.frozen? ⟨gl, q, none⟩ = false) := Lib.hid (HW4.out.a.frozen q)
                have HCQ : Hid (wr.cell? ⟨gl, q, none⟩ = some (.slice (some ⟨gk, 0, none⟩) N ck)) := Lib.hid h1
                have HRL : Hid (q < (rndF rows c j q).length) := Lib.hid (by omega)
                unfold maxLen at d4
                clear r1 r2 r3 gv1
                generalize newR rows c j q = NR at *
                generalize rw_ rows j = rj at *
                generalize cl rq c = x at *
                generalize cl rj c = y at *
                go_wp2_with fail
                have fA := BelW.cell h2 b2
                have fB := BelW.cell g1 HGL.out.2
                have fC := BelW.cell g2 d2
                have fD := BelW.cell h1 HGL.out.2
                (refine wp_region_call3e 23 (by kernel_rfl) (by kernel_rfl) (by kernel_rfl) (by kernel_rfl) (by kernel_rfl) (by kernel_rfl) (by kernel_rfl) (by kernel_rfl) (by kernel_rfl) (by kernel_rfl) (by kernel_rfl) (by rfl) (by rfl) (.inl ⟨by rfl, fun ww => by (go_simp; rfl)⟩) (.inl ⟨by rfl, fun ww => by (go_simp; rfl)⟩) ?_; dsimp only [dum3, dumO]; simp only [Act.put, List.setIfInBounds_toArray, List.set_cons_zero, List.set_cons_succ]; (repeat (go_big_quiet_step (fail))); refine wpQuiet_nil ?_; refine ⟨⟨_, fun ww => by (go_simp; rfl)⟩, ?_⟩; intro wv hw'; obtain ⟨pq, hw''⟩ := hw'; have bv := pq.h; rw [← hw''] at bv; clear hw'' pq; refine ⟨_, _, by rfl, ?_⟩)
                have HV := Lib.hid bv
                clear bv fA fB fC fD h1 h2 g1 g2
                simp only [List.map_toArray, List.map_cons, List.map_nil, Array.empty_append, Array.append_empty]
                refine (show Calls Try.prog 23 #[.slice (some ⟨gk, 0, none⟩) N ck, .slice (some ⟨gj, 0, none⟩) N cj, .int .i64 (wrap64 (Int.tdiv x y))] wv _ from ?_)
                refine (l27Less_any _ _ rq rj (wrap64 (Int.tdiv x y)) wv (HOQ.out.below HV.out).rd (HOJ.out.below HV.out).rd (by rw [HLQ.out, HLJ.out]; exact Nat.le_refl _) (by rw [HLQ.out]; omega)).mono ?_
                rintro e w5 ⟨r5, rfl, o5, b5⟩
                rw [← HNW.out] at o5
                have HB5 : Hid (Below wr.heap.size wr w5) := Lib.hid (HV.out.trans (b5.mono HV.out.size))
                have qx := (HB5.out.cell (p := ⟨gl, q, none⟩) HGL.out.2).trans HCQ.out
                have qf := (HB5.out.frozen (p := ⟨gl, q, none⟩) HGL.out.2).trans HFZ.out
                have HH5 : Hid (HH w.heap.size (w5.setCell ⟨gl, q, none⟩ r5) (.slice (some ⟨gl, 0, none⟩) k cl_) (hW'.set q r5) ((rndF rows c j q).set q NR) (.slice Ao LO.length co) hO LO) := Lib.hid (HW4.out.store1 HRL.out HB5.out HB4.out.size (o5.mono HV.out.size))
                have HB6 : Hid (Below w.heap.size w (w5.setCell ⟨gl, q, none⟩ r5)) := Lib.hid ((HB4.out.trans (HB5.out.mono HB4.out.size)).setCell HGL.out.1 _)
                obtain ⟨A5, c5, rfl, _⟩ := o5.form
                clear o5 b5
                refine ⟨_, rfl, ?_⟩
                simp only [Act.put, List.setIfInBounds_toArray, List.set_cons_zero, List.set_cons_succ]
                go_wp2
                refine NoPanic.normal ?_
                go_wp2
                go_roundw
                case rel => exact ⟨q + 1, _, by omega, by go_num, by rw [F3.out], by rw [F2.out]; exact HH5.out, HB6.out⟩
                case measure => simp [intOf]; omega
              · obtain rfl : q = k := by omega
                have hrn : rndF rows c j q = rnd rows c j := by unfold rnd; rw [HL2.out]
                rw [hrn] at HW4
                obtain ⟨wt, rfl⟩ : ∃ wt : World, wt = wr := ⟨_, rfl⟩
                have hcl : chgF rows c j q = chgF rows c j rows.length := by rw [HL2.out]
                have hml : moreF rows c j q = moreF rows c j rows.length := by rw [HL2.out]
                have HJN : ¬ ((j : Int) < 0) := by omega
                rcases em : chgF rows c j q with _ | _
                rotate_left
                · have HNX : Hid ((∃ f, endI c f (rnd rows c j) = true ∧ colI c f (rnd rows c j) = RES ∧ f + (s + 1) ≤ 200) ∨ (s + 1 ≤ 201 ∧ ∃ j' : Nat, pickF (rnd rows c j) c (rnd rows c j).length = (j' : Int) ∧ (∀ i, i ≠ j' → mg (rnd rows c j) c i = 0) ∧ ((j' : Int), rnd rows c j) = RES)) := Lib.hid (by
                    rcases HCS2.out with ⟨f, h1, h2, h3⟩ | ⟨_, j', h1, h2, _⟩
                    · rw [HA2.out, if_neg HJN] at h1
                      rw [HA1.out, if_neg HJN] at h2
                      rcases emo : moreF rows c j q with _ | _
                      · rw [emo, if_neg (by decide)] at h2
                        have hz : ∀ i, i ≠ j → mg (rnd rows c j) c i = 0 := fun i hi => Decidable.byContradiction fun hne => by
                          have := (more_spec HR2.out hlt).2 ⟨i, hi, hne⟩
                          rw [← hml, emo] at this
                          cases this
                        have hj1 : mg (rnd rows c j) c j ≠ 0 := by rw [rnd_mg HR2.out hlt HD2.out HJ0.out, if_pos rfl]; exact HJ0.out
                        exact .inr ⟨by omega, j, pick_only (rnd_bd HR2.out hlt HD2.out HJ0.out) hj1 hz, hz, h2⟩
                      · rw [emo, if_pos rfl] at h1 h2
                        exact .inl ⟨f, h1, h2, by omega⟩
                    · exfalso
                      have : j' = j := by omega
                      subst this
                      have := (rnd_none h2).2
                      rw [← hcl, em] at this
                      cases this)
                  have HLR : Hid ((rnd rows c j).length = q) := Lib.hid (by rw [rnd_len]; exact HL2.out)
                  clear hcl hml hrn HA1 HA2 HCS2
                  go_wp2
                  go_roundw
                  case rel => exact ⟨rnd rows c j, hW', s + 1, by go_num, HW4.out, HB4.out, HLR, rnd_rect HR2.out c j, rnd_bd HR2.out hlt HD2.out HJ0.out, HNX.out⟩
                  case measure => simp [intOf]; omega
                rw [hcl] at em
                obtain ⟨hrr, hmo⟩ := chg_none em
                have HPR : Hid (((j : Int), rows) = colI c 200 LS) := Lib.hid (by
                  rw [← HRES.out]
                  rcases HCS2.out with ⟨f, h1, h2, h3⟩ | ⟨_, j', h1, _, h2⟩
                  · rw [HA1.out, if_neg HJN, hml, hmo, if_neg (by decide), hrr] at h2
                    exact h2
                  · have : j' = j := by omega
                    subst this
                    exact h2)
                rw [hrr] at HW4
                clear hrr hmo em hcl hml hrn HA1 HA2 HCS2 HRES HEND HBC HRC HW HBW HW2 HB2 HW3 HB3
                have HSTEP := Lib.hid (phI_step hN3.2 hlt HP.out)
                have HPF : Hid (hermS L (c + 1) = (rows.eraseIdx j, LO.map (redR c (fixR c (rw_ rows j))) ++ [fixR c (rw_ rows j)])) := Lib.hid (by
                  rw [HSU.out]
                  unfold phF
                  rw [← HPR.out, if_neg HJN, Int.toNat_natCast])
                have hjr : j < rows.length := by have := HL2.out; omega
                have HPC : Hid (0 < cl (fixR c (rw_ rows j)) c) := Lib.hid (by
                  rcases HSTEP.out.2 with h1 | h1
                  · simp only [← HPR.out] at h1; omega
                  · simp only [← HPR.out] at h1; exact h1.1)
                clear HPR HSTEP HSU
                obtain ⟨_, _, e3, _, _, hA3⟩ := HW4.out.a.form
                injection e3 with e3 e3b e3c
                clear e3b e3c
                obtain ⟨gl, hgl, _⟩ := hA3 (by omega)
                obtain rfl := e3.trans hgl
                clear e3 hA3
                have hrN := HR2.out j hjr
                obtain ⟨gf, cf, h1, hv1, h2, b1, b2, b3, b4, _⟩ := HW4.out.a.num hjr hrN hlt
                have HOF := Lib.hid (HW4.out.a.own2 hjr hv1)
                have HVF := Lib.hid hv1
                have HHL : Hid (hW'.length = q) := Lib.hid (by rw [HW4.out.a.len, HL2.out])
                have HRN := Lib.hid hrN
                have HGL : Hid (w.heap.size ≤ gl ∧ gl < wt.heap.size) := Lib.hid (HW4.out.a.rg gl (bl_own rfl))
                have hcap2 : q ≤ cl_ ∧ cl_ ≤ maxLen := by
                  obtain ⟨_, _, e, q1, q2, _⟩ := HW4.out.a.form
                  injection e with _ q4 q5
                  have := HL2.out
                  exact ⟨by omega, by omega⟩
                unfold maxLen at b4 hcap2
                obtain ⟨hcp1, hcp2⟩ := hcap2
                clear hrN hv1
                have z1 : (0 : Int) ≤ (j : Int) := by omega
                have z2 : (j : Int) ≤ (cl_ : Int) := by omega
                have z3 : (j : Int) + 1 ≤ (q : Int) := by omega
                have z4 : (q : Int) ≤ (cl_ : Int) := by omega
                have z5 : (0 : Int) ≤ (j : Int) + 1 := by omega
                have z6 : (j : Int) + 1 ≤ (cl_ : Int) := by omega
                have z7 : (j : Int) < (q : Int) := by omega
                have zw : IntKind.i64.wrap ((j : Int) + 1) = (j : Int) + 1 := by rw [IntKind.wrap_i64]; omega
                have HONE := Lib.hid HW4.out.a.ones
                have HEA : Hid (∀ k', k' < (hW'.eraseIdx j).length → (hd (hW'.eraseIdx j) k').ownBlock ≠ some gf) := Lib.hid (HW4.out.a.erase_apart hjr (by rw [HVF.out]; rfl))
                have HEH : Hid (∀ k', k' < (hW'.eraseIdx j).length → ∀ b, (hd (hW'.eraseIdx j) k').ownBlock = some b → b < wt.heap.size) := Lib.hid fun k' hk' b hb => by
                  rw [er_len (by rw [HHL.out]; omega)] at hk'
                  rw [hd_erase] at hb
                  exact (HW4.out.a.rg b (bl_hd (i := if k' < j then k' else k' + 1) (by have := HHL.out; split <;> omega) hb)).2
                have HGO : Hid (gf ∉ bl (.slice Ao LO.length co) hO) := Lib.hid (HW4.out.ap gf (bl_hd (i := j) (by rw [HHL.out]; omega) (by rw [HVF.out]; rfl)))
                have HGF : Hid (w.heap.size ≤ gf ∧ gf < wt.heap.size) := Lib.hid ⟨b1, b2⟩
                have HEL : Hid ((hW'.eraseIdx j).length = q - 1) := Lib.hid (by rw [er_len (by rw [HHL.out]; omega), HHL.out])
                -- behind the appends
                have HER : Hid (∀ v9 w9, Below wt.heap.size wt w9 → w9.ownsRow 0 30 1 v9 ((hW'.take j).length + (q - (j + 1))) (hW'.take j ++ hW'.drop (j + 1)) → (∀ b, v9.ownBlock = some b → wt.heap.size ≤ b) →
                    HB w.heap.size w9 v9 (hW'.eraseIdx j) (rows.eraseIdx j) ∧ HB w.heap.size w9 (.slice Ao LO.length co) hO LO ∧ (∀ x ∈ bl v9 (hW'.eraseIdx j), x ∉ bl (.slice Ao LO.length co) hO)) := Lib.hid fun v9 w9 hb hrow hat => by
                  have hlen : (hW'.take j).length + (q - (j + 1)) = hW'.length - 1 := by rw [List.length_take, HHL.out]; omega
                  rw [hlen] at hrow
                  refine ⟨HW4.out.a.eraseN hjr hb HB4.out.size hrow hat, HW4.out.b.below hb, fun x hx hm => ?_⟩
                  rcases bl_mem hx with h | ⟨i, hi, h⟩
                  · have := hat x h
                    have := (HW4.out.b.rg x hm).2
                    omega
                  · rw [er_len (by rw [HHL.out]; omega)] at hi
                    rw [hd_erase] at h
                    exact HW4.out.ap x (bl_hd (i := if i < j then i else i + 1) (by have := HHL.out; split <;> omega) h) hm
                have HNEW : Hid ((hW'.drop (j + 1)).length = q - (j + 1)) := Lib.hid (by rw [List.length_drop, HHL.out])
                have HTL : Hid ((hW'.take j).length = j) := Lib.hid (by rw [List.length_take, HHL.out]; omega)
                have HDO : Hid (∀ u ∈ hW'.drop (j + 1), u.oneCell' = true) := Lib.hid fun u hu => HONE.out u (List.mem_of_mem_drop hu)
                have HDT : Hid (∀ u ∈ hW'.take j, u.oneCell' = true) := Lib.hid fun u hu => HONE.out u (List.mem_of_mem_take hu)
                have HCD : Hid (∀ w9, Below wt.heap.size wt w9 → ∀ i u, (hW'.drop (j + 1))[i]? = some u → w9.cell? ((⟨gl, j + 1, none⟩ : Addr).add i) = some u) := Lib.hid fun w9 hb i u hu => by
                  rw [List.getElem?_drop] at hu
                  have hlt5 := (List.getElem?_eq_some_iff.1 hu).1
                  have hc := (HW4.out.a.at (k := j + 1 + i) (by rw [← HW4.out.a.len]; exact hlt5)).1
                  rw [hd_mem hlt5] at hc
                  rw [List.getElem?_eq_getElem hlt5] at hu
                  injection hu with hu
                  rw [← hu, Addr.add_lit]
                  exact (hb.cell (p := ⟨gl, j + 1 + i, none⟩) HGL.out.2).trans hc
                have HCT : Hid (∀ w9, Below wt.heap.size wt w9 → ∀ i u, (hW'.take j)[i]? = some u → w9.cell? ((⟨gl, 0, none⟩ : Addr).add i) = some u) := Lib.hid fun w9 hb i u hu => by
                  rw [List.getElem?_take] at hu
                  split at hu
                  · have hlt5 := (List.getElem?_eq_some_iff.1 hu).1
                    have hc := (HW4.out.a.at (k := i) (by rw [← HW4.out.a.len]; exact hlt5)).1
                    rw [hd_mem hlt5] at hc
                    rw [List.getElem?_eq_getElem hlt5] at hu
                    injection hu with hu
                    rw [← hu, Addr.add_lit, Nat.zero_add]
                    exact (hb.cell (p := ⟨gl, i, none⟩) HGL.out.2).trans hc
                  · cases hu
                have HFX : Hid (0 < cl (fixR c (rw_ rows j)) c) := HPC
                have HFL : Hid (fixR c (rw_ rows j) = if cl (rw_ rows j) c < 0 then (rw_ rows j).map negW else rw_ rows j) := Lib.hid rfl
                have HFR : Hid (∀ t, I64 (cl (rw_ rows j) t)) := Lib.hid fun t => by
                  by_cases ht : t < (rw_ rows j).length
                  · rw [cl_get ht]; exact HOF.out.2 _ (by simp)
                  · rw [cl_out (by omega)]; exact ⟨by omega, by omega⟩
                clear HPC
                generalize rows.eraseIdx j = rowsE at *
                generalize hW'.eraseIdx j = hLE at *
                generalize hW'.take j = hT at *
                generalize hW'.drop (j + 1) = hDr at *
                generalize fixR c (rw_ rows j) = fx at *
                generalize rw_ rows j = fr at *
                have HFN : Hid (fx.length = N) := Lib.hid (by rw [HFL.out]; split <;> simp [HRN.out])
                rcases ex : decide (cl fr c < 0) with _ | _
                · have hfx : fx = fr := by rw [HFL.out, if_neg (by simpa using ex)]
                  have HXO : Hid (OwI wt 0 (.slice (some ⟨gf, 0, none⟩) N cf) fx) := Lib.hid (by rw [hfx]; exact HOF.out)
                  have HXB : Hid (Below wt.heap.size wt wt) := Lib.hid (Below.refl _ _)
                  have HXG : Hid (w.heap.size ≤ gf ∧ gf < wt.heap.size) := HGF
                  have HXH : Hid (∀ k', k' < hLE.length → (hd hLE k').ownBlock ≠ some gf) := HEA
                  have HXD : Hid (gf ∉ bl (.slice Ao LO.length co) hO) := HGO
                  have HXC : cf ≤ 2 ^ 63 - 1 := b4
                  obtain ⟨wx, hwx⟩ : ∃ W : World, W = wt := ⟨_, rfl⟩
                  rw [← hwx] at HXO HXG h1 h2
                  have HXB : Hid (Below wt.heap.size wt wx) := Lib.hid (by rw [hwx]; exact Below.refl _ _)
                  obtain ⟨gx, hgx⟩ : ∃ g : Nat, g = gf := ⟨_, rfl⟩
                  obtain ⟨cx, hcx⟩ : ∃ g : Nat, g = cf := ⟨_, rfl⟩
                  rw [← hgx] at HXO HXG HXH HXD h1 h2
                  rw [← hcx] at HXO HXC h1
                  generalize cl fr c = x9 at *
                  rw [← hwx]
                  clear hfx hwx hgx hcx HEA HGO HGF
                  go_wp2_with fail
                  have HDR : Hid (Below wt.heap.size wt (wx.drew.alloc (.cells #[] 30))) := Lib.hid ((HXB.out.drew).alloc (by have := HXB.out.size; exact this) _)
                  have OE : Hid ((wx.drew.alloc (.cells #[] 30)).ownsRow 0 30 1 (.slice (some ⟨wx.heap.size, 0, none⟩) 0 0) 0 []) := Lib.hid (by
                    have := World.ownsRow_lit (e := 30) (size := 1) (base := 0) wx.drew #[] 0 (Nat.zero_le _) (by unfold maxLen; omega) (by simp)
                    simpa using this)
                  have hxs : wt.heap.size ≤ wx.heap.size := HXB.out.size
                  have hTl : hT.length + (q - (j + 1)) ≤ 1073741824 := by have := HTL.out; omega
                  obtain ⟨ad, HAD, HCA⟩ : ∃ ad : Addr, Hid ((if cl_ = j + 1 then some ⟨gl, 0, none⟩ else some ⟨gl, j + 1, none⟩ : Option Addr) = some ad) ∧ Hid (∀ w9, Below wt.heap.size wt w9 → ∀ i u, hDr[i]? = some u → w9.cell? (ad.add i) = some u) := by
                    by_cases hcu : cl_ = j + 1
                    · refine ⟨⟨gl, 0, none⟩, Lib.hid (if_pos hcu), Lib.hid fun w9 hb i u hu => ?_⟩
                      have := (List.getElem?_eq_some_iff.1 hu).1
                      have := HNEW.out
                      omega
                    · exact ⟨⟨gl, j + 1, none⟩, Lib.hid (if_neg hcu), HCD⟩
                  go_region_held3 (fun w' => True) (trivial)
                    (first
                      | (refine step_append_hdrs rfl (.tmp 140) (.tmp 143) rfl _ [] OE.out (by rfl) ⟨gl, 0, none⟩ j cl_ hT HTL.out (HCT.out _ HDR.out) HDT.out (by rfl) (by simp; omega) ?_; intro v8 w8 o8 g8 p8; have X8 := Lib.hid (app_first HTL.out o8 g8 p8); clear o8 g8 p8)
                      | (refine step_append_hdrs rfl (.tmp 144) (.tmp 148) rfl v8 hT X8.out.1 (by rfl) ad (q - (j + 1)) (cl_ - (j + 1)) hDr HNEW.out (HCA.out w8 (HXB.out.trans (X8.out.2.1.mono hxs))) HDO.out (by show Value.slice (if cl_ = j + 1 then some ⟨gl, 0, none⟩ else some ⟨gl, j + 1, none⟩ : Option Addr) (q - (j + 1)) (cl_ - (j + 1)) = _; rw [HAD.out]) hTl ?_; intro v9 w9 o9 g9 p9; have X9 := Lib.hid (app_second HXB.out X8.out.2.1 X8.out.2.2 g9 p9); have HR9 := Lib.hid (HER.out v9 w9 X9.out.1 o9 X9.out.2.1); clear o9 g9 p9))
                  rw [HAD.out]
                  clear HER HCA HAD HCT HCD HDO HDT HNEW hTl HTL X8 OE HDR HONE
                  obtain ⟨hbL, hbO, hap⟩ := HR9.out
                  have HG1 : Hid (gx ∉ bl v9 hLE) := Lib.hid fun hm => by
                    rcases bl_mem hm with h | ⟨i, hi, h⟩
                    · have := X9.out.2.2.2 gx h
                      have := HXG.out
                      omega
                    · exact HXH.out i hi h
                  have HF9 : Hid (OwI w9 0 (.slice (some ⟨gx, 0, none⟩) N cx) fx) := Lib.hid (HXO.out.below X9.out.2.2.1)
                  have HB9 : Hid (Below w.heap.size w w9) := Lib.hid (HB4.out.trans (X9.out.1.mono HB4.out.size))
                  have hg9 : gx < w9.heap.size := by have := HXG.out; have := X9.out.2.2.1.size; omega
                  have HGF9 : Hid (w.heap.size ≤ gx) := Lib.hid HXG.out.1
                  obtain ⟨A9, c9, rfl, _, _, _⟩ := hbL.form
                  have HH9 : Hid (HH w.heap.size w9 (.slice A9 rowsE.length c9) hLE rowsE (.slice Ao LO.length co) hO LO) := Lib.hid ⟨hbL, hbO, hap⟩
                  clear hbL hbO hap X9 HR9 HXO HXB HXG HXH hxs HFR HFL HEH HEL HW4 HB4
                  go_wp2
                  go_loopw [14] (fun i wr => ∃ (k : Nat) (hO' : List Value), k ≤ LO.length ∧ i = .int .i64 k ∧ HH w.heap.size wr (.slice A9 rowsE.length c9) hLE rowsE (.slice Ao LO.length co) hO' ((LO.take k).map (redR c fx) ++ LO.drop k) ∧ OwI wr 0 (.slice (some ⟨gx, 0, none⟩) N cx) fx ∧ Below w.heap.size w wr ∧ gx < wr.heap.size ∧ gx ∉ bl (.slice Ao LO.length co) hO') (fun i _ => LO.length - (intOf i).toNat)
                  case atStart => exact ⟨0, hO, Nat.zero_le _, rfl, by simpa using HH9.out, HF9.out, HB9.out, hg9, HXD.out⟩
                  case round =>
                    obtain ⟨k, hO', hk6, rfl, r1, r2, r3, r4, r5⟩ := hrel
                    have HR1 := Lib.hid r1
                    have HR3 := Lib.hid r2
                    have HR4 := Lib.hid r3
                    have HR5 := Lib.hid r4
                    have HR6 := Lib.hid r5
                    clear r1 r2 r3 r4 r5 HH9 HF9 HB9 hg9 HXD
                    by_cases hlt6 : k < LO.length
                    · have hat6 := red_at LO (redR c fx) k hlt6
                      have HST6 := Lib.hid (red_step LO (redR c fx) k hlt6)
                      have HDN : Hid ((rw_ LO k).length = N) := Lib.hid (HP.out.olen _ (by rw [rw_mem hlt6]; exact List.getElem_mem hlt6))
                      have HL6 := Lib.hid hat6.2
                      obtain ⟨_, _, e3, _, _, hA3⟩ := HR1.out.b.form
                      injection e3 with e3 e3b e3c
                      clear e3b e3c
                      obtain ⟨go_, hgo, _⟩ := hA3 (by rw [hat6.2]; omega)
                      obtain rfl := e3.trans hgo
                      clear e3 hA3
                      obtain ⟨gk, ck, h1, hv1, h2, b1, b2, b3, b4, _⟩ := HR1.out.b.num (k := k) (by rw [hat6.2]; exact hlt6) (by rw [hat6.1]; exact HDN.out) hlt
                      have HOK := Lib.hid (HR1.out.b.own2 (k := k) (by rw [hat6.2]; exact hlt6) hv1)
                      rw [hat6.1] at h2 HOK
                      have hfN : fx.length = N := HFN.out
                      have hcf := HR3.out.cellAt c (by omega)
                      rw [← cl_get (by omega)] at hcf
                      have HGO6 : Hid (w.heap.size ≤ go_ ∧ go_ < wr.heap.size) := Lib.hid (HR1.out.b.rg go_ (bl_own rfl))
                      have HGX6 : Hid (gx ≠ go_) := Lib.hid fun e => HR6.out (by rw [e]; exact bl_own rfl)
                      have HFZ6 : Hid (wr.frozen? ⟨go_, k, none⟩ = false) := Lib.hid (HR1.out.b.frozen k)
                      have HCQ6 : Hid (wr.cell? ⟨go_, k, none⟩ = some (.slice (some ⟨gk, 0, none⟩) N ck)) := Lib.hid h1
                      unfold maxLen at b4
                      have hy := HFX.out
                      have HRED : Hid (redR c fx (rw_ LO k) = subR (rw_ LO k) (floorW (cl (rw_ LO k) c) (cl fx c)) fx) := Lib.hid rfl
                      clear hat6 hv1 hfN
                      generalize redR c fx (rw_ LO k) = DN at *
                      generalize rw_ LO k = d at *
                      generalize cl d c = x6 at *
                      generalize cl fx c = y6 at *
                      have HFLO : Hid (∀ W : World, Calls Try.prog 24 #[.int .i64 x6, .int .i64 y6] W fun e w' => e = .returned (.int .i64 (floorW x6 y6)) ∧ W = w') := Lib.hid fun W => l27Floor_any x6 y6 W hy
                      generalize floorW x6 y6 = q6 at *
                      go_wp2_with fail
                      have fA := BelW.cell h2 b2
                      have fB := BelW.cell hcf HR5.out
                      have fD := BelW.cell h1 HGO6.out.2
                      (refine wp_region_call3e 17 (by kernel_rfl) (by kernel_rfl) (by kernel_rfl) (by kernel_rfl) (by kernel_rfl) (by kernel_rfl) (by kernel_rfl) (by kernel_rfl) (by kernel_rfl) (by kernel_rfl) (by kernel_rfl) (by rfl) (by rfl) (.inl ⟨by rfl, fun ww => by (go_simp; rfl)⟩) (.inl ⟨by rfl, fun ww => by (go_simp; rfl)⟩) ?_; dsimp only [dum3, dumO]; simp only [Act.put, List.setIfInBounds_toArray, List.set_cons_zero, List.set_cons_succ]; (repeat (go_big_quiet_step ((go_at_call 24; exact Calls.bel_same (HFLO.out _))))); refine wpQuiet_nil ?_; refine ⟨⟨_, fun ww => by (go_simp; rfl)⟩, ?_⟩; intro wv hw'; obtain ⟨pq, hw''⟩ := hw'; have bv := pq.h; rw [← hw''] at bv; clear hw'' pq; refine ⟨_, _, by rfl, ?_⟩)
                      have HV := Lib.hid bv
                      clear bv fA fB fD h1 h2 hcf
                      simp only [List.map_toArray, List.map_cons, List.map_nil, Array.empty_append, Array.append_empty]
                      refine (show Calls Try.prog 23 #[.slice (some ⟨gk, 0, none⟩) N ck, .slice (some ⟨gx, 0, none⟩) N cx, .int .i64 q6] wv _ from ?_)
                      refine (l27Less_any _ _ d fx q6 wv (HOK.out.below HV.out).rd (HR3.out.below HV.out).rd (by rw [HDN.out, HFN.out]; exact Nat.le_refl _) (by rw [HDN.out]; omega)).mono ?_
                      rintro e w5 ⟨r5, rfl, o5, b5⟩
                      rw [← HRED.out] at o5
                      have HB5 : Hid (Below wr.heap.size wr w5) := Lib.hid (HV.out.trans (b5.mono HV.out.size))
                      have qx := (HB5.out.cell (p := ⟨go_, k, none⟩) HGO6.out.2).trans HCQ6.out
                      have qf := (HB5.out.frozen (p := ⟨go_, k, none⟩) HGO6.out.2).trans HFZ6.out
                      have HH5 : Hid (HH w.heap.size (w5.setCell ⟨go_, k, none⟩ r5) (.slice A9 rowsE.length c9) hLE rowsE (.slice (some ⟨go_, 0, none⟩) LO.length co) (hO'.set k r5) ((LO.take (k + 1)).map (redR c fx) ++ LO.drop (k + 1))) := Lib.hid (by
                        have := HR1.out.store2 (i := k) (by rw [HL6.out]; exact hlt6) HB5.out HR4.out.size (o5.mono HV.out.size)
                        rw [HST6.out] at this
                        exact this)
                      have HB6 : Hid (Below w.heap.size w (w5.setCell ⟨go_, k, none⟩ r5)) := Lib.hid ((HR4.out.trans (HB5.out.mono HR4.out.size)).setCell HGO6.out.1 _)
                      have HS3 : Hid (OwI (w5.setCell ⟨go_, k, none⟩ r5) 0 (.slice (some ⟨gx, 0, none⟩) N cx) fx) := Lib.hid ((HR3.out.below HB5.out).keep0 fun b hb => by
                        simp [Value.ownBlock] at hb
                        subst hb
                        exact Below.heap_setCell _ _ _ _ HGX6.out)
                      have HS4 : Hid (gx < (w5.setCell ⟨go_, k, none⟩ r5).heap.size) := Lib.hid (by have e : (w5.setCell ⟨go_, k, none⟩ r5).heap.size = w5.heap.size := by simp
                                                                                                    have := HR5.out; have := HB5.out.size; omega)
                      have HS5 : Hid (gx ∉ bl (.slice (some ⟨go_, 0, none⟩) LO.length co) (hO'.set k r5)) := Lib.hid fun hm => by
                        rcases bl_set (by rw [HR1.out.b.len, HL6.out]; exact hlt6) hm with h | h
                        · exact HR6.out h
                        · have := (o5.1.lt gx h).1
                          have := HR5.out
                          have := HV.out.size
                          omega
                      obtain ⟨A5, c5, rfl, _⟩ := o5.form
                      clear o5 b5
                      refine ⟨_, rfl, ?_⟩
                      simp only [Act.put, List.setIfInBounds_toArray, List.set_cons_zero, List.set_cons_succ]
                      go_wp2
                      refine NoPanic.normal ?_
                      go_wp2
                      go_roundw
                      case rel => exact ⟨k + 1, _, by omega, by go_num, HH5.out, HS3.out, HB6.out, HS4.out, HS5.out⟩
                      case measure => simp [intOf]; omega
                    · obtain rfl : k = LO.length := by omega
                      have hfin : (LO.take LO.length).map (redR c fx) ++ LO.drop LO.length = LO.map (redR c fx) := by rw [List.take_length, List.drop_length, List.append_nil]
                      rw [hfin] at HR1
                      clear hfin
                      have HWA : Hid (Below wr.heap.size wr (wr.alloc (.cells #[.slice (some ⟨gx, 0, none⟩) N cx] 30))) := Lib.hid ((Below.refl _ _).alloc (Nat.le_refl _) _)
                      have HROW := Lib.hid (HR1.out.b.below HWA.out)
                      have hol : hO'.length = LO.length := by rw [HR1.out.b.len, List.length_map]
                      have HOL := Lib.hid hol
                      have hol3 : hO'.length ≤ 3 := by omega
                      clear hol
                      go_wp2_with (at_builtin; refine append_hdrs rfl (.tmp 177) (.tmp 179) rfl _ hO' HROW.out.row (by rfl) ⟨wr.heap.size, 0, none⟩ 1 1 [.slice (some ⟨gx, 0, none⟩) N cx] rfl (cell_one_new _ _ _) (fun u hu => by simp at hu; subst hu; rfl) (by rfl) (by simp; omega) ?_; intro v8 w8 o8 g8 p8)
                      have hwsz : (wr.alloc (.cells #[.slice (some ⟨gx, 0, none⟩) N cx] 30)).heap.size = wr.heap.size + 1 := by simp
                      have hw4 := HR4.out.size
                      have HPU : Hid (HB w.heap.size w8 v8 (hO' ++ [.slice (some ⟨gx, 0, none⟩) N cx]) (LO.map (redR c fx) ++ [fx])) := Lib.hid (HROW.out.pushH (f := .slice (some ⟨gx, 0, none⟩) N cx) (r := fx) (by simpa using o8) g8 p8 (by rw [hwsz]; omega) (HR3.out.below HWA.out) fun b hb => by
                        simp [Value.ownBlock] at hb
                        subst hb
                        exact ⟨HGF9.out, by have := HR5.out; omega, HR6.out⟩)
                      have HLE8 : Hid (HB w.heap.size w8 (.slice A9 rowsE.length c9) hLE rowsE) := Lib.hid ((HR1.out.a.below HWA.out).grown g8 fun b hb hm => HR1.out.ap b hm (bl_own hb))
                      have HB8 : Hid (Below w.heap.size w w8) := Lib.hid ((HR4.out.trans (HWA.out.mono hw4)).grown g8 (by rw [hwsz]; omega) fun b hb => (HR1.out.b.rg b (bl_own hb)).1)
                      have HAP8 : Hid (∀ x ∈ bl (.slice A9 rowsE.length c9) hLE, x ∉ bl v8 (hO' ++ [.slice (some ⟨gx, 0, none⟩) N cx])) := Lib.hid fun x hx hm => by
                        have hxs := (HR1.out.a.rg x hx).2
                        rcases bl_push (v := .slice Ao LO.length co) hm with h | h | h
                        · rcases p8 with e | e
                          · rw [e] at h; exact HR1.out.ap x hx (bl_own h)
                          · rw [e] at h; injection h with h; rw [hwsz] at h; omega
                        · exact HR1.out.ap x hx h
                        · simp [Value.ownBlock] at h; exact HG1.out (by rw [h]; exact hx)
                      have HS9 : Hid (hermS L (c + 1) = (rowsE, LO.map (redR c fx) ++ [fx])) := HPF
                      clear o8 g8 p8 hwsz
                      go_wp2
                      go_roundw
                      all_goals first
                        | exact ⟨⟨c + 1, hLE, hO' ++ [.slice (some ⟨gx, 0, none⟩) N cx], by omega, by go_num, by rw [HS9.out]; exact ⟨HLE8.out, HPU.out, HAP8.out⟩, HB8.out⟩, by simp [intOf]; omega⟩
                        | exact ⟨c + 1, hLE, hO' ++ [.slice (some ⟨gx, 0, none⟩) N cx], by omega, by go_num, by rw [HS9.out]; exact ⟨HLE8.out, HPU.out, HAP8.out⟩, HB8.out⟩
                        | (simp [intOf]; omega)
                · have hfx : fx = fr.map negW := by rw [HFL.out, if_pos (by simpa using ex)]
                  have HFM := Lib.hid hfx
                  clear hfx
                  obtain ⟨i0, hi0, hz0, hz1, hz2⟩ := info_parts int_info
                  have HXN : Hid (subR (List.replicate N 0) 1 fr = fx) := Lib.hid (by rw [HFM.out]; exact sub_neg HRN.out HFR.out)
                  generalize cl fr c = x9 at *
                  go_wp2_with (at_make; refine wpList_make_full _ rfl _ _ 30 rfl wt.heap.size 3 i0 (.int .i64 0) 1 Try.underlying30 hi0 hz0 hz1 _ _ _ _ N rfl rfl rfl rfl (by rw [hz2]; omega) (by unfold maxLen; omega) (Nat.le_refl _) ?_; intro w0 hown0 hgrow0)
                  have O0 : Hid (OwI w0 wt.heap.size (.slice (some ⟨wt.heap.size, 0, none⟩) N N) (List.replicate N 0)) := Lib.hid ⟨by have h := hown0; rw [show (Value.int IntKind.i64 0).cells = #[Value.int .i64 0] from rfl, Nat.mul_one, toList_madeCells_one] at h; simpa using h, fun x hx => by simp at hx; rw [hx.2]; unfold I64; omega⟩
                  have B0 : Hid (Below wt.heap.size wt w0) := Lib.hid ((Below.refl _ _).grown hgrow0 (Nat.le_refl _) (fun k h => by cases h))
                  clear hown0 hgrow0
                  go_wp2_with fail
                  refine (l27Less_any _ _ (List.replicate N 0) fr 1 w0 O0.out.rd (HOF.out.below B0.out).rd (by rw [List.length_replicate, HRN.out]; exact Nat.le_refl _) (by rw [List.length_replicate]; omega)).mono ?_
                  rintro e wx ⟨r5, rfl, o5, b5⟩
                  rw [HXN.out] at o5
                  have HXB : Hid (Below wt.heap.size wt wx) := Lib.hid (B0.out.trans (b5.mono B0.out.size))
                  obtain ⟨A5, cx, rfl, hcx, hcm, _, hA5⟩ := OwI.form o5
                  obtain ⟨gx, rfl, hg5, hg6⟩ := hA5 (by rw [HFN.out]; omega)
                  rw [HFN.out] at o5 hcx ⊢
                  have HXO : Hid (OwI wx 0 (.slice (some ⟨gx, 0, none⟩) N cx) fx) := Lib.hid (o5.mono (Nat.zero_le _))
                  have HXG : Hid (w.heap.size ≤ gx ∧ gx < wx.heap.size) := Lib.hid ⟨by have := HB4.out.size; have := B0.out.size; omega, hg6⟩
                  have HXG2 : Hid (wt.heap.size ≤ gx) := Lib.hid (by have := B0.out.size; omega)
                  have HXH : Hid (∀ k', k' < hLE.length → (hd hLE k').ownBlock ≠ some gx) := Lib.hid fun k' hk' hv => by
                    have := HEH.out k' hk' gx hv
                    have := HXG2.out
                    omega
                  have HXD : Hid (gx ∉ bl (.slice Ao LO.length co) hO) := Lib.hid fun hm => by have := (HW4.out.b.rg gx hm).2; have := HXG2.out; omega
                  have HXC : cx ≤ 2 ^ 63 - 1 := by unfold maxLen at hcm; exact hcm
                  clear o5 b5 HXG2 HXN HFM O0 B0 hg5 hg6 hi0 hz0 hz1 hz2 HEA HGO HGF
                  go_wp2_with fail
                  have HDR : Hid (Below wt.heap.size wt (wx.drew.alloc (.cells #[] 30))) := Lib.hid ((HXB.out.drew).alloc (by have := HXB.out.size; exact this) _)
                  have OE : Hid ((wx.drew.alloc (.cells #[] 30)).ownsRow 0 30 1 (.slice (some ⟨wx.heap.size, 0, none⟩) 0 0) 0 []) := Lib.hid (by
                    have := World.ownsRow_lit (e := 30) (size := 1) (base := 0) wx.drew #[] 0 (Nat.zero_le _) (by unfold maxLen; omega) (by simp)
                    simpa using this)
                  have hxs : wt.heap.size ≤ wx.heap.size := HXB.out.size
                  have hTl : hT.length + (q - (j + 1)) ≤ 1073741824 := by have := HTL.out; omega
                  obtain ⟨ad, HAD, HCA⟩ : ∃ ad : Addr, Hid ((if cl_ = j + 1 then some ⟨gl, 0, none⟩ else some ⟨gl, j + 1, none⟩ : Option Addr) = some ad) ∧ Hid (∀ w9, Below wt.heap.size wt w9 → ∀ i u, hDr[i]? = some u → w9.cell? (ad.add i) = some u) := by
                    by_cases hcu : cl_ = j + 1
                    · refine ⟨⟨gl, 0, none⟩, Lib.hid (if_pos hcu), Lib.hid fun w9 hb i u hu => ?_⟩
                      have := (List.getElem?_eq_some_iff.1 hu).1
                      have := HNEW.out
                      omega
                    · exact ⟨⟨gl, j + 1, none⟩, Lib.hid (if_neg hcu), HCD⟩
                  go_region_held3 (fun w' => True) (trivial)
                    (first
                      | (refine step_append_hdrs rfl (.tmp 140) (.tmp 143) rfl _ [] OE.out (by rfl) ⟨gl, 0, none⟩ j cl_ hT HTL.out (HCT.out _ HDR.out) HDT.out (by rfl) (by simp; omega) ?_; intro v8 w8 o8 g8 p8; have X8 := Lib.hid (app_first HTL.out o8 g8 p8); clear o8 g8 p8)
                      | (refine step_append_hdrs rfl (.tmp 144) (.tmp 148) rfl v8 hT X8.out.1 (by rfl) ad (q - (j + 1)) (cl_ - (j + 1)) hDr HNEW.out (HCA.out w8 (HXB.out.trans (X8.out.2.1.mono hxs))) HDO.out (by show Value.slice (if cl_ = j + 1 then some ⟨gl, 0, none⟩ else some ⟨gl, j + 1, none⟩ : Option Addr) (q - (j + 1)) (cl_ - (j + 1)) = _; rw [HAD.out]) hTl ?_; intro v9 w9 o9 g9 p9; have X9 := Lib.hid (app_second HXB.out X8.out.2.1 X8.out.2.2 g9 p9); have HR9 := Lib.hid (HER.out v9 w9 X9.out.1 o9 X9.out.2.1); clear o9 g9 p9))
                  rw [HAD.out]
                  clear HER HCA HAD HCT HCD HDO HDT HNEW hTl HTL X8 OE HDR HONE
                  obtain ⟨hbL, hbO, hap⟩ := HR9.out
                  have HG1 : Hid (gx ∉ bl v9 hLE) := Lib.hid fun hm => by
                    rcases bl_mem hm with h | ⟨i, hi, h⟩
                    · have := X9.out.2.2.2 gx h
                      have := HXG.out
                      omega
                    · exact HXH.out i hi h
                  have HF9 : Hid (OwI w9 0 (.slice (some ⟨gx, 0, none⟩) N cx) fx) := Lib.hid (HXO.out.below X9.out.2.2.1)
                  have HB9 : Hid (Below w.heap.size w w9) := Lib.hid (HB4.out.trans (X9.out.1.mono HB4.out.size))
                  have hg9 : gx < w9.heap.size := by have := HXG.out; have := X9.out.2.2.1.size; omega
                  have HGF9 : Hid (w.heap.size ≤ gx) := Lib.hid HXG.out.1
                  obtain ⟨A9, c9, rfl, _, _, _⟩ := hbL.form
                  have HH9 : Hid (HH w.heap.size w9 (.slice A9 rowsE.length c9) hLE rowsE (.slice Ao LO.length co) hO LO) := Lib.hid ⟨hbL, hbO, hap⟩
                  clear hbL hbO hap X9 HR9 HXO HXB HXG HXH hxs HFR HFL HEH HEL HW4 HB4
                  go_wp2
                  go_loopw [14] (fun i wr => ∃ (k : Nat) (hO' : List Value), k ≤ LO.length ∧ i = .int .i64 k ∧ HH w.heap.size wr (.slice A9 rowsE.length c9) hLE rowsE (.slice Ao LO.length co) hO' ((LO.take k).map (redR c fx) ++ LO.drop k) ∧ OwI wr 0 (.slice (some ⟨gx, 0, none⟩) N cx) fx ∧ Below w.heap.size w wr ∧ gx < wr.heap.size ∧ gx ∉ bl (.slice Ao LO.length co) hO') (fun i _ => LO.length - (intOf i).toNat)
                  case atStart => exact ⟨0, hO, Nat.zero_le _, rfl, by simpa using HH9.out, HF9.out, HB9.out, hg9, HXD.out⟩
                  case round =>
                    obtain ⟨k, hO', hk6, rfl, r1, r2, r3, r4, r5⟩ := hrel
                    have HR1 := Lib.hid r1
                    have HR3 := Lib.hid r2
                    have HR4 := Lib.hid r3
                    have HR5 := Lib.hid r4
                    have HR6 := Lib.hid r5
                    clear r1 r2 r3 r4 r5 HH9 HF9 HB9 hg9 HXD
                    by_cases hlt6 : k < LO.length
                    · have hat6 := red_at LO (redR c fx) k hlt6
                      have HST6 := Lib.hid (red_step LO (redR c fx) k hlt6)
                      have HDN : Hid ((rw_ LO k).length = N) := Lib.hid (HP.out.olen _ (by rw [rw_mem hlt6]; exact List.getElem_mem hlt6))
                      have HL6 := Lib.hid hat6.2
                      obtain ⟨_, _, e3, _, _, hA3⟩ := HR1.out.b.form
                      injection e3 with e3 e3b e3c
                      clear e3b e3c
                      obtain ⟨go_, hgo, _⟩ := hA3 (by rw [hat6.2]; omega)
                      obtain rfl := e3.trans hgo
                      clear e3 hA3
                      obtain ⟨gk, ck, h1, hv1, h2, b1, b2, b3, b4, _⟩ := HR1.out.b.num (k := k) (by rw [hat6.2]; exact hlt6) (by rw [hat6.1]; exact HDN.out) hlt
                      have HOK := Lib.hid (HR1.out.b.own2 (k := k) (by rw [hat6.2]; exact hlt6) hv1)
                      rw [hat6.1] at h2 HOK
                      have hfN : fx.length = N := HFN.out
                      have hcf := HR3.out.cellAt c (by omega)
                      rw [← cl_get (by omega)] at hcf
                      have HGO6 : Hid (w.heap.size ≤ go_ ∧ go_ < wr.heap.size) := Lib.hid (HR1.out.b.rg go_ (bl_own rfl))
                      have HGX6 : Hid (gx ≠ go_) := Lib.hid fun e => HR6.out (by rw [e]; exact bl_own rfl)
                      have HFZ6 : Hid (wr.frozen? ⟨go_, k, none⟩ = false) := Lib.hid (HR1.out.b.frozen k)
                      have HCQ6 : Hid (wr.cell? ⟨go_, k, none⟩ = some (.slice (some ⟨gk, 0, none⟩) N ck)) := Lib.hid h1
                      unfold maxLen at b4
                      have hy := HFX.out
                      have HRED : Hid (redR c fx (rw_ LO k) = subR (rw_ LO k) (floorW (cl (rw_ LO k) c) (cl fx c)) fx) := Lib.hid rfl
                      clear hat6 hv1 hfN
                      generalize redR c fx (rw_ LO k) = DN at *
                      generalize rw_ LO k = d at *
                      generalize cl d c = x6 at *
                      generalize cl fx c = y6 at *
                      have HFLO : Hid (∀ W : World, Calls Try.prog 24 #[.int .i64 x6, .int .i64 y6] W fun e w' => e = .returned (.int .i64 (floorW x6 y6)) ∧ W = w') := Lib.hid fun W => l27Floor_any x6 y6 W hy
                      generalize floorW x6 y6 = q6 at *
                      go_wp2_with fail
                      have fA := BelW.cell h2 b2
                      have fB := BelW.cell hcf HR5.out
                      have fD := BelW.cell h1 HGO6.out.2
                      (refine wp_region_call3e 17 (by kernel_rfl) (by kernel_rfl) (by kernel_rfl) (by kernel_rfl) (by kernel_rfl) (by kernel_rfl) (by kernel_rfl) (by kernel_rfl) (by kernel_rfl) (by kernel_rfl) (by kernel_rfl) (by rfl) (by rfl) (.inl ⟨by rfl, fun ww => by (go_simp; rfl)⟩) (.inl ⟨by rfl, fun ww => by (go_simp; rfl)⟩) ?_; dsimp only [dum3, dumO]; simp only [Act.put, List.setIfInBounds_toArray, List.set_cons_zero, List.set_cons_succ]; (repeat (go_big_quiet_step ((go_at_call 24; exact Calls.bel_same (HFLO.out _))))); refine wpQuiet_nil ?_; refine ⟨⟨_, fun ww => by (go_simp; rfl)⟩, ?_⟩; intro wv hw'; obtain ⟨pq, hw''⟩ := hw'; have bv := pq.h; rw [← hw''] at bv; clear hw'' pq; refine ⟨_, _, by rfl, ?_⟩)
                      have HV := Lib.hid bv
                      clear bv fA fB fD h1 h2 hcf
                      simp only [List.map_toArray, List.map_cons, List.map_nil, Array.empty_append, Array.append_empty]
                      refine (show Calls Try.prog 23 #[.slice (some ⟨gk, 0, none⟩) N ck, .slice (some ⟨gx, 0, none⟩) N cx, .int .i64 q6] wv _ from ?_)
                      refine (l27Less_any _ _ d fx q6 wv (HOK.out.below HV.out).rd (HR3.out.below HV.out).rd (by rw [HDN.out, HFN.out]; exact Nat.le_refl _) (by rw [HDN.out]; omega)).mono ?_
                      rintro e w5 ⟨r5, rfl, o5, b5⟩
                      rw [← HRED.out] at o5
                      have HB5 : Hid (Below wr.heap.size wr w5) := Lib.hid (HV.out.trans (b5.mono HV.out.size))
                      have qx := (HB5.out.cell (p := ⟨go_, k, none⟩) HGO6.out.2).trans HCQ6.out
                      have qf := (HB5.out.frozen (p := ⟨go_, k, none⟩) HGO6.out.2).trans HFZ6.out
                      have HH5 : Hid (HH w.heap.size (w5.setCell ⟨go_, k, none⟩ r5) (.slice A9 rowsE.length c9) hLE rowsE (.slice (some ⟨go_, 0, none⟩) LO.length co) (hO'.set k r5) ((LO.take (k + 1)).map (redR c fx) ++ LO.drop (k + 1))) := Lib.hid (by
                        have := HR1.out.store2 (i := k) (by rw [HL6.out]; exact hlt6) HB5.out HR4.out.size (o5.mono HV.out.size)
                        rw [HST6.out] at this
                        exact this)
                      have HB6 : Hid (Below w.heap.size w (w5.setCell ⟨go_, k, none⟩ r5)) := Lib.hid ((HR4.out.trans (HB5.out.mono HR4.out.size)).setCell HGO6.out.1 _)
                      have HS3 : Hid (OwI (w5.setCell ⟨go_, k, none⟩ r5) 0 (.slice (some ⟨gx, 0, none⟩) N cx) fx) := Lib.hid ((HR3.out.below HB5.out).keep0 fun b hb => by
                        simp [Value.ownBlock] at hb
                        subst hb
                        exact Below.heap_setCell _ _ _ _ HGX6.out)
                      have HS4 : Hid (gx < (w5.setCell ⟨go_, k, none⟩ r5).heap.size) := Lib.hid (by have e : (w5.setCell ⟨go_, k, none⟩ r5).heap.size = w5.heap.size := by simp
                                                                                                    have := HR5.out; have := HB5.out.size; omega)
                      have HS5 : Hid (gx ∉ bl (.slice (some ⟨go_, 0, none⟩) LO.length co) (hO'.set k r5)) := Lib.hid fun hm => by
                        rcases bl_set (by rw [HR1.out.b.len, HL6.out]; exact hlt6) hm with h | h
                        · exact HR6.out h
                        · have := (o5.1.lt gx h).1
                          have := HR5.out
                          have := HV.out.size
                          omega
                      obtain ⟨A5, c5, rfl, _⟩ := o5.form
                      clear o5 b5
                      refine ⟨_, rfl, ?_⟩
                      simp only [Act.put, List.setIfInBounds_toArray, List.set_cons_zero, List.set_cons_succ]
                      go_wp2
                      refine NoPanic.normal ?_
                      go_wp2
                      go_roundw
                      case rel => exact ⟨k + 1, _, by omega, by go_num, HH5.out, HS3.out, HB6.out, HS4.out, HS5.out⟩
                      case measure => simp [intOf]; omega
                    · obtain rfl : k = LO.length := by omega
                      have hfin : (LO.take LO.length).map (redR c fx) ++ LO.drop LO.length = LO.map (redR c fx) := by rw [List.take_length, List.drop_length, List.append_nil]
                      rw [hfin] at HR1
                      clear hfin
                      have HWA : Hid (Below wr.heap.size wr (wr.alloc (.cells #[.slice (some ⟨gx, 0, none⟩) N cx] 30))) := Lib.hid ((Below.refl _ _).alloc (Nat.le_refl _) _)
                      have HROW := Lib.hid (HR1.out.b.below HWA.out)
                      have hol : hO'.length = LO.length := by rw [HR1.out.b.len, List.length_map]
                      have HOL := Lib.hid hol
                      have hol3 : hO'.length ≤ 3 := by omega
                      clear hol
                      go_wp2_with (at_builtin; refine append_hdrs rfl (.tmp 177) (.tmp 179) rfl _ hO' HROW.out.row (by rfl) ⟨wr.heap.size, 0, none⟩ 1 1 [.slice (some ⟨gx, 0, none⟩) N cx] rfl (cell_one_new _ _ _) (fun u hu => by simp at hu; subst hu; rfl) (by rfl) (by simp; omega) ?_; intro v8 w8 o8 g8 p8)
                      have hwsz : (wr.alloc (.cells #[.slice (some ⟨gx, 0, none⟩) N cx] 30)).heap.size = wr.heap.size + 1 := by simp
                      have hw4 := HR4.out.size
                      have HPU : Hid (HB w.heap.size w8 v8 (hO' ++ [.slice (some ⟨gx, 0, none⟩) N cx]) (LO.map (redR c fx) ++ [fx])) := Lib.hid (HROW.out.pushH (f := .slice (some ⟨gx, 0, none⟩) N cx) (r := fx) (by simpa using o8) g8 p8 (by rw [hwsz]; omega) (HR3.out.below HWA.out) fun b hb => by
                        simp [Value.ownBlock] at hb
                        subst hb
                        exact ⟨HGF9.out, by have := HR5.out; omega, HR6.out⟩)
                      have HLE8 : Hid (HB w.heap.size w8 (.slice A9 rowsE.length c9) hLE rowsE) := Lib.hid ((HR1.out.a.below HWA.out).grown g8 fun b hb hm => HR1.out.ap b hm (bl_own hb))
                      have HB8 : Hid (Below w.heap.size w w8) := Lib.hid ((HR4.out.trans (HWA.out.mono hw4)).grown g8 (by rw [hwsz]; omega) fun b hb => (HR1.out.b.rg b (bl_own hb)).1)
                      have HAP8 : Hid (∀ x ∈ bl (.slice A9 rowsE.length c9) hLE, x ∉ bl v8 (hO' ++ [.slice (some ⟨gx, 0, none⟩) N cx])) := Lib.hid fun x hx hm => by
                        have hxs := (HR1.out.a.rg x hx).2
                        rcases bl_push (v := .slice Ao LO.length co) hm with h | h | h
                        · rcases p8 with e | e
                          · rw [e] at h; exact HR1.out.ap x hx (bl_own h)
                          · rw [e] at h; injection h with h; rw [hwsz] at h; omega
                        · exact HR1.out.ap x hx h
                        · simp [Value.ownBlock] at h; exact HG1.out (by rw [h]; exact hx)
                      have HS9 : Hid (hermS L (c + 1) = (rowsE, LO.map (redR c fx) ++ [fx])) := HPF
                      clear o8 g8 p8 hwsz
                      go_wp2
                      go_roundw
                      all_goals first
                        | exact ⟨⟨c + 1, hLE, hO' ++ [.slice (some ⟨gx, 0, none⟩) N cx], by omega, by go_num, by rw [HS9.out]; exact ⟨HLE8.out, HPU.out, HAP8.out⟩, HB8.out⟩, by simp [intOf]; omega⟩
                        | exact ⟨c + 1, hLE, hO' ++ [.slice (some ⟨gx, 0, none⟩) N cx], by omega, by go_num, by rw [HS9.out]; exact ⟨HLE8.out, HPU.out, HAP8.out⟩, HB8.out⟩
                        | (simp [intOf]; omega)
    · obtain rfl : c = N := by omega
      have FO := Lib.hid HW.out.b.owII
      clear HW
      go_wp2
      go_ret
      exact ⟨_, rfl, by rw [F.out]; exact FO.out, HBW.out⟩
end Go.Proofs.Ytjmjhhdjlompfaa
