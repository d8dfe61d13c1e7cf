/- The reference's small functions of the Hermite form. -/
import Derived.Test.YtnnckojpmnpgbaaHerD
import Derived.Test.YtnnckojpmnpgbaaExp
import Derived.Deep.RegionHeld3
namespace Go.Proofs.Ytnnckojpmnpgbaa
set_option maxRecDepth 20000
set_option linter.unusedVariables false
set_option linter.unusedSimpArgs false
open Go.RowKit

def leadF (xs : List Int) : Int := if pivF xs < xs.length then (pivF xs : Int) else -1
theorem zeroL_piv (xs : List Int) : zeroL xs = decide (pivF xs = xs.length) := by
  by_cases h : pivF xs = xs.length
  · rw [decide_eq_true h]
    refine zeroL_true fun j hj => ?_
    have := piv_zero xs j (by omega)
    rw [cl_get hj] at this
    exact this
  · rw [decide_eq_false h]
    have hp : pivF xs < xs.length := by have := piv_le xs; omega
    have := piv_at xs hp
    rw [cl_get hp] at this
    exact zeroL_false _ hp this
theorem subR_take (xs : List Int) (q : Int) (ys : List Int) (k : Nat) (h : k < xs.length) (h' : k < ys.length) : (subR xs q ys).take (k + 1) = (subR xs q ys).take k ++ [wS xs[k] q ys[k]] := by
  have hl : k < (subR xs q ys).length := by rw [subR_len]; exact h
  have e : (subR xs q ys)[k] = wS xs[k] q ys[k] := by
    rw [← cl_get hl, subR_cl xs q ys k h, cl_get h, cl_get h']
  rw [List.take_succ_eq_append_getElem hl, e]
set_option maxHeartbeats 1000000 in
theorem l27Less_any (v u : Value) (xs ys : List Int) (q : Int) (w : World) (h : RdI w v xs) (h' : RdI w u ys) (hle : xs.length ≤ ys.length) (hl : xs.length ≤ 1073741824) :
    Calls Try.prog 24 #[v, u, .int .i64 q] w fun e w' => ∃ r, e = .returned r ∧ OwI w' w.heap.size r (subR xs q ys) ∧ Below w.heap.size w w' := by
  have H := Lib.hid h
  have H' := Lib.hid h'
  obtain ⟨A, cap, rfl, hc, hm, _⟩ := h.arg
  obtain ⟨Au, capu, rfl, hcu, hmu, _⟩ := h'.arg
  unfold maxLen at hm hmu
  clear h h'
  go_enter Try.func24, Try.ntmps24
  go_wp2
  go_loopw [7, 8] (fun out i wr => ∃ k : Nat, k ≤ xs.length ∧ i = .int .i64 k ∧ OwI wr w.heap.size out ((subR xs q ys).take k) ∧ Below w.heap.size w wr) (fun _ i _ => xs.length - (intOf i).toNat)
  case atStart => exact ⟨0, Nat.zero_le _, rfl, OwI_lit _ [] I64s_nil (by simp) (Nat.le_refl _), (Below.refl _ _).alloc (Nat.le_refl _) _⟩
  case round =>
    obtain ⟨k, hk, rfl, hown, hbel⟩ := hrel
    have HO := Lib.hid hown
    have HB := Lib.hid hbel
    have hsz := hbel.size
    obtain ⟨Ao, co, rfl, _⟩ := OwI.form hown
    by_cases hlt : k < xs.length
    · obtain ⟨b1, off1, rfl, hb1, hcc1⟩ := (H.out.below hbel).at (by omega)
      obtain ⟨b2, off2, rfl, hb2, hcc2⟩ := (H'.out.below hbel).at (by omega)
      have c1 := hcc1 k hlt
      have c2 := hcc2 k (by omega)
      have hb1' : b1 < w.heap.size := by
        obtain ⟨b, o, e, h, _⟩ := H.out.at (by omega)
        obtain ⟨rfl, _⟩ : b1 = b ∧ off1 = o := by simpa using e
        exact h
      have hb2' : b2 < w.heap.size := by
        obtain ⟨b, o, e, h, _⟩ := H'.out.at (by omega)
        obtain ⟨rfl, _⟩ : b2 = b ∧ off2 = o := by simpa using e
        exact h
      have HS := Lib.hid (subR_take xs q ys k hlt (by omega))
      have hky : (k : Int) < (ys.length : Int) := by omega
      have htl : ((subR xs q ys).take k).length ≤ 1073741824 := by rw [List.length_take]; omega
      clear hown hbel hcc1 hcc2
      generalize xs[k] = x at *
      generalize ys[k] = y at *
      generalize (subR xs q ys).take k = acc at *
      have HX : Hid (wS x q y = IntKind.i64.wrap (x - IntKind.i64.wrap (q * y))) := Lib.hid (by rw [wrap_i64_eq, wrap_i64_eq]; rfl)
      have HZ : Hid (I64 (IntKind.i64.wrap (x - IntKind.i64.wrap (q * y)))) := Lib.hid (by rw [wrap_i64_eq]; exact I64_wrap0 _)
      have HOF : Hid (∀ b, (Value.slice Ao acc.length co).ownBlock = some b → w.heap.size ≤ b) := Lib.hid fun b hb => (HO.out.1.lt b hb).1
      go_wp2_with fail
      go_region_held3 (fun w' => w'.cell? ⟨b1, off1 + k, none⟩ = some (.int .i64 x) ∧ w'.cell? ⟨b2, off2 + k, none⟩ = some (.int .i64 y))
        (first | go_keep | (refine ⟨?_, ?_⟩ <;> (rw [hcg _ _ (by omega)]; simp [go_sem, *])))
        (first | (refine step_append_ints rfl (.tmp 16) (.tmp 28) rfl w.heap.size _ acc (HO.out.drew.alloc _) (by rfl) _ [IntKind.i64.wrap (x - IntKind.i64.wrap (q * y))] (RdI_new1 _ _ HZ.out) (by rfl) (by simp; omega) (by simp; omega) ?_; intro v1 w1 o1 g1 p1; have O1 := Lib.hid o1; have G1 := Lib.hid g1; have hz1 := g1.size; simp at hz1; obtain ⟨A1, cap1, rfl, _⟩ := OwI.form o1; have hcg : ∀ b o, b < w.heap.size → w1.cell? ⟨b, o, none⟩ = wr.cell? ⟨b, o, none⟩ := (fun b o hb => (World.cell?_of_block (g1.block b (by simp; omega) (fun e => by have := HOF.out b e.symm; omega))).trans (by simp [go_sem, show b < wr.heap.size by omega])); clear o1 g1 p1))
      go_wp2
      go_roundw
      case rel => exact ⟨k + 1, by omega, by go_num, by rw [HS.out, HX.out]; simpa using O1.out, (HB.out.drew.alloc (show w.heap.size ≤ wr.heap.size by omega) _).grown G1.out (by have hq : wr.drew.heap.size = wr.heap.size := rfl; simp; omega) HOF.out⟩
      case measure => simp [intOf]; omega
    · obtain rfl : k = xs.length := by omega
      have hT : (subR xs q ys).take xs.length = subR xs q ys := by rw [← subR_len xs q ys, List.take_length]
      clear hown
      rw [hT] at HO
      simp only [hT]
      clear hT
      go_wp2
      go_ret
      exact ⟨_, rfl, HO.out, hbel⟩
set_option maxHeartbeats 400000 in
theorem l27Lead_any (v : Value) (xs : List Int) (w : World) (h : RdI w v xs) (hl : xs.length ≤ 1073741824) :
    Calls Try.prog 23 #[v] w fun e w' => e = .returned (.int .i64 (leadF xs)) ∧ w = w' := by
  have H := Lib.hid h
  obtain ⟨A, cap, rfl, hcap, hm, _⟩ := h.arg
  clear h
  have HP : Hid (pivF xs = pivF (xs.drop 0) + 0) := Lib.hid rfl
  have HL : Hid (leadF xs = if pivF xs < xs.length then (pivF xs : Int) else -1) := Lib.hid rfl
  generalize leadF xs = R at *
  generalize pivF xs = P at *
  go_enter Try.func23, Try.ntmps23
  go_wp2
  go_loop [3] (fun i => ∃ k : Nat, k ≤ xs.length ∧ i = .int .i64 k ∧ P = pivF (xs.drop k) + k) (fun i => xs.length - (intOf i).toNat)
  case atStart => exact ⟨0, Nat.zero_le _, rfl, HP.out⟩
  case round =>
    obtain ⟨k, hk, rfl, hP⟩ := hrel
    have HPK := Lib.hid hP
    clear hP
    by_cases hlt : k < xs.length
    · obtain ⟨b, off, rfl, hbl, hc⟩ := H.out.at (by omega)
      have hcell := hc k hlt
      have HD := Lib.hid (piv_drop hlt)
      clear hc
      generalize xs[k] = x at *
      rcases e1 : (x != 0) with _ | _
      · have F : Hid (P = pivF (xs.drop (k + 1)) + (k + 1)) := Lib.hid (by rw [HPK.out, HD.out, if_neg (by simpa using e1)]; omega)
        go_wp2
        go_round
        case rel => exact ⟨k + 1, by omega, by go_num, F.out⟩
        case measure => simp [intOf]; omega
      · have F : Hid (R = k) := Lib.hid (by
          have hPk : P = k := by rw [HPK.out, HD.out, if_pos (by simpa using e1)]; omega
          rw [HL.out, hPk, if_pos hlt])
        go_wp2
        go_ret
        exact ⟨ret_int (by rw [F.out]), rfl⟩
    · obtain rfl : k = xs.length := by omega
      have F : Hid (R = -1) := Lib.hid (by
        have hPk : P = xs.length := by rw [HPK.out, List.drop_length]; simp [pivF]
        rw [HL.out, hPk, if_neg (Nat.lt_irrefl _)])
      go_wp2
      go_ret
      exact ⟨ret_int (by rw [F.out]), rfl⟩
set_option maxHeartbeats 400000 in
theorem l27Floor_any (a b : Int) (w : World) (hb : 0 < b) :
    Calls Try.prog 33 #[.int .i64 a, .int .i64 b] w fun e w' => e = .returned (.int .i64 (floorW a b)) ∧ w = w' := by
  have hb0 : ¬ b = 0 := by omega
  have hb1 : ¬ b = -1 := by omega
  have hbn : decide (b < 0) = false := decide_eq_false (by omega)
  have hbn' : ¬ b < 0 := by omega
  have HF : Hid (floorW a b = if Int.tmod a b < 0 then wrap64 (quoW a b - 1) else quoW a b) := Lib.hid rfl
  have HQ : Hid (quoW a b = wrap64 (Int.tdiv a b)) := Lib.hid rfl
  have HS1 : Hid (0 ≤ a → 0 ≤ Int.tmod a b) := Lib.hid fun h => Int.tmod_nonneg b h
  have HS2 : Hid (a < 0 → Int.tmod a b ≤ 0) := Lib.hid fun h => by
    have h1 := Int.neg_tmod a b
    have h2 := Int.tmod_nonneg b (show 0 ≤ -a by omega)
    omega
  generalize floorW a b = F at *
  go_enter Try.func33, Try.ntmps33
  rcases e1 : (Int.tmod a b != 0) with _ | _
  · have HF' : Hid (F = quoW a b) := Lib.hid (by rw [HF.out, if_neg (by simp at e1; omega)])
    go_wp2
    go_ret
    exact ⟨ret_int (by rw [HF'.out, HQ.out]), rfl⟩
  · rcases e2 : decide (a < 0) with _ | _
    · have HF' : Hid (F = quoW a b) := Lib.hid (by rw [HF.out, if_neg (by have := HS1.out (by simp at e2; omega); omega)])
      go_wp2
      go_ret
      exact ⟨ret_int (by rw [HF'.out, HQ.out]), rfl⟩
    · have HF' : Hid (F = wrap64 (quoW a b - 1)) := Lib.hid (by rw [HF.out, if_pos (by have := HS2.out (by simpa using e2); have : Int.tmod a b ≠ 0 := (by simpa using e1); omega)])
      go_wp2
      go_ret
      exact ⟨ret_int (by rw [HF'.out, HQ.out]), rfl⟩
theorem numOk_no {m : Int} {L : List (List Int)} {k q : Nat} (hk : k < L.length) (hq : q < L[k].length) (h : inB L[k][q] (-m) m = false) : numOk m L = false := by
  unfold numOk
  rw [List.all_eq_false]
  refine ⟨L[k], by simp, ?_⟩
  rw [Bool.not_eq_true, List.all_eq_false]
  exact ⟨L[k][q], by simp, by rw [h]; decide⟩
theorem numOk_yes {m : Int} {L : List (List Int)} (h : ∀ k (hk : k < L.length) q (hq : q < L[k].length), inB L[k][q] (-m) m = true) : numOk m L = true := by
  unfold numOk
  rw [List.all_eq_true]
  intro r hr
  obtain ⟨k, hk, rfl⟩ := List.mem_iff_getElem.1 hr
  rw [List.all_eq_true]
  intro x hx
  obtain ⟨q, hq, rfl⟩ := List.mem_iff_getElem.1 hx
  exact h k hk q hq
set_option maxHeartbeats 800000 in
theorem l27Within_any (v : Value) (L : List (List Int)) (m : Int) (w : World) (h : RdII w v L) (hl : L.length ≤ 1073741824) (hm0 : 0 ≤ m) (hm1 : m ≤ 1000000000) :
    Calls Try.prog 22 #[v, .int .i64 m] w fun e w' => e = .returned (.bool (numOk m L)) ∧ w = w' := by
  have H := Lib.hid h
  obtain ⟨A, cap, rfl, hcap, hm, _⟩ := h.form
  unfold maxLen at hm
  have hneg : wrap64 (-m) = -m := IntWalk.wrap64_in _ ⟨by omega, by omega⟩
  have hneg' : IntKind.i64.wrap (-m) = -m := by rw [wrap_i64_eq]; exact hneg
  clear h
  go_enter Try.func22, Try.ntmps22
  go_wp2
  go_loop [5] (fun i => ∃ k : Nat, k ≤ L.length ∧ i = .int .i64 k ∧ ∀ j (hj : j < L.length), j < k → ∀ q (hq : q < L[j].length), inB L[j][q] (-m) m = true) (fun i => L.length - (intOf i).toNat)
  case atStart => exact ⟨0, Nat.zero_le _, rfl, fun j hj h => absurd h (by omega)⟩
  case round =>
    obtain ⟨k, hk, rfl, hok⟩ := hrel
    have HOK := Lib.hid hok
    clear hok
    by_cases hlt : k < L.length
    · obtain ⟨b, off, A1, cap1, rfl, hb, hcell, hc1, hm1', hrd⟩ := H.out.at hlt
      have HRD := Lib.hid hrd
      have NO : Hid (∀ q (hq : q < L[k].length), inB L[k][q] (-m) m = false → numOk m L = false) := Lib.hid fun q hq => numOk_no hlt hq
      have YES : Hid ((∀ q (hq : q < L[k].length), inB L[k][q] (-m) m = true) → ∀ j (hj : j < L.length), j < k + 1 → ∀ q (hq : q < L[j].length), inB L[j][q] (-m) m = true) := Lib.hid fun F j hj hjk => by
        rcases Nat.lt_or_eq_of_le (Nat.le_of_lt_succ hjk) with h | rfl
        · exact HOK.out j hj h
        · exact F
      unfold maxLen at hm1'
      clear hrd
      generalize L[k] = r at *
      go_wp2
      go_loop [6] (fun i => ∃ q : Nat, q ≤ r.length ∧ i = .int .i64 q ∧ ∀ j (hj : j < r.length), j < q → inB r[j] (-m) m = true) (fun i => r.length - (intOf i).toNat)
      case atStart => exact ⟨0, Nat.zero_le _, rfl, fun j hj h => absurd h (by omega)⟩
      case round =>
        obtain ⟨q, hq, rfl, hok⟩ := hrel
        have HOK2 := Lib.hid hok
        clear hok
        by_cases hlt2 : q < r.length
        · obtain ⟨b2, off2, rfl, hb2, hcc⟩ := HRD.out.at (by omega)
          have hc2 := hcc q hlt2
          have NO2 := Lib.hid (NO.out q hlt2)
          have YES2 : Hid (inB r[q] (-m) m = true → ∀ j (hj : j < r.length), j < q + 1 → inB r[j] (-m) m = true) := Lib.hid fun F j hj hjk => by
            rcases Nat.lt_or_eq_of_le (Nat.le_of_lt_succ hjk) with h | rfl
            · exact HOK2.out j hj h
            · exact F
          clear hcc
          generalize r[q] = x at *
          go_wp2_with fail
          refine (l1In_any _ _ _ _).mono ?_
          rintro e w' ⟨rfl, rfl⟩
          rcases e2 : inB x (-m) m with _ | _
          · have F := Lib.hid (NO2.out e2)
            go_wp2
            go_ret
            exact ⟨ret_bool F.out.symm, rfl⟩
          · have F := Lib.hid (YES2.out e2)
            go_wp2
            go_round
            case rel => exact ⟨q + 1, by omega, by go_num, F.out⟩
            case measure => simp [intOf]; omega
        · obtain rfl : q = r.length := by omega
          have F := Lib.hid (YES.out fun k hk => HOK2.out k hk hk)
          go_wp2
          go_round
          case rel => exact ⟨k + 1, by omega, by go_num, F.out⟩
          case measure => simp [intOf]; omega
    · obtain rfl : k = L.length := by omega
      have F := Lib.hid (numOk_yes (m := m) fun k hk => HOK.out k hk hk)
      go_wp2
      go_ret
      exact ⟨ret_bool F.out.symm, rfl⟩
end Go.Proofs.Ytnnckojpmnpgbaa
