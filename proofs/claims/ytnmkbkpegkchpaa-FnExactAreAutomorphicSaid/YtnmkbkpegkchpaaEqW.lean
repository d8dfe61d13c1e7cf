/- EqualWords of both, the program's FormatWord. -/
import Derived.Test.YtnmkbkpegkchpaaLaw
import Derived.Test.YtnmkbkpegkchpaaFmt
namespace Go.Proofs.Ytnmkbkpegkchpaa
set_option maxRecDepth 20000
set_option linter.unusedVariables false
set_option linter.unusedSimpArgs false
open Go.RowKit

set_option maxHeartbeats 1000000 in
theorem specEqualWords_any (v u : Value) (xs ys : List Int) (w : World) (h : ArgI w v xs) (h' : ArgI w u ys) :
    Calls Try.prog 33 #[v, u] w fun e w' => e = .returned (.bool (decide (xs = ys))) ∧ ∃ n, w' = w.drewN n := by
  obtain ⟨A, cap, rfl, hcap, hm, hr, hb⟩ := h
  obtain ⟨A', cap', rfl, hcap', hm', hr', hb'⟩ := h'
  unfold maxLen at hm hm'
  by_cases hne : xs.length = ys.length
  · have hd : ((xs.length : Int) != (ys.length : Int)) = false := by simp [hne]
    have HNE := Lib.hid hne
    clear hne
    go_enter Try.func33, Try.ntmps33
    go_wp2
    go_loopw [5] (fun i wr => ∃ k : Nat, k ≤ xs.length ∧ i = .int .i64 k ∧ xs.take k = ys.take k ∧ ∃ n, wr = w.drewN n) (fun i _ => xs.length - (intOf i).toNat)
    case atStart => exact ⟨0, Nat.zero_le _, rfl, by simp, 0, rfl⟩
    case round =>
      obtain ⟨k, hk, rfl, heq, n, rfl⟩ := hrel
      have HEQ := Lib.hid heq
      clear heq
      by_cases hlt : k < xs.length
      · obtain ⟨b, off, rfl, hc⟩ := hb (by omega)
        have hlt' : k < ys.length := by have := HNE.out; omega
        obtain ⟨b', off', rfl, hc'⟩ := hb' (by omega)
        have hcell := hc k hlt
        have hcell' := hc' k hlt'
        clear hc hc' hb hb'
        by_cases hx : xs[k] = ys[k]
        · have hx1 : (xs[k] != ys[k]) = false := by simp [hx]
          have HX := Lib.hid hx
          clear hx
          go_wp2
          go_quiet (fail)
          go_wp2
          go_roundw
          case rel => exact ⟨k + 1, by omega, by go_num, take_eq_succ HEQ.out hlt hlt' HX.out, _, rfl⟩
          case measure => simp [intOf]; omega
        · have hx1 : (xs[k] != ys[k]) = true := by simp [hx]
          go_wp2
          go_quiet (fail)
          go_wp2
          go_ret
          exact ⟨ret_bool (by symm; rw [decide_eq_false_iff_not]; rintro rfl; exact hx rfl), _, World.drewN_drewN _ _ _⟩
      · obtain rfl : k = xs.length := by omega
        go_wp2
        go_ret
        refine ⟨ret_bool ?_, n, rfl⟩
        have h1 := HEQ.out
        rw [List.take_length, HNE.out, List.take_length] at h1
        simp [h1]
  · have hd : ((xs.length : Int) != (ys.length : Int)) = true := by simp; omega
    go_enter Try.func33, Try.ntmps33
    go_wp2
    go_ret
    exact ⟨ret_bool (by symm; rw [decide_eq_false_iff_not]; rintro rfl; exact hne rfl), 0, rfl⟩
set_option maxHeartbeats 1000000 in
theorem implEqualWords_any (v u : Value) (xs ys : List Int) (w : World) (h : ArgI w v xs) (h' : ArgI w u ys) :
    Calls Try.prog 34 #[v, u] w fun e w' => e = .returned (.bool (decide (xs = ys))) ∧ ∃ n, w' = w.drewN n := by
  obtain ⟨A, cap, rfl, hcap, hm, hr, hb⟩ := h
  obtain ⟨A', cap', rfl, hcap', hm', hr', hb'⟩ := h'
  unfold maxLen at hm hm'
  by_cases hne : xs.length = ys.length
  · have hd : ((xs.length : Int) != (ys.length : Int)) = false := by simp [hne]
    have HNE := Lib.hid hne
    clear hne
    go_enter Try.func34, Try.ntmps34
    go_wp2
    go_loopw [13] (fun i wr => ∃ k : Nat, k ≤ xs.length ∧ i = .int .i64 k ∧ xs.take k = ys.take k ∧ ∃ n, wr = w.drewN n) (fun i _ => xs.length - (intOf i).toNat)
    case atStart => exact ⟨0, Nat.zero_le _, rfl, by simp, 0, rfl⟩
    case round =>
      obtain ⟨k, hk, rfl, heq, n, rfl⟩ := hrel
      have HEQ := Lib.hid heq
      clear heq
      by_cases hlt : k < xs.length
      · obtain ⟨b, off, rfl, hc⟩ := hb (by omega)
        have hlt' : k < ys.length := by have := HNE.out; omega
        obtain ⟨b', off', rfl, hc'⟩ := hb' (by omega)
        have hcell := hc k hlt
        have hcell' := hc' k hlt'
        clear hc hc' hb hb'
        by_cases hx : xs[k] = ys[k]
        · have hx1 : (xs[k] != ys[k]) = false := by simp [hx]
          have HX := Lib.hid hx
          clear hx
          go_wp2
          go_quiet (fail)
          go_wp2
          go_roundw
          case rel => exact ⟨k + 1, by omega, by go_num, take_eq_succ HEQ.out hlt hlt' HX.out, _, rfl⟩
          case measure => simp [intOf]; omega
        · have hx1 : (xs[k] != ys[k]) = true := by simp [hx]
          go_wp2
          go_quiet (fail)
          go_wp2
          go_ret
          exact ⟨ret_bool (by symm; rw [decide_eq_false_iff_not]; rintro rfl; exact hx rfl), _, World.drewN_drewN _ _ _⟩
      · obtain rfl : k = xs.length := by omega
        go_wp2
        go_ret
        refine ⟨ret_bool ?_, n, rfl⟩
        have h1 := HEQ.out
        rw [List.take_length, HNE.out, List.take_length] at h1
        simp [h1]
  · have hd : ((xs.length : Int) != (ys.length : Int)) = true := by simp; omega
    go_enter Try.func34, Try.ntmps34
    go_wp2
    go_ret
    exact ⟨ret_bool (by symm; rw [decide_eq_false_iff_not]; rintro rfl; exact hne rfl), 0, rfl⟩
/-- Lists of letters as text: nothing if one is no letter. -/
def fmtL (es : List Int) : List UInt8 := if es.all (fun e => decide (lt e ≠ [])) then es.flatMap lt else []
def okL (es : List Int) : Bool := es.all (fun e => decide (lt e ≠ []))
theorem okL_bad {es : List Int} (i : Nat) (hi : i < es.length) (h : lt es[i] = []) : okL es = false := by
  unfold okL
  simp
  exact ⟨es[i], by simp, h⟩
theorem okL_ok {es : List Int} (h : ∀ j (hj : j < es.length), lt es[j] ≠ []) : okL es = true := by
  unfold okL
  simp
  intro x hx
  obtain ⟨j, hj, rfl⟩ := List.getElem_of_mem hx
  exact h j hj
theorem lt_len (e : Int) : (lt e).length ≤ 1 := by
  rcases lt_cases e with ⟨_, h⟩ | ⟨_, h⟩ | ⟨_, h⟩ | ⟨_, h⟩ | ⟨_, h⟩ | ⟨_, h⟩ | ⟨_, h⟩ <;> rw [h] <;> simp
theorem lt_one (e : Int) (h : lt e ≠ []) : ∃ c, lt e = [c] := by
  have h1 := lt_len e
  match hc : lt e with
  | [] => exact absurd hc h
  | [c] => exact ⟨c, rfl⟩
  | a :: b :: l => rw [hc] at h1; simp at h1
theorem flatL_succ (es : List Int) (k : Nat) (h : k < es.length) : (es.take (k + 1)).flatMap lt = (es.take k).flatMap lt ++ lt es[k] := by
  rw [List.take_succ_eq_append_getElem h, List.flatMap_append]
  simp
theorem flatL_len (es : List Int) : (es.flatMap lt).length ≤ es.length := by
  induction es with
  | nil => simp
  | cons e es ih => have := lt_len e; simp only [List.flatMap_cons, List.length_append, List.length_cons]; omega
/-- What FormatWord answers. -/
def fmtW (es : List Int) : List UInt8 := if okL es then (if es = [] then [49] else es.flatMap lt) else []
theorem fmtW_bad {es : List Int} (i : Nat) (hi : i < es.length) (h : lt es[i] = []) : fmtW es = [] := by unfold fmtW; rw [okL_bad i hi h]; rfl
theorem fmtW_ok {es : List Int} (h : ∀ j (hj : j < es.length), lt es[j] ≠ []) (h0 : es ≠ []) : fmtW es = es.flatMap lt := by unfold fmtW; rw [okL_ok h, if_pos rfl, if_neg h0]
theorem lt_inj {x y : Int} (hx : lt x ≠ []) (h : lt x = lt y) : x = y := by
  rcases lt_cases x with ⟨rfl, e⟩ | ⟨rfl, e⟩ | ⟨rfl, e⟩ | ⟨rfl, e⟩ | ⟨rfl, e⟩ | ⟨rfl, e⟩ | ⟨_, e⟩ <;>
  rcases lt_cases y with ⟨rfl, f⟩ | ⟨rfl, f⟩ | ⟨rfl, f⟩ | ⟨rfl, f⟩ | ⟨rfl, f⟩ | ⟨rfl, f⟩ | ⟨_, f⟩ <;>
  first | rfl | exact absurd e hx | (rw [e, f] at h; simp at h)
theorem flat_inj : ∀ {xs ys : List Int}, (∀ x ∈ xs, lt x ≠ []) → (∀ x ∈ ys, lt x ≠ []) → xs.flatMap lt = ys.flatMap lt → xs = ys
  | [], [], _, _, _ => rfl
  | [], y :: ys, _, h2, h => by
    obtain ⟨c, hc⟩ := lt_one y (h2 y (by simp))
    simp [hc] at h
  | x :: xs, [], h1, _, h => by
    obtain ⟨c, hc⟩ := lt_one x (h1 x (by simp))
    simp [hc] at h
  | x :: xs, y :: ys, h1, h2, h => by
    obtain ⟨c, hc⟩ := lt_one x (h1 x (by simp))
    obtain ⟨d, hd⟩ := lt_one y (h2 y (by simp))
    simp only [List.flatMap_cons, hc, hd, List.cons_append, List.nil_append, List.cons.injEq] at h
    have e : x = y := lt_inj (by rw [hc]; simp) (by rw [hc, hd, h.1])
    rw [e, flat_inj (fun z hz => h1 z (by simp [hz])) (fun z hz => h2 z (by simp [hz])) h.2]
set_option maxHeartbeats 1000000 in
theorem implFormatWord_any (v : Value) (es : List Int) (w : World) (h : ArgI w v es) (hl : es.length ≤ 1073741824) :
    Calls Try.prog 46 #[v] w fun e w' => e = .returned (str (fmtW es)) ∧ w = w' := by
  obtain ⟨A, cap, rfl, hcap, hm, hr, hb⟩ := h
  have HR := Lib.hid hr
  have HB := Lib.hid hb
  clear hr hb
  by_cases h0 : es = []
  · subst h0
    go_enter Try.func46, Try.ntmps46
    go_wp2
    go_ret
    exact ⟨by rfl, rfl⟩
  · have hpos : 0 < es.length := List.length_pos_iff.2 h0
    have H0 := Lib.hid h0
    have hd : ((es.length : Int) == 0) = false := by simp; omega
    clear h0
    go_enter Try.func46, Try.ntmps46
    go_wp2
    go_loop [3, 12] (fun s i => ∃ (k : Nat) (t : List UInt8), k ≤ es.length ∧ i = .int .i64 k ∧ s = .string ⟨t.toArray⟩ ∧ t = (es.take k).flatMap lt ∧ ∀ j (hj : j < es.length), j < k → lt es[j] ≠ []) (fun _ i => es.length - (intOf i).toNat)
    case atStart => exact ⟨0, [], Nat.zero_le _, rfl, rfl, by simp, fun j hj h => absurd h (by omega)⟩
    case round =>
      obtain ⟨k, t, hk, rfl, rfl, ht, hok⟩ := hrel
      have hsl : t.length ≤ k := by
        have h1 := flatL_len (es.take k)
        have h2 := List.length_take_le k es
        rw [← ht] at h1
        omega
      have HT := Lib.hid ht
      have HOK := Lib.hid hok
      clear ht hok
      by_cases hlt : k < es.length
      · obtain ⟨b, off, rfl, hc⟩ := HB.out (by omega)
        have hcell := hc k hlt
        have HS := Lib.hid (flatL_succ es k hlt)
        have HI := Lib.hid (HR.out es[k] (by simp))
        have HBAD := Lib.hid (fmtW_bad k hlt)
        have HST : Hid (lt es[k] ≠ [] → ∀ j (hj : j < es.length), j < k + 1 → lt es[j] ≠ []) := fun F j hj hjk => by
          rcases Nat.lt_or_eq_of_le (Nat.le_of_lt_succ hjk) with h | rfl
          · exact HOK.out j hj h
          · exact F
        clear hc
        generalize es[k] = e at hcell HS HI HBAD HST
        have LT := Lib.hid (fun w => letterText_any e w HI.out)
        by_cases hle : lt e = []
        · have hlt' := LT.out
          rw [hle] at hlt'
          have LT' := Lib.hid hlt'
          have F := Lib.hid (HBAD.out hle)
          clear hlt' LT hle
          unfold str at LT'
          go_wp2_with (go_at_call 65; refine (LT'.out _).mono ?_; rintro e w' ⟨rfl, rfl⟩)
          go_ret
          exact ⟨by rw [F.out]; rfl, rfl⟩
        · obtain ⟨c, hcc⟩ := lt_one e hle
          have hlt' := LT.out
          rw [hcc] at hlt'
          have LT' := Lib.hid hlt'
          have CC := Lib.hid hcc
          have F := Lib.hid (HST.out hle)
          clear hlt' LT hle hcc
          unfold str at LT'
          go_wp2_with (go_at_call 65; refine (LT'.out _).mono ?_; rintro e w' ⟨rfl, rfl⟩)
          go_round
          case rel => exact ⟨k + 1, t ++ [c], by omega, by go_num, str_snoc _ _, by rw [HS.out, HT.out, CC.out], F.out⟩
          case measure => simp [intOf]; omega
      · obtain rfl : k = es.length := by omega
        have F := Lib.hid (fmtW_ok (fun j hj => HOK.out j hj hj) H0.out)
        go_wp2
        go_ret
        exact ⟨by rw [F.out, HT.out, List.take_length]; rfl, rfl⟩
end Go.Proofs.Ytnmkbkpegkchpaa
