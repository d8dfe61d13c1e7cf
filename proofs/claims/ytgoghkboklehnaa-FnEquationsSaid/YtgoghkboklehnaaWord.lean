/- Words: inverses and reduced products, of the reference and of the program. -/
import Derived.Test.YtgoghkboklehnaaNum
namespace Go.Proofs.Ytgoghkboklehnaa
set_option maxRecDepth 20000
set_option linter.unusedVariables false
set_option linter.unusedSimpArgs false
open Go.RowKit

def negL (xs : List Int) : List Int := xs.map fun x => wrap64 (-x)
def invL (xs : List Int) : List Int := (negL xs).reverse
theorem I64_wrap (x : Int) : I64 (wrap64 x) := by
  unfold I64 wrap64; omega
theorem invL_step (xs : List Int) (k : Nat) (hk : k < xs.length) : (invL xs).take (k + 1) = (invL xs).take k ++ [wrap64 (-xs[xs.length - 1 - k])] := by
  have h : k < (invL xs).length := by simpa [invL, negL] using hk
  rw [List.take_succ_eq_append_getElem h]
  congr 2
  simp [invL, negL]

set_option maxHeartbeats 400000 in
theorem specInvertWord_any (v : Value) (xs : List Int) (w : World) (h : RdI w v xs) (hl : xs.length ≤ 1073741824) :
    Calls Try.prog 41 #[v] w fun e w' => ∃ r, e = .returned r ∧ OwI w' w.heap.size r (invL xs) ∧ Below w.heap.size w w' := by
  have H := Lib.hid h
  obtain ⟨A, cap, rfl, hcap, hm, hr, hb⟩ := h.arg
  clear h hb
  go_enter Try.func41, Try.ntmps41
  go_wp2
  go_loopw [3, 4] (fun out i wr => ∃ k : Nat, k ≤ xs.length ∧ i = .int .i64 ((xs.length : Int) - 1 - (k : Int)) ∧ OwI wr w.heap.size out ((invL xs).take k) ∧ Below w.heap.size w wr)
    (fun _ i _ => (intOf i + 1).toNat)
  case atStart => exact ⟨0, Nat.zero_le _, by simp, OwI_lit _ [] I64s_nil (by simp) (Nat.le_refl _), (Below.refl _ _).alloc (Nat.le_refl _) _⟩
  case round =>
    obtain ⟨k, hk, rfl, hown, hbel⟩ := hrel
    have hsz := hbel.size
    have hkl : ((invL xs).take k).length ≤ k := List.length_take_le _ _
    by_cases hlt : k < xs.length
    · obtain ⟨b, off, rfl, hbl, hc⟩ := (H.out.below hbel).at (by omega)
      have hcell := hc (xs.length - 1 - k) (by omega)
      have HS := Lib.hid (invL_step xs k hlt)
      have HO := Lib.hid hown
      clear hc hown
      go_wp2_with (at_builtin; refine push_int rfl (.tmp 13) (.tmp 19) rfl _ _ _ (OwI.alloc HO.out _) rfl _ _ rfl (cell_new1 _ _ _) (I64_wrap _) (by first | omega | (simp <;> omega)) (by first | omega | (simp <;> omega)) ?_; intro v1 wv1 o1 g1 p1)
      go_roundw
      case rel => exact ⟨k + 1, by omega, by go_num, by rw [HS.out]; exact o1, bel_push hbel hsz HO.out.1 (Nat.le_refl _) g1⟩
      case measure => simp [intOf]; omega
    · obtain rfl : k = xs.length := by omega
      go_wp2
      go_ret
      exact ⟨_, rfl, by rw [List.take_of_length_le (by simp [invL, negL])] at hown; exact hown, hbel⟩

set_option maxHeartbeats 400000 in
theorem implInvertWord_any (v : Value) (xs : List Int) (w : World) (h : RdI w v xs) (hl : xs.length ≤ 1073741824) :
    Calls Try.prog 38 #[v] w fun e w' => ∃ r, e = .returned r ∧ OwI w' w.heap.size r (invL xs) ∧ Below w.heap.size w w' := by
  have H := Lib.hid h
  obtain ⟨A, cap, rfl, hcap, hm, hr, hb⟩ := h.arg
  clear h hb
  go_enter Try.func38, Try.ntmps38
  obtain ⟨i0, hi0, hz0, hz1, hz2⟩ := info_parts int_info
  go_wp2_with (at_make; refine wpList_make_own _ rfl _ _ 24 rfl w.heap.size 3 i0 (.int .i64 0) 1 Try.underlying24 hi0 hz0 hz1 _ _ _ xs.length rfl rfl rfl (by rw [hz2]; omega) (by unfold maxLen; omega) (Nat.le_refl _) ?_)
  intro w0 hown0 hgrow0
  go_wp2
  go_loopw [3, 4] (fun out i wr => ∃ k : Nat, k ≤ xs.length ∧ i = .int .i64 ((xs.length : Int) - 1 - (k : Int)) ∧ OwI wr w.heap.size out ((invL xs).take k) ∧ Below w.heap.size w wr)
    (fun _ i _ => (intOf i + 1).toNat)
  case atStart => exact ⟨0, Nat.zero_le _, by simp, ⟨hown0, I64s_nil⟩, (Below.refl _ _).grown hgrow0 (Nat.le_refl _) (fun k h => by cases h)⟩
  case round =>
    obtain ⟨k, hk, rfl, hown, hbel⟩ := hrel
    have hsz := hbel.size
    have hkl : ((invL xs).take k).length ≤ k := List.length_take_le _ _
    by_cases hlt : k < xs.length
    · obtain ⟨b, off, rfl, hbl, hc⟩ := (H.out.below hbel).at (by omega)
      have hcell := hc (xs.length - 1 - k) (by omega)
      have HS := Lib.hid (invL_step xs k hlt)
      have HO := Lib.hid hown
      clear hc hown
      go_wp2_with (at_builtin; refine push_int rfl (.tmp 15) (.tmp 21) rfl _ _ _ (OwI.alloc HO.out _) rfl _ _ rfl (cell_new1 _ _ _) (I64_wrap _) (by first | omega | (simp <;> omega)) (by first | omega | (simp <;> omega)) ?_; intro v1 wv1 o1 g1 p1)
      go_roundw
      case rel => exact ⟨k + 1, by omega, by go_num, by rw [HS.out]; exact o1, bel_push hbel hsz HO.out.1 (Nat.le_refl _) g1⟩
      case measure => simp [intOf]; omega
    · obtain rfl : k = xs.length := by omega
      go_wp2
      go_ret
      exact ⟨_, rfl, by rw [List.take_of_length_le (by simp [invL, negL])] at hown; exact hown, hbel⟩

/-! ## Reduced products -/
def red1 (acc : List Int) (x : Int) : List Int := if 0 < acc.length ∧ invB (acc.getLastD 0) x = true then acc.dropLast else acc ++ [x]
def redL (acc xs : List Int) : List Int := xs.foldl red1 acc
theorem red1_len (acc : List Int) (x : Int) : (red1 acc x).length ≤ acc.length + 1 := by
  unfold red1; split <;> simp; omega
theorem redL_len (acc xs : List Int) : (redL acc xs).length ≤ acc.length + xs.length := by
  unfold redL
  induction xs generalizing acc with
  | nil => simp
  | cons x xs ih => have := ih (red1 acc x); have := red1_len acc x; simp only [List.foldl_cons, List.length_cons]; omega
theorem redL_succ (acc xs : List Int) (k : Nat) (h : k < xs.length) : redL acc (xs.take (k + 1)) = red1 (redL acc (xs.take k)) xs[k] := by
  unfold redL
  rw [List.take_succ_eq_append_getElem h, List.foldl_append]
  rfl
theorem red1_I64 {acc : List Int} {x : Int} (h : I64s acc) (hx : I64 x) : I64s (red1 acc x) := by
  unfold red1
  split
  · exact fun y hy => h y (List.dropLast_subset _ hy)
  · intro y hy
    rcases List.mem_append.1 hy with hy | hy
    · exact h y hy
    · simp at hy; subst hy; exact hx
theorem redL_I64 {acc xs : List Int} (h : I64s acc) (hx : I64s xs) : I64s (redL acc xs) := by
  unfold redL
  induction xs generalizing acc with
  | nil => exact h
  | cons x xs ih => exact ih (red1_I64 h (hx x (by simp))) fun y hy => hx y (by simp [hy])
theorem red1_nil (x : Int) : red1 [] x = [x] := by simp [red1]
theorem last_get {acc : List Int} (h : 0 < acc.length) : acc.getLastD 0 = acc[acc.length - 1] := by
  cases acc with
  | nil => simp at h
  | cons a l => simp [List.getLastD, List.getLast_eq_getElem]
theorem red1_cut {acc : List Int} {x : Int} (h : 0 < acc.length) (hi : invB acc[acc.length - 1] x = true) : red1 acc x = acc.take (acc.length - 1) := by
  rw [← last_get h] at hi
  rw [red1, if_pos ⟨h, hi⟩, List.dropLast_eq_take]
theorem red1_push {acc : List Int} {x : Int} (h : 0 < acc.length) (hi : invB acc[acc.length - 1] x = false) : red1 acc x = acc ++ [x] := by
  rw [← last_get h] at hi
  rw [red1, if_neg]
  intro hh
  rw [hi] at hh
  exact absurd hh.2 (by simp)
/-- The test of the reference. -/
theorem invB_spec {l x : Int} (hl : I64 l) (hx : I64 x) : invB l x = (x != 0 && l == wrap64 (-x) && l != x) := by
  have hl1 := hl.1
  have hl2 := hl.2
  unfold invB
  by_cases h : x = -9223372036854775808
  · subst h
    have : wrap64 (- -9223372036854775808) = -9223372036854775808 := by decide +kernel
    rw [this, Bool.eq_iff_iff]
    simp
    omega
  · rw [I64.neg hx h, Bool.eq_iff_iff]
    have hx1 := hx.1
    simp
    constructor
    · rintro ⟨⟨h1, h2⟩, h3⟩
      exact ⟨⟨fun hh => h1 (by omega), by rw [h3, Int.neg_neg]⟩, fun hh => h1 (by omega)⟩
    · rintro ⟨⟨h1, h2⟩, h3⟩
      exact ⟨⟨fun hh => h1 (by omega), fun hh => by have := hx.2; omega⟩, by rw [h2, Int.neg_neg]⟩
set_option maxHeartbeats 1000000 in
theorem specReduceLetters_any (v : Value) (xs : List Int) (w : World) (h : RdI w v xs) (hl : xs.length ≤ 1073741824) :
    Calls Try.prog 42 #[v] w fun e w' => ∃ r, e = .returned r ∧ OwI w' w.heap.size r (redL [] xs) ∧ Below w.heap.size w w' := by
  have H := Lib.hid h
  obtain ⟨A, cap, rfl, hcap, hm, hr, hb⟩ := h.arg
  have HR := Lib.hid hr
  clear h hb hr
  go_enter Try.func42, Try.ntmps42
  go_wp2
  go_loopw [3, 4] (fun out i wr => ∃ k : Nat, k ≤ xs.length ∧ i = .int .i64 k ∧ OwI wr w.heap.size out (redL [] (xs.take k)) ∧ Below w.heap.size w wr)
    (fun _ i _ => xs.length - (intOf i).toNat)
  case atStart => exact ⟨0, Nat.zero_le _, rfl, OwI_lit _ [] I64s_nil (by simp) (Nat.le_refl _), (Below.refl _ _).alloc (Nat.le_refl _) _⟩
  case round =>
    obtain ⟨k, hk, rfl, hown, hbel⟩ := hrel
    have hsz := hbel.size
    have hkl : (redL [] (xs.take k)).length ≤ k := by have := redL_len [] (xs.take k); have := List.length_take_le k xs; simp at *; omega
    by_cases hlt : k < xs.length
    · obtain ⟨b, off, rfl, hbl, hc⟩ := (H.out.below hbel).at (by omega)
      have hcell := hc k hlt
      have HS := Lib.hid (redL_succ [] xs k hlt)
      have HX := Lib.hid (HR.out xs[k] (by simp))
      generalize hg : redL [] (xs.take k) = acc at hown hkl HS
      clear hg hc
      generalize hxk : xs[k] = x at hcell HS HX
      clear hxk
      have HO := Lib.hid hown
      obtain ⟨A1, cap1, rfl, hcap1, hm1, _, hform⟩ := hown.form
      by_cases h0 : 0 < acc.length
      · obtain ⟨g, rfl, hg1, hg2⟩ := hform h0
        obtain ⟨b1, off1, hA1, _, hc1⟩ := hown.rd.at h0
        obtain ⟨rfl, rfl⟩ : g = b1 ∧ 0 = off1 := by simpa using hA1
        have hlast := hc1 (acc.length - 1) (by omega)
        rw [Nat.zero_add] at hlast
        have HLI := Lib.hid (hown.2 acc[acc.length - 1] (by simp))
        have HC := Lib.hid (red1_cut (x := x) h0)
        have HP := Lib.hid (red1_push (x := x) h0)
        generalize acc[acc.length - 1] = last at hlast HLI HC HP
        have HT := Lib.hid (invB_spec HLI.out HX.out)
        have hd0 : decide ((0 : Int) < (acc.length : Int)) = true := by simp; omega
        clear hc1 hform hown hA1
        have push : ∀ (hf : invB last x = false), red1 acc x = acc ++ [x] := fun hf => HP.out hf
        have PU := Lib.hid push
        clear push
        by_cases e1 : x = 0
        · subst e1
          have PF := Lib.hid (PU.out (by rw [HT.out]; simp))
          go_wp2
          go_quiet (fail)
          go_wp2_with (at_builtin; refine push_int rfl (.tmp 53) (.tmp 58) rfl _ _ _ (OwI.alloc (OwI.drewN HO.out _) _) rfl _ _ rfl (cell_new1 _ _ _) HX.out (by first | omega | (simp <;> omega)) (by first | omega | (simp <;> omega)) ?_; intro v1 wv1 o1 g1 p1)
          go_roundw
          case rel => exact ⟨k + 1, by omega, by go_num, by rw [HS.out, PF.out]; exact o1, bel_push (bel_drewN hbel _) hsz (OwI.drewN HO.out _).1 (Nat.le_refl _) g1⟩
          case measure => simp [intOf]; omega
        · have e1' : (x != 0) = true := by simp [e1]
          by_cases e2 : last = wrap64 (-x)
          · have e2' : (last == wrap64 (-x)) = true := by simp [e2]
            have E2 := Lib.hid e2
            clear e2
            by_cases e3 : last = x
            · have e3' : (last != x) = false := by simp [e3]
              have PF := Lib.hid (PU.out (by rw [HT.out, e3']; simp))
              have E3 := Lib.hid e3
              clear e3 e1
              go_wp2
              go_quiet (fail)
              go_wp2_with (at_builtin; refine push_int rfl (.tmp 53) (.tmp 58) rfl _ _ _ (OwI.alloc (OwI.drewN HO.out _) _) rfl _ _ rfl (cell_new1 _ _ _) HX.out (by first | omega | (simp <;> omega)) (by first | omega | (simp <;> omega)) ?_; intro v1 wv1 o1 g1 p1)
              go_roundw
              case rel => exact ⟨k + 1, by omega, by go_num, by rw [HS.out, PF.out]; exact o1, bel_push (bel_drewN hbel _) hsz (OwI.drewN HO.out _).1 (Nat.le_refl _) g1⟩
              case measure => simp [intOf]; omega
            · have e3' : (last != x) = true := by simp [e3]
              have PF := Lib.hid (HC.out (by rw [HT.out, e1', e2', e3']; rfl))
              clear e3 e1
              go_wp2
              go_quiet (fail)
              go_wp2
              go_roundw
              case rel => exact ⟨k + 1, by omega, by go_num, by rw [HS.out, PF.out]; exact owI_cut (OwI.drewN HO.out _) (by omega), bel_drewN hbel _⟩
              case measure => simp [intOf]; omega
          · have e2' : (last == wrap64 (-x)) = false := by simp [e2]
            have PF := Lib.hid (PU.out (by rw [HT.out, e2']; simp))
            clear e2 e1
            go_wp2
            go_quiet (fail)
            go_wp2_with (at_builtin; refine push_int rfl (.tmp 53) (.tmp 58) rfl _ _ _ (OwI.alloc (OwI.drewN HO.out _) _) rfl _ _ rfl (cell_new1 _ _ _) HX.out (by first | omega | (simp <;> omega)) (by first | omega | (simp <;> omega)) ?_; intro v1 wv1 o1 g1 p1)
            go_roundw
            case rel => exact ⟨k + 1, by omega, by go_num, by rw [HS.out, PF.out]; exact o1, bel_push (bel_drewN hbel _) hsz (OwI.drewN HO.out _).1 (Nat.le_refl _) g1⟩
            case measure => simp [intOf]; omega
      · obtain rfl : acc = [] := List.eq_nil_of_length_eq_zero (by omega)
        clear hform hown
        go_wp2
        go_quiet (fail)
        go_wp2_with (at_builtin; refine push_int rfl (.tmp 53) (.tmp 58) rfl _ _ _ (OwI.alloc (OwI.drewN HO.out _) _) rfl _ _ rfl (cell_new1 _ _ _) HX.out (by first | omega | (simp <;> omega)) (by first | omega | (simp <;> omega)) ?_; intro v1 wv1 o1 g1 p1)
        go_roundw
        case rel => exact ⟨k + 1, by omega, by go_num, by rw [HS.out]; exact o1, bel_push (bel_drewN hbel _) hsz (OwI.drewN HO.out _).1 (Nat.le_refl _) g1⟩
        case measure => simp [intOf]; omega
    · obtain rfl : k = xs.length := by omega
      rw [List.take_length] at hown hkl
      have HO := Lib.hid hown
      obtain ⟨A1, cap1, rfl, hcap1, hm1, _, hform⟩ := hown.form
      clear hown hform
      go_wp2_with (at_builtin; refine append_ints rfl (.tmp 60) (.tmp 61) rfl w.heap.size _ [] (OwI_lit _ [] I64s_nil (by simp) hsz) rfl _ _ (HO.out.alloc _).rd rfl (by first | omega | (simp <;> omega)) (by first | omega | (simp <;> omega)) ?_; intro v1 w1 o1 g1 p1)
      go_ret
      exact ⟨_, rfl, by simpa using o1, (hbel.alloc hsz _).grown g1 (by simp; omega) (fun k hk => by simp [Value.ownBlock] at hk; omega)⟩

end Go.Proofs.Ytgoghkboklehnaa
