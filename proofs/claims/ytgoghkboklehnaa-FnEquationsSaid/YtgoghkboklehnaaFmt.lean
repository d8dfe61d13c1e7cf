/- Letters as text; FormatWord, FormatEquation, of the reference and of the program. -/
import Derived.Test.YtgoghkboklehnaaNum
namespace Go.Proofs.Ytgoghkboklehnaa
set_option maxRecDepth 20000
set_option linter.unusedVariables false
set_option linter.unusedSimpArgs false
open Go.RowKit

/-- The text of a letter, nothing for what is none. -/
def lt (x : Int) : List UInt8 :=
  if x = 1 then [97] else if x = 2 then [98] else if x = 3 then [99] else if x = -1 then [65] else if x = -2 then [66] else if x = -3 then [67] else []
def str (l : List UInt8) : Value := .string ⟨l.toArray⟩
theorem str_snoc (t : List UInt8) (c : UInt8) : Value.string (({ data := t.toArray } : ByteArray) ++ { data := #[c] }) = .string ⟨(t ++ [c]).toArray⟩ := by
  rw [ByteArray.mk_append_mk]
theorem lt_cases (x : Int) : (x = 1 ∧ lt x = [97]) ∨ (x = 2 ∧ lt x = [98]) ∨ (x = 3 ∧ lt x = [99]) ∨ (x = -1 ∧ lt x = [65]) ∨ (x = -2 ∧ lt x = [66]) ∨ (x = -3 ∧ lt x = [67]) ∨ ((x = 0 ∨ x < -3 ∨ 3 < x) ∧ lt x = []) := by
  unfold lt
  repeat' split
  all_goals simp_all
  omega
theorem letB3 (x : Int) : letB 3 x = decide (lt x ≠ []) := by
  have h3 : wrap64 (-3) = -3 := IntWalk.wrap64_in _ ⟨by omega, by omega⟩
  unfold letB inB
  rw [h3]
  rcases lt_cases x with ⟨rfl, h⟩ | ⟨rfl, h⟩ | ⟨rfl, h⟩ | ⟨rfl, h⟩ | ⟨rfl, h⟩ | ⟨rfl, h⟩ | ⟨hx, h⟩
  all_goals try (rw [h]; decide)
  rw [h, Bool.eq_iff_iff]
  simp
  omega

set_option maxHeartbeats 1000000 in
theorem letterText_any (x : Int) (w : World) (hx : I64 x) :
    Calls Try.prog 45 #[.int .i64 x] w fun e w' => e = .returned (str (lt x)) ∧ w = w' := by
  have h1 := hx.1
  have h2 := hx.2
  unfold str
  rcases lt_cases x with ⟨rfl, h⟩ | ⟨rfl, h⟩ | ⟨rfl, h⟩ | ⟨rfl, h⟩ | ⟨rfl, h⟩ | ⟨rfl, h⟩ | ⟨hc, h⟩
  all_goals rw [h]; clear h
  iterate 6
    · go_enter Try.func45, Try.ntmps45
      go_wp2
      go_ret
      exact ⟨by rfl, rfl⟩
  rcases e1 : inB x 1 3 with _ | _
  · rcases e2 : inB x (-3) (-1) with _ | _
    · clear hc
      go_enter Try.func45, Try.ntmps45
      go_wp2_with (go_at_call 31; refine (within_any _ _ _ _).mono ?_; rintro e w' ⟨rfl, rfl⟩)
      go_ret
      exact ⟨rfl, rfl⟩
    · have := inB_iff.1 e2; omega
  · have := inB_iff.1 e1; omega

set_option maxHeartbeats 1000000 in
theorem l2Char_any (x : Int) (w : World) (hx : lt x ≠ []) :
    Calls Try.prog 52 #[.int .i64 x] w fun e w' => e = .returned (str (lt x)) ∧ Below w.heap.size w w' := by
  unfold str
  rcases lt_cases x with ⟨rfl, h⟩ | ⟨rfl, h⟩ | ⟨rfl, h⟩ | ⟨rfl, h⟩ | ⟨rfl, h⟩ | ⟨rfl, h⟩ | ⟨hc, h⟩
  iterate 6
    · rw [h]
      clear hx h
      go_enter Try.func52, Try.ntmps52
      go_wp2
      go_ret
      exact ⟨by rfl, (Below.refl _ _).alloc (Nat.le_refl _) _⟩
  exact absurd h hx
/-! ## FormatEquation -/
def chunk (e : Int) : List UInt8 := if e = 9 then [120] else if e = -9 then [88] else lt e
def fmtEq (es : List Int) : List UInt8 := if es.all (fun e => decide (chunk e ≠ [])) then (if es = [] then [49] else es.flatMap chunk) else []
theorem fmtEq_bad {es : List Int} (i : Nat) (hi : i < es.length) (h : chunk es[i] = []) : fmtEq es = [] := by
  unfold fmtEq
  rw [if_neg]
  simp
  exact ⟨es[i], by simp, h⟩
theorem fmtEq_ok {es : List Int} (h : ∀ j (hj : j < es.length), chunk es[j] ≠ []) (h0 : es ≠ []) : fmtEq es = es.flatMap chunk := by
  unfold fmtEq
  rw [if_pos, if_neg h0]
  simp
  intro x hx
  obtain ⟨j, hj, rfl⟩ := List.getElem_of_mem hx
  exact h j hj
theorem flat_succ (es : List Int) (k : Nat) (h : k < es.length) : (es.take (k + 1)).flatMap chunk = (es.take k).flatMap chunk ++ chunk es[k] := by
  rw [List.take_succ_eq_append_getElem h, List.flatMap_append]
  simp
theorem chunk_len (e : Int) : (chunk e).length ≤ 1 := by
  unfold chunk
  split
  · simp
  · split
    · simp
    · rcases lt_cases e with ⟨_, h⟩ | ⟨_, h⟩ | ⟨_, h⟩ | ⟨_, h⟩ | ⟨_, h⟩ | ⟨_, h⟩ | ⟨_, h⟩ <;> rw [h] <;> simp
theorem chunk_one (e : Int) (h : chunk e ≠ []) : ∃ c, chunk e = [c] := by
  have h1 := chunk_len e
  match hc : chunk e with
  | [] => exact absurd hc h
  | [c] => exact ⟨c, rfl⟩
  | a :: b :: l => rw [hc] at h1; simp at h1
theorem flat_pos {es : List Int} (h : ∀ j (hj : j < es.length), chunk es[j] ≠ []) (h0 : es ≠ []) : es.flatMap chunk ≠ [] := by
  cases es with
  | nil => exact absurd rfl h0
  | cons e es =>
    have := h 0 (by simp)
    simp only [List.flatMap_cons]
    intro hh
    exact this (List.append_eq_nil_iff.1 hh).1
theorem flat_len (es : List Int) : (es.flatMap chunk).length ≤ es.length := by
  induction es with
  | nil => simp
  | cons e es ih => have := chunk_len e; simp only [List.flatMap_cons, List.length_append, List.length_cons]; omega

set_option maxHeartbeats 1000000 in
theorem implFormatEquation_any (v : Value) (es : List Int) (w : World) (h : ArgI w v es) (hl : es.length ≤ 1073741824) :
    Calls Try.prog 20 #[v] w fun e w' => e = .returned (str (fmtEq es)) ∧ w = w' := by
  obtain ⟨A, cap, rfl, hcap, hm, hr, hb⟩ := h
  have HR := Lib.hid hr
  have HB := Lib.hid hb
  clear hr hb
  by_cases h0 : es = []
  · subst h0
    go_enter Try.func20, Try.ntmps20
    go_wp2
    go_ret
    exact ⟨by rfl, rfl⟩
  · have hpos : 0 < es.length := List.length_pos_iff.2 h0
    have H0 := Lib.hid h0
    have hd : ((es.length : Int) == 0) = false := by simp; omega
    clear h0
    go_enter Try.func20, Try.ntmps20
    go_wp2
    go_loop [3, 12] (fun s i => ∃ (k : Nat) (t : List UInt8), k ≤ es.length ∧ i = .int .i64 k ∧ s = .string ⟨t.toArray⟩ ∧ t = (es.take k).flatMap chunk ∧ ∀ j (hj : j < es.length), j < k → chunk es[j] ≠ []) (fun _ i => es.length - (intOf i).toNat)
    case atStart => exact ⟨0, [], Nat.zero_le _, rfl, rfl, by simp, fun j hj h => absurd h (by omega)⟩
    case round =>
      obtain ⟨k, t, hk, rfl, rfl, ht, hok⟩ := hrel
      have hsl : t.length ≤ k := by
        have h1 := flat_len (es.take k)
        have h2 := List.length_take_le k es
        rw [← ht] at h1
        omega
      have HT := Lib.hid ht
      have HOK := Lib.hid hok
      clear ht hok
      by_cases hlt : k < es.length
      · obtain ⟨b, off, rfl, hc⟩ := HB.out (by omega)
        have hcell := hc k hlt
        have HS := Lib.hid (flat_succ es k hlt)
        have HI := Lib.hid (HR.out es[k] (by simp))
        have HBAD := Lib.hid (fmtEq_bad k hlt)
        have HST : Hid (chunk es[k] ≠ [] → ∀ j (hj : j < es.length), j < k + 1 → chunk es[j] ≠ []) := fun F j hj hjk => by
          rcases Nat.lt_or_eq_of_le (Nat.le_of_lt_succ hjk) with h | rfl
          · exact HOK.out j hj h
          · exact F
        clear hc
        generalize es[k] = e at hcell HS HI HBAD HST
        have LT := Lib.hid (fun w => letterText_any e w HI.out)
        rcases e1 : (e == 9) with _ | _
        · rcases e2 : (e == -9) with _ | _
          · have C : Hid (chunk e = lt e) := Lib.hid (by unfold chunk; rw [if_neg (by simpa using e1), if_neg (by simpa using e2)])
            by_cases hle : lt e = []
            · have hlt' := LT.out
              rw [hle] at hlt'
              have LT' := Lib.hid hlt'
              have F := Lib.hid (HBAD.out (by rw [C.out, hle]))
              clear hlt' LT hle
              unfold str at LT'
              go_wp2_with (go_at_call 45; refine (LT'.out _).mono ?_; rintro e w' ⟨rfl, rfl⟩)
              go_ret
              exact ⟨by rw [F.out]; rfl, rfl⟩
            · obtain ⟨c, hcc⟩ := chunk_one e (by rw [C.out]; exact hle)
              have hlt' := LT.out
              rw [← C.out, hcc] at hlt'
              have LT' := Lib.hid hlt'
              have CC := Lib.hid hcc
              have F := Lib.hid (HST.out (by rw [CC.out]; simp))
              clear hlt' LT hle hcc
              unfold str at LT'
              go_wp2_with (go_at_call 45; refine (LT'.out _).mono ?_; rintro e w' ⟨rfl, rfl⟩)
              go_round
              case rel => exact ⟨k + 1, t ++ [c], by omega, by go_num, str_snoc _ _, by rw [HS.out, HT.out, CC.out], F.out⟩
              case measure => simp [intOf]; omega
          · have C : Hid (chunk e = [88]) := Lib.hid (by unfold chunk; rw [if_neg (by simpa using e1), if_pos (by simpa using e2)])
            have F := Lib.hid (HST.out (by rw [C.out]; simp))
            go_wp2_with (go_at_call 45; refine (LT.out _).mono ?_; rintro e w' ⟨rfl, rfl⟩)
            go_round
            case rel => exact ⟨k + 1, t ++ [88], by omega, by go_num, str_snoc _ _, by rw [HS.out, HT.out, C.out], F.out⟩
            case measure => simp [intOf]; omega
        · have C : Hid (chunk e = [120]) := Lib.hid (by unfold chunk; rw [if_pos (by simpa using e1)])
          have F := Lib.hid (HST.out (by rw [C.out]; simp))
          go_wp2_with (go_at_call 45; refine (LT.out _).mono ?_; rintro e w' ⟨rfl, rfl⟩)
          go_round
          case rel => exact ⟨k + 1, t ++ [120], by omega, by go_num, str_snoc _ _, by rw [HS.out, HT.out, C.out], F.out⟩
          case measure => simp [intOf]; omega
      · obtain rfl : k = es.length := by omega
        have F := Lib.hid (fmtEq_ok (fun j hj => HOK.out j hj hj) H0.out)
        go_wp2
        go_ret
        exact ⟨by rw [F.out, HT.out, List.take_length]; rfl, rfl⟩
set_option maxHeartbeats 1000000 in
theorem specFormatEquation_any (v : Value) (es : List Int) (w : World) (h : RdI w v es) (hl : es.length ≤ 1073741824) :
    Calls Try.prog 26 #[v] w fun e w' => e = .returned (str (fmtEq es)) ∧ Below w.heap.size w w' := by
  have H := Lib.hid h
  obtain ⟨A, cap, rfl, hcap, hm, _, _⟩ := h.arg
  clear h
  go_enter Try.func26, Try.ntmps26
  go_wp2
  go_loopw [3, 4] (fun s i wr => ∃ (k : Nat) (t : List UInt8), k ≤ es.length ∧ i = .int .i64 k ∧ s = .string ⟨t.toArray⟩ ∧ t = (es.take k).flatMap chunk ∧ (∀ j (hj : j < es.length), j < k → chunk es[j] ≠ []) ∧ Below w.heap.size w wr) (fun _ i _ => es.length - (intOf i).toNat)
  case atStart => exact ⟨0, [], Nat.zero_le _, rfl, rfl, by simp, (fun j hj h => absurd h (by omega)), Below.refl _ _⟩
  case round =>
    obtain ⟨k, t, hk, rfl, rfl, ht, hok, hbel⟩ := hrel
    have hsz := hbel.size
    have hsl : t.length ≤ k := by
      have h1 := flat_len (es.take k)
      have h2 := List.length_take_le k es
      rw [← ht] at h1
      omega
    have HT := Lib.hid ht
    have HOK := Lib.hid hok
    have HBL := Lib.hid hbel
    clear ht hok
    by_cases hlt : k < es.length
    · obtain ⟨b, off, rfl, hbl, hc⟩ := (H.out.below hbel).at (by omega)
      have hcell := hc k hlt
      clear hbel
      have HS := Lib.hid (flat_succ es k hlt)
      have HBAD := Lib.hid (fmtEq_bad k hlt)
      have HST : Hid (chunk es[k] ≠ [] → ∀ j (hj : j < es.length), j < k + 1 → chunk es[j] ≠ []) := fun F j hj hjk => by
        rcases Nat.lt_or_eq_of_le (Nat.le_of_lt_succ hjk) with h | rfl
        · exact HOK.out j hj h
        · exact F
      clear hc
      generalize es[k] = e at hcell HS HBAD HST
      rcases e1 : (e == 9) with _ | _
      · rcases e2 : (e == -9) with _ | _
        · have C : Hid (chunk e = lt e) := Lib.hid (by unfold chunk; rw [if_neg (by simpa using e1), if_neg (by simpa using e2)])
          by_cases hle : lt e = []
          · have hlb := l2Letter_any e
            rw [letB3, hle] at hlb
            have LB : Hid (∀ w, Calls Try.prog 51 #[.int .i64 e] w fun e w' => e = .returned (.bool false) ∧ w = w') := Lib.hid (by simpa using hlb)
            have F := Lib.hid (HBAD.out (by rw [C.out, hle]))
            clear hlb hle
            go_wp2_with (go_at_call 51; refine (LB.out _).mono ?_; rintro e w' ⟨rfl, rfl⟩)
            go_ret
            exact ⟨by rw [F.out]; rfl, HBL.out⟩
          · obtain ⟨c, hcc⟩ := chunk_one e (by rw [C.out]; exact hle)
            have hlb := l2Letter_any e
            rw [letB3, decide_eq_true hle] at hlb
            have LB : Hid (∀ w, Calls Try.prog 51 #[.int .i64 e] w fun e w' => e = .returned (.bool true) ∧ w = w') := Lib.hid hlb
            have hch : ∀ w, _ := fun w => l2Char_any e w hle
            rw [← C.out, hcc] at hch
            have LC := Lib.hid hch
            have CC := Lib.hid hcc
            have F := Lib.hid (HST.out (by rw [CC.out]; simp))
            clear hlb hle hcc hch
            unfold str at LC
            go_wp2_with fail
            refine (LB.out _).mono ?_
            rintro e w' ⟨rfl, rfl⟩
            go_wp2_with fail
            refine (LC.out _).mono ?_
            rintro e w1 ⟨rfl, b1⟩
            have B1 := Lib.hid b1
            clear b1
            go_wp2
            go_roundw
            case rel => exact ⟨k + 1, t ++ [c], by omega, by go_num, str_snoc _ _, by rw [HS.out, HT.out, CC.out], F.out, HBL.out.trans (B1.out.mono hsz)⟩
            case measure => simp [intOf]; omega
        · have C : Hid (chunk e = [88]) := Lib.hid (by unfold chunk; rw [if_neg (by simpa using e1), if_pos (by simpa using e2)])
          have F := Lib.hid (HST.out (by rw [C.out]; simp))
          go_wp2
          go_roundw
          case rel => exact ⟨k + 1, t ++ [88], by omega, by go_num, str_snoc _ _, by rw [HS.out, HT.out, C.out], F.out, HBL.out⟩
          case measure => simp [intOf]; omega
      · have C : Hid (chunk e = [120]) := Lib.hid (by unfold chunk; rw [if_pos (by simpa using e1)])
        have F := Lib.hid (HST.out (by rw [C.out]; simp))
        go_wp2
        go_roundw
        case rel => exact ⟨k + 1, t ++ [120], by omega, by go_num, str_snoc _ _, by rw [HS.out, HT.out, C.out], F.out, HBL.out⟩
        case measure => simp [intOf]; omega
    · obtain rfl : k = es.length := by omega
      by_cases h0 : es = []
      · subst h0
        have ht0 : t = [] := HT.out
        subst ht0
        go_wp2
        go_ret
        exact ⟨by rfl, HBL.out⟩
      · have F := Lib.hid (fmtEq_ok (fun j hj => HOK.out j hj hj) h0)
        have hne : t ≠ [] := by
          rw [HT.out, List.take_length]
          exact flat_pos (fun j hj => HOK.out j hj hj) h0
        have hte : t.isEmpty = false := by cases t with | nil => exact absurd rfl hne | cons _ _ => rfl
        have hte2 : (t == []) = false := by cases t with | nil => exact absurd rfl hne | cons _ _ => rfl
        clear h0
        go_wp2
        go_ret
        exact ⟨by rw [F.out, HT.out, List.take_length]; rfl, HBL.out⟩
end Go.Proofs.Ytgoghkboklehnaa
