/- FormatWord of the reference; FormatWhitehead of the reference and of the program. -/
import Derived.Test.YtnjbebicnmnnkaaWh
import Derived.Test.YtnjbebicnmnnkaaFmt
namespace Go.Proofs.Ytnjbebicnmnnkaa
open Go.RowKit

/-- Lists of letters as text: nothing if one is no letter. -/
def fmtL (es : List Int) : List UInt8 := if es.all (fun e => decide (lt e ≠ [])) then es.flatMap lt else []
def okL (es : List Int) : Bool := es.all (fun e => decide (lt e ≠ []))
theorem okL_bad {es : List Int} (i : Nat) (hi : i < es.length) (h : lt es[i] = []) : okL es = false := by
  unfold okL
  simp
  exact ⟨es[i], by simp, h⟩
theorem okL_ok {es : List Int} (h : ∀ j (hj : j < es.length), lt es[j] ≠ []) : okL es = true := by
  unfold okL
  simp
  intro x hx
  obtain ⟨j, hj, rfl⟩ := List.getElem_of_mem hx
  exact h j hj
theorem lt_len (e : Int) : (lt e).length ≤ 1 := by
  rcases lt_cases e with ⟨_, h⟩ | ⟨_, h⟩ | ⟨_, h⟩ | ⟨_, h⟩ | ⟨_, h⟩ | ⟨_, h⟩ | ⟨_, h⟩ <;> rw [h] <;> simp
theorem lt_one (e : Int) (h : lt e ≠ []) : ∃ c, lt e = [c] := by
  have h1 := lt_len e
  match hc : lt e with
  | [] => exact absurd hc h
  | [c] => exact ⟨c, rfl⟩
  | a :: b :: l => rw [hc] at h1; simp at h1
theorem flatL_succ (es : List Int) (k : Nat) (h : k < es.length) : (es.take (k + 1)).flatMap lt = (es.take k).flatMap lt ++ lt es[k] := by
  rw [List.take_succ_eq_append_getElem h, List.flatMap_append]
  simp
theorem flatL_len (es : List Int) : (es.flatMap lt).length ≤ es.length := by
  induction es with
  | nil => simp
  | cons e es ih => have := lt_len e; simp only [List.flatMap_cons, List.length_append, List.length_cons]; omega
/-- What FormatWord answers. -/
def fmtW (es : List Int) : List UInt8 := if okL es then (if es = [] then [49] else es.flatMap lt) else []
def fmtWh (d : WhD) : List UInt8 := if lt d.1 = [] then [] else if okL d.2 then lt d.1 ++ [58] ++ d.2.flatMap lt else []

set_option maxHeartbeats 1000000 in
theorem specFormatWord_any (v : Value) (es : List Int) (w : World) (h : RdI w v es) (hl : es.length ≤ 1073741824) :
    Calls Try.prog 69 #[v] w fun e w' => e = .returned (str (fmtW es)) ∧ Below w.heap.size w w' := by
  have H := Lib.hid h
  obtain ⟨A, cap, rfl, hcap, hm, _, _⟩ := h.arg
  clear h
  go_enter Try.func69, Try.ntmps69
  go_wp2
  go_loopw [3, 4] (fun s i wr => ∃ (k : Nat) (t : List UInt8), k ≤ es.length ∧ i = .int .i64 k ∧ s = .string ⟨t.toArray⟩ ∧ t = (es.take k).flatMap lt ∧ (∀ j (hj : j < es.length), j < k → lt es[j] ≠ []) ∧ Below w.heap.size w wr) (fun _ i _ => es.length - (intOf i).toNat)
  case atStart => exact ⟨0, [], Nat.zero_le _, rfl, rfl, by simp, (fun j hj h => absurd h (by omega)), Below.refl _ _⟩
  case round =>
    obtain ⟨k, t, hk, rfl, rfl, ht, hok, hbel⟩ := hrel
    have hsz := hbel.size
    have hsl : t.length ≤ k := by
      have h1 := flatL_len (es.take k)
      have h2 := List.length_take_le k es
      rw [← ht] at h1
      omega
    have HT := Lib.hid ht
    have HOK := Lib.hid hok
    have HBL := Lib.hid hbel
    clear ht hok
    by_cases hlt : k < es.length
    · obtain ⟨b, off, rfl, hbl, hc⟩ := (H.out.below hbel).at (by omega)
      have hcell := hc k hlt
      clear hbel
      have HS := Lib.hid (flatL_succ es k hlt)
      have HBAD : Hid (lt es[k] = [] → fmtW es = []) := fun h => by unfold fmtW; rw [okL_bad k hlt h]; rfl
      have HST : Hid (lt es[k] ≠ [] → ∀ j (hj : j < es.length), j < k + 1 → lt es[j] ≠ []) := fun F j hj hjk => by
        rcases Nat.lt_or_eq_of_le (Nat.le_of_lt_succ hjk) with h | rfl
        · exact HOK.out j hj h
        · exact F
      clear hc
      generalize es[k] = e at hcell HS HBAD HST
      have hlb := l2Letter_any e
      rw [letB3] at hlb
      by_cases hle : lt e = []
      · have LB : Hid (∀ w, Calls Try.prog 55 #[.int .i64 e] w fun e w' => e = .returned (.bool false) ∧ w = w') := Lib.hid (by rw [hle] at hlb; simpa using hlb)
        have F := Lib.hid (HBAD.out hle)
        clear hlb hle
        go_wp2_with (go_at_call 55; refine (LB.out _).mono ?_; rintro e w' ⟨rfl, rfl⟩)
        go_ret
        exact ⟨by rw [F.out]; rfl, HBL.out⟩
      · obtain ⟨c, hcc⟩ := lt_one e hle
        rw [decide_eq_true hle] at hlb
        have LB : Hid (∀ w, Calls Try.prog 55 #[.int .i64 e] w fun e w' => e = .returned (.bool true) ∧ w = w') := Lib.hid hlb
        have hch : ∀ w, _ := fun w => l2Char_any e w hle
        rw [hcc] at hch
        have LC := Lib.hid hch
        have CC := Lib.hid hcc
        have F := Lib.hid (HST.out hle)
        clear hlb hle hcc hch
        unfold str at LC
        go_wp2_with fail
        refine (LB.out _).mono ?_
        rintro e w' ⟨rfl, rfl⟩
        go_wp2_with fail
        refine (LC.out _).mono ?_
        rintro e w1 ⟨rfl, b1⟩
        have B1 := Lib.hid b1
        clear b1
        go_wp2
        go_roundw
        case rel => exact ⟨k + 1, t ++ [c], by omega, by go_num, str_snoc _ _, by rw [HS.out, HT.out, CC.out], F.out, HBL.out.trans (B1.out.mono hsz)⟩
        case measure => simp [intOf]; omega
    · obtain rfl : k = es.length := by omega
      have hokl : okL es = true := okL_ok fun j hj => HOK.out j hj hj
      by_cases h0 : es = []
      · subst h0
        have ht0 : t = [] := HT.out
        subst ht0
        clear hokl
        go_wp2
        go_ret
        exact ⟨by rfl, HBL.out⟩
      · have F : Hid (fmtW es = es.flatMap lt) := Lib.hid (by unfold fmtW; rw [if_pos hokl, if_neg h0])
        have hne : t ≠ [] := by
          rw [HT.out, List.take_length]
          cases es with
          | nil => exact absurd rfl h0
          | cons e es =>
            have := HOK.out 0 (by simp) (by simp)
            simp only [List.flatMap_cons]
            intro hh
            exact this (List.append_eq_nil_iff.1 hh).1
        have hte : t.isEmpty = false := by cases t with | nil => exact absurd rfl hne | cons _ _ => rfl
        have hte2 : (t == []) = false := by cases t with | nil => exact absurd rfl hne | cons _ _ => rfl
        clear h0 hokl
        go_wp2
        go_ret
        exact ⟨by rw [F.out, HT.out, List.take_length]; rfl, HBL.out⟩

set_option maxHeartbeats 2000000 in
theorem implFormatWhitehead_any (v : Value) (d : WhD) (w : World) (h : ArgWh w v d) (hl : d.2.length ≤ 1073741824) :
    Calls Try.prog 43 #[v] w fun e w' => e = .returned (str (fmtWh d)) ∧ Below w.heap.size w w' := by
  obtain ⟨s, rfl, hd, ha⟩ := h
  obtain ⟨L, es⟩ := d
  simp only at hd ha hl
  obtain ⟨A, cap, rfl, hcap, hm, hr, hb⟩ := ha
  have HB := Lib.hid hb
  have HR := Lib.hid hr
  have HL := Lib.hid hd
  clear hr hb hd
  have hlL := fun w => letterText_any L w HL.out
  by_cases h0 : lt L = []
  · rw [h0] at hlL
    have LL := Lib.hid hlL
    have F : Hid (fmtWh (L, es) = []) := Lib.hid (by unfold fmtWh; rw [if_pos h0])
    clear h0 hlL
    unfold str at LL
    go_enter Try.func43, Try.ntmps43
    go_wp2_with (go_at_call 57; refine (LL.out _).mono ?_; rintro e w' ⟨rfl, rfl⟩)
    go_ret
    exact ⟨by rw [F.out]; rfl, (by repeat (first | exact Below.refl _ _ | (refine Below.setCell ?_ (by first | omega | (simp <;> omega)) _) | (refine bel_drewN ?_ _) | (refine Below.drew ?_) | (refine Below.alloc ?_ (by first | omega | (simp <;> omega)) _)))⟩
  · obtain ⟨c0, hc0⟩ := lt_one L h0
    rw [hc0] at hlL
    have LL := Lib.hid hlL
    have HC0 := Lib.hid hc0
    clear hlL h0 hc0
    unfold str at LL
    go_enter Try.func43, Try.ntmps43
    go_wp2_with (go_at_call 57; refine (LL.out _).mono ?_; rintro e w' ⟨rfl, rfl⟩)
    go_loop [3, 17] (fun s i => ∃ (k : Nat) (t : List UInt8), k ≤ es.length ∧ i = .int .i64 k ∧ s = .string ⟨t.toArray⟩ ∧ t = [c0, 58] ++ (es.take k).flatMap lt ∧ ∀ j (hj : j < es.length), j < k → lt es[j] ≠ []) (fun _ i => es.length - (intOf i).toNat)
    case atStart => exact ⟨0, [c0, 58], Nat.zero_le _, rfl, by first | rfl | exact str_snoc [c0] 58, by simp, fun j hj h => absurd h (by omega)⟩
    case round =>
      obtain ⟨k, t, hk, rfl, rfl, ht, hok⟩ := hrel
      have hsl : t.length ≤ k + 2 := by
        have h1 := flatL_len (es.take k)
        have h2 := List.length_take_le k es
        rw [ht]
        simp only [List.length_append, List.length_cons, List.length_nil]
        omega
      have HT := Lib.hid ht
      have HOK := Lib.hid hok
      clear ht hok
      by_cases hlt : k < es.length
      · obtain ⟨b, off, rfl, hc⟩ := HB.out (by omega)
        have hbl : b < w.heap.size := World.block_lt_of_cell? w _ (hc k hlt)
        have hcell := hc k hlt
        have HS := Lib.hid (flatL_succ es k hlt)
        have HI := Lib.hid (HR.out es[k] (by simp))
        have HBAD : Hid (lt es[k] = [] → fmtWh (L, es) = []) := fun h => by unfold fmtWh; simp only [okL_bad k hlt h]; simp
        have HST : Hid (lt es[k] ≠ [] → ∀ j (hj : j < es.length), j < k + 1 → lt es[j] ≠ []) := fun F j hj hjk => by
          rcases Nat.lt_or_eq_of_le (Nat.le_of_lt_succ hjk) with h | rfl
          · exact HOK.out j hj h
          · exact F
        clear hc
        generalize es[k] = e at hcell HS HI HBAD HST
        have hlt2 := fun w => letterText_any e w HI.out
        by_cases hle : lt e = []
        · rw [hle] at hlt2
          have LT' := Lib.hid hlt2
          have F := Lib.hid (HBAD.out hle)
          clear hlt2 hle
          unfold str at LT'
          go_wp2_with (go_at_call 57; refine (LT'.out _).mono ?_; rintro e w' ⟨rfl, rfl⟩)
          go_ret
          exact ⟨by rw [F.out]; rfl, (by repeat (first | exact Below.refl _ _ | (refine Below.setCell ?_ (by first | omega | (simp <;> omega)) _) | (refine bel_drewN ?_ _) | (refine Below.drew ?_) | (refine Below.alloc ?_ (by first | omega | (simp <;> omega)) _)))⟩
        · obtain ⟨c, hcc⟩ := lt_one e hle
          rw [hcc] at hlt2
          have LT' := Lib.hid hlt2
          have CC := Lib.hid hcc
          have F := Lib.hid (HST.out hle)
          clear hlt2 hle hcc
          unfold str at LT'
          go_wp2_with (go_at_call 57; refine (LT'.out _).mono ?_; rintro e w' ⟨rfl, rfl⟩)
          go_round
          case rel => exact ⟨k + 1, t ++ [c], by omega, by go_num, str_snoc _ _, by rw [HS.out, HT.out, CC.out, List.append_assoc], F.out⟩
          case measure => simp [intOf]; omega
      · obtain rfl : k = es.length := by omega
        have F : Hid (fmtWh (L, es) = [c0] ++ [58] ++ es.flatMap lt) := Lib.hid (by
          unfold fmtWh
          simp only [HC0.out, okL_ok fun j hj => HOK.out j hj hj]
          simp)
        go_wp2
        go_ret
        exact ⟨by rw [F.out, HT.out, List.take_length]; rfl, (by repeat (first | exact Below.refl _ _ | (refine Below.setCell ?_ (by first | omega | (simp <;> omega)) _) | (refine bel_drewN ?_ _) | (refine Below.drew ?_) | (refine Below.alloc ?_ (by first | omega | (simp <;> omega)) _)))⟩
theorem fmtW_one (L : Int) : fmtW [L] = lt L := by
  unfold fmtW okL
  by_cases h : lt L = [] <;> simp [h]

set_option maxHeartbeats 2000000 in
theorem specFormatWhitehead_any (v : Value) (d : WhD) (w : World) (h : ArgWh w v d) (hl : d.2.length ≤ 1073741824) :
    Calls Try.prog 42 #[v] w fun e w' => e = .returned (str (fmtWh d)) ∧ Below w.heap.size w w' := by
  obtain ⟨s, rfl, hd, ha⟩ := h
  obtain ⟨L, es⟩ := d
  simp only at hd ha hl
  have H := Lib.hid ha
  obtain ⟨A, cap, rfl, hcap, hm, hr, _⟩ := ha
  have HL := Lib.hid hd
  clear hr hd
  by_cases h0 : lt L = []
  · have F : Hid (fmtWh (L, es) = []) := Lib.hid (by unfold fmtWh; rw [if_pos h0])
    have G : Hid (str (fmtW [L]) = .string ⟨#[]⟩) := Lib.hid (by rw [fmtW_one, h0]; rfl)
    clear h0
    have hr1 : RdI ((w.alloc (Obj.cells #[.int .i64 L, .slice A es.length cap] 36)).alloc (Obj.cells #[.int .i64 L] 3)) (.slice (some ⟨w.heap.size + 1, 0, none⟩) 1 1) [L] :=
      (OwI_litN _ [L] (w.heap.size + 1) (by simp) (by intro x hx; simp at hx; subst hx; exact HL.out) (by simp) (Nat.le_refl _)).rd
    have HR1 := Lib.hid (specFormatWord_any _ [L] _ hr1 (by simp))
    clear hr1
    go_enter Try.func42, Try.ntmps42
    go_wp2_with fail
    with_reducible refine Calls.mono HR1.out ?_
    rintro e w1 ⟨rfl, b1⟩
    rw [G.out]
    have B1 := Lib.hid b1
    clear b1
    go_wp2
    go_ret
    exact ⟨by rw [F.out]; rfl, (by repeat (first | exact Below.refl _ _ | (refine Below.setCell ?_ (by first | omega | (simp <;> omega)) _) | (refine bel_drewN ?_ _) | (refine Below.drew ?_) | (refine Below.alloc ?_ (by first | omega | (simp <;> omega)) _) | (refine Below.trans ?_ (Below.mono (Hid.out B1) (by first | omega | (simp <;> omega))))))⟩
  · obtain ⟨c0, hc0⟩ := lt_one L h0
    have G : Hid (str (fmtW [L]) = .string ⟨#[c0]⟩) := Lib.hid (by rw [fmtW_one, hc0]; rfl)
    have HC0 := Lib.hid hc0
    clear h0 hc0
    have hr1 : RdI ((w.alloc (Obj.cells #[.int .i64 L, .slice A es.length cap] 36)).alloc (Obj.cells #[.int .i64 L] 3)) (.slice (some ⟨w.heap.size + 1, 0, none⟩) 1 1) [L] :=
      (OwI_litN _ [L] (w.heap.size + 1) (by simp) (by intro x hx; simp at hx; subst hx; exact HL.out) (by simp) (Nat.le_refl _)).rd
    have HR1 := Lib.hid (specFormatWord_any _ [L] _ hr1 (by simp))
    clear hr1
    go_enter Try.func42, Try.ntmps42
    go_wp2_with fail
    with_reducible refine Calls.mono HR1.out ?_
    rintro e w1 ⟨rfl, b1⟩
    rw [G.out]
    have B1 := Lib.hid b1
    have hb1 := b1.mono (B' := w.heap.size + 1) (by simp)
    obtain ⟨hc, _⟩ := bcellN hb1
    have hbx0 : w1.cell? ⟨w.heap.size, 1, none⟩ = some (.slice A es.length cap) := by rw [hc _ _ (by omega)]; simp [go_sem]
    have HBX := Lib.hid hbx0
    have hbel : Below w.heap.size w w1 := (by repeat (first | exact Below.refl _ _ | (refine Below.setCell ?_ (by first | omega | (simp <;> omega)) _) | (refine bel_drewN ?_ _) | (refine Below.drew ?_) | (refine Below.alloc ?_ (by first | omega | (simp <;> omega)) _) | (refine Below.trans ?_ (Below.mono (Hid.out B1) (by first | omega | (simp <;> omega))))))
    have HBL := Lib.hid hbel
    have hsz1 : w.heap.size + 1 ≤ w1.heap.size := by have := b1.size; simp at this; omega
    clear b1 hb1 hc hbel
    go_wp2
    go_loopw [3, 4] (fun s i wr => ∃ (k : Nat) (t : List UInt8), k ≤ es.length ∧ i = .int .i64 k ∧ s = .string ⟨t.toArray⟩ ∧ t = [c0, 58] ++ (es.take k).flatMap lt ∧ (∀ j (hj : j < es.length), j < k → lt es[j] ≠ []) ∧ Below w1.heap.size w1 wr) (fun _ i _ => es.length - (intOf i).toNat)
    case atStart => exact ⟨0, [c0, 58], Nat.zero_le _, rfl, by first | rfl | exact str_snoc [c0] 58, by simp, (fun j hj h => absurd h (by omega)), Below.refl _ _⟩
    case round =>
      obtain ⟨k, t, hk, rfl, rfl, ht, hok, hbl1⟩ := hrel
      have hsz := hbl1.size
      have hbx := (hbl1.cell (p := ⟨w.heap.size, 1, none⟩) (by show w.heap.size < _; omega)).trans HBX.out
      have hsl : t.length ≤ k + 2 := by
        have h1 := flatL_len (es.take k)
        have h2 := List.length_take_le k es
        rw [ht]
        simp only [List.length_append, List.length_cons, List.length_nil]
        omega
      have HT := Lib.hid ht
      have HOK := Lib.hid hok
      have HB1 := Lib.hid hbl1
      clear ht hok hbx0
      by_cases hlt : k < es.length
      · have hag := (H.out.below HBL.out).below HB1.out
        obtain ⟨A', cap', hv, _, _, _, hbb⟩ := hag
        obtain ⟨rfl, rfl⟩ : A = A' ∧ cap = cap' := by simpa using hv
        obtain ⟨b, off, rfl, hc⟩ := hbb (by omega)
        have hcell := hc k hlt
        have HS := Lib.hid (flatL_succ es k hlt)
        have HBAD : Hid (lt es[k] = [] → fmtWh (L, es) = []) := fun h => by unfold fmtWh; simp only [okL_bad k hlt h]; simp
        have HST : Hid (lt es[k] ≠ [] → ∀ j (hj : j < es.length), j < k + 1 → lt es[j] ≠ []) := fun F j hj hjk => by
          rcases Nat.lt_or_eq_of_le (Nat.le_of_lt_succ hjk) with h | rfl
          · exact HOK.out j hj h
          · exact F
        clear hc hbb hv hbl1
        generalize es[k] = e at hcell HS HBAD HST
        have hlb := l2Letter_any e
        rw [letB3] at hlb
        by_cases hle : lt e = []
        · have LB : Hid (∀ w, Calls Try.prog 55 #[.int .i64 e] w fun e w' => e = .returned (.bool false) ∧ w = w') := Lib.hid (by rw [hle] at hlb; simpa using hlb)
          have F := Lib.hid (HBAD.out hle)
          clear hlb hle
          go_wp2_with (go_at_call 55; refine (LB.out _).mono ?_; rintro e w' ⟨rfl, rfl⟩)
          go_ret
          exact ⟨by rw [F.out]; rfl, HBL.out.trans (HB1.out.mono (by omega))⟩
        · obtain ⟨c, hcc⟩ := lt_one e hle
          rw [decide_eq_true hle] at hlb
          have LB : Hid (∀ w, Calls Try.prog 55 #[.int .i64 e] w fun e w' => e = .returned (.bool true) ∧ w = w') := Lib.hid hlb
          have hch : ∀ w, _ := fun w => l2Char_any e w hle
          rw [hcc] at hch
          have LC := Lib.hid hch
          have CC := Lib.hid hcc
          have F := Lib.hid (HST.out hle)
          clear hlb hle hcc hch
          unfold str at LC
          go_wp2_with fail
          refine (LB.out _).mono ?_
          rintro e w' ⟨rfl, rfl⟩
          go_wp2_with fail
          refine (LC.out _).mono ?_
          rintro e w2 ⟨rfl, b2⟩
          have B2 := Lib.hid b2
          clear b2
          go_wp2
          go_roundw
          case rel => exact ⟨k + 1, t ++ [c], by omega, by go_num, str_snoc _ _, by rw [HS.out, HT.out, CC.out, List.append_assoc], F.out, HB1.out.trans (B2.out.mono hsz)⟩
          case measure => simp [intOf]; omega
      · obtain rfl : k = es.length := by omega
        have F : Hid (fmtWh (L, es) = [c0] ++ [58] ++ es.flatMap lt) := Lib.hid (by
          unfold fmtWh
          simp only [HC0.out, okL_ok fun j hj => HOK.out j hj hj]
          simp)
        go_wp2
        go_ret
        exact ⟨by rw [F.out, HT.out, List.take_length]; rfl, HBL.out.trans (HB1.out.mono (by omega))⟩
end Go.Proofs.Ytnjbebicnmnnkaa
