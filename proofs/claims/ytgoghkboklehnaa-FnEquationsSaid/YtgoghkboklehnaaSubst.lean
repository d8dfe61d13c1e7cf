/- SubstituteIn of the reference and of the program. -/
import Derived.Test.YtgoghkboklehnaaProd
namespace Go.Proofs.Ytgoghkboklehnaa
set_option maxRecDepth 20000
set_option linter.unusedVariables false
set_option linter.unusedSimpArgs false
open Go.RowKit

def sub1 (x : List Int) (e : Int) : List Int := if e = 9 then x else if e = -9 then invL x else [e]
def subL (es x : List Int) : List (List Int) := (es.take 100).map (sub1 x)
def substF (es x : List Int) : List Int := redLL (subL es x)
theorem invL_len (x : List Int) : (invL x).length = x.length := by simp [invL, negL]
theorem invL_I64 (x : List Int) : I64s (invL x) := fun y hy => by
  simp [invL, negL] at hy
  obtain ⟨a, _, rfl⟩ := hy
  exact I64_wrap _
theorem sub1_len (x : List Int) (e : Int) : (sub1 x e).length ≤ x.length + 1 := by
  unfold sub1; split
  · omega
  · split
    · rw [invL_len]; omega
    · simp
theorem sub1_I64 {x : List Int} {e : Int} (hx : I64s x) (he : I64 e) : I64s (sub1 x e) := by
  unfold sub1; split
  · exact hx
  · split
    · exact invL_I64 x
    · intro y hy; simp at hy; subst hy; exact he
theorem lenLL_le (L : List (List Int)) (B : Nat) (h : ∀ l ∈ L, l.length ≤ B) : lenLL L ≤ L.length * B := by
  unfold lenLL
  induction L with
  | nil => simp
  | cons l L ih =>
    have h1 := ih fun l hl => h l (by simp [hl])
    have h2 := h l (by simp)
    simp only [List.map_cons, List.sum_cons, List.length_cons, Nat.add_mul, Nat.one_mul]
    omega
theorem subL_len (es x : List Int) : (subL es x).length ≤ 100 := by simp [subL]; omega
theorem lenLL_subL (es x : List Int) (hx : x.length ≤ 1048576) : lenLL (subL es x) ≤ 104857700 := by
  have h := lenLL_le (subL es x) (x.length + 1) fun l hl => by
    simp only [subL, List.mem_map] at hl
    obtain ⟨e, _, rfl⟩ := hl
    exact sub1_len x e
  have h2 : (subL es x).length * (x.length + 1) ≤ 100 * 1048577 := Nat.mul_le_mul (subL_len es x) (by omega)
  omega
theorem flat_subL_succ (es x : List Int) (k : Nat) (h : k < es.length) (h1 : k < 100) : (subL (es.take (k + 1)) x).flatten = (subL (es.take k) x).flatten ++ sub1 x es[k] := by
  unfold subL
  rw [List.take_take, List.take_take, Nat.min_eq_right (by omega), Nat.min_eq_right (by omega), List.take_succ_eq_append_getElem h]
  simp only [List.map_append, List.map_cons, List.map_nil, List.flatten_append, List.flatten_cons, List.flatten_nil, List.append_nil]

set_option maxHeartbeats 1000000 in
theorem specSubstituteIn_any (u v : Value) (es xs : List Int) (w : World) (h : RdI w u es) (h' : RdI w v xs) (he : es.length ≤ 1048576) (hx : xs.length ≤ 1048576) :
    Calls Try.prog 17 #[u, v] w fun e w' => ∃ r, e = .returned r ∧ OwI w' w.heap.size r (substF es xs) ∧ Below w.heap.size w w' := by
  have HE := Lib.hid h
  have HX := Lib.hid h'
  obtain ⟨A, cap, rfl, hcap, hm, hr, _⟩ := h.arg
  obtain ⟨A', cap', rfl, hcap', hm', _, _⟩ := h'.arg
  have HR := Lib.hid hr
  clear h h' hr
  unfold maxLen at hm hm'
  go_enter Try.func17, Try.ntmps17
  go_wp2
  go_loopw [5, 6] (fun out i wr => ∃ k : Nat, k ≤ es.length ∧ k ≤ 100 ∧ i = .int .i64 k ∧ OwI wr w.heap.size out (subL (es.take k) xs).flatten ∧ Below w.heap.size w wr)
    (fun _ i _ => es.length - (intOf i).toNat)
  case atStart => exact ⟨0, Nat.zero_le _, Nat.zero_le _, rfl, OwI_lit _ [] I64s_nil (by simp) (Nat.le_refl _), (Below.refl _ _).alloc (Nat.le_refl _) _⟩
  case round =>
    obtain ⟨k, hk, hk1, rfl, hown, hbel⟩ := hrel
    have hsz := hbel.size
    have hol : (subL (es.take k) xs).flatten.length ≤ 104857700 := by
      have := lenLL_subL (es.take k) xs hx
      rw [List.length_flatten]
      exact this
    by_cases hlt : k < es.length
    · by_cases hlt1 : k < 100
      · obtain ⟨b, off, rfl, hbl, hc⟩ := (HE.out.below hbel).at (by omega)
        have hcell := hc k hlt
        have HS := Lib.hid (flat_subL_succ es xs k hlt hlt1)
        have HI := Lib.hid (HR.out es[k] (by simp))
        clear hc
        generalize (subL (es.take k) xs).flatten = acc at hown HS hol
        generalize es[k] = e at hcell HS HI
        have HO := Lib.hid hown
        obtain ⟨A1, cap1, rfl, hcap1, hm1, _, _⟩ := hown.form
        clear hown
        rcases e1 : (e == 9) with _ | _
        · rcases e2 : (e == -9) with _ | _
          · have F : Hid (sub1 xs e = [e]) := Lib.hid (by unfold sub1; rw [if_neg (by simpa using e1), if_neg (by simpa using e2)])
            go_wp2_with (at_builtin; refine push_int rfl (.tmp 22) (.tmp 27) rfl _ _ _ (OwI.alloc HO.out _) rfl _ _ rfl (cell_new1 _ _ _) HI.out (by first | omega | (simp <;> omega)) (by first | omega | (simp <;> omega)) ?_; intro v1 wv1 o1 g1 p1)
            go_roundw
            case rel => exact ⟨k + 1, by omega, by omega, by go_num, by rw [HS.out, F.out]; exact o1, bel_push hbel hsz HO.out.1 (Nat.le_refl _) g1⟩
            case measure => simp [intOf]; omega
          · have F : Hid (sub1 xs e = invL xs) := Lib.hid (by unfold sub1; rw [if_neg (by simpa using e1), if_pos (by simpa using e2)])
            go_wp2_with fail
            refine (specInvertWord_any _ xs _ (HX.out.below hbel) (by omega)).mono ?_
            rintro e w1 ⟨r1, rfl, o1, b1⟩
            have O1 := Lib.hid o1
            have B1 := Lib.hid b1
            have hs1 := b1.size
            clear o1 b1
            go_wp2_with (at_builtin; refine append_ints rfl (.tmp 36) (.tmp 38) rfl w.heap.size _ _ (HO.out.below B1.out) rfl _ _ O1.out.rd rfl (by rw [invL_len]; omega) (by omega) ?_; intro v2 w2 o2 g2 p2)
            go_roundw
            case rel => exact ⟨k + 1, by omega, by omega, by go_num, by rw [HS.out, F.out]; exact o2, (hbel.trans (B1.out.mono hsz)).grown g2 (by omega) (fun j hj => ((HO.out.below B1.out).1.lt j hj).1)⟩
            case measure => simp [intOf]; omega
        · have F : Hid (sub1 xs e = xs) := Lib.hid (by unfold sub1; rw [if_pos (by simpa using e1)])
          go_wp2_with (at_builtin; refine append_ints rfl (.tmp 31) (.tmp 32) rfl w.heap.size _ _ HO.out rfl _ _ (HX.out.below hbel) rfl (by omega) (by omega) ?_; intro v2 w2 o2 g2 p2)
          go_roundw
          case rel => exact ⟨k + 1, by omega, by omega, by go_num, by rw [HS.out, F.out]; exact o2, hbel.grown g2 (by omega) (fun j hj => (HO.out.1.lt j hj).1)⟩
          case measure => simp [intOf]; omega
      · obtain rfl : k = 100 := by omega
        have F : Hid ((subL (es.take 100) xs).flatten = (subL es xs).flatten) := Lib.hid (by unfold subL; rw [List.take_take, Nat.min_self])
        have HO := Lib.hid hown
        clear hown
        go_wp2_with fail
        refine (specReduceLetters_any _ _ _ HO.out.rd (by omega)).mono ?_
        rintro e w1 ⟨r1, rfl, o1, b1⟩
        have O1 := Lib.hid o1
        have B1 := Lib.hid b1
        clear o1 b1
        go_wp2
        go_ret
        exact ⟨_, rfl, by have := O1.out.mono hsz; rw [F.out] at this; exact this, hbel.trans (B1.out.mono hsz)⟩
    · obtain rfl : k = es.length := by omega
      rw [List.take_length] at hown hol
      have HO := Lib.hid hown
      clear hown
      go_wp2_with fail
      refine (specReduceLetters_any _ _ _ HO.out.rd (by omega)).mono ?_
      rintro e w1 ⟨r1, rfl, o1, b1⟩
      have O1 := Lib.hid o1
      have B1 := Lib.hid b1
      clear o1 b1
      go_wp2
      go_ret
      exact ⟨_, rfl, O1.out.mono hsz, hbel.trans (B1.out.mono hsz)⟩

set_option maxHeartbeats 1000000 in
theorem implSubstituteIn_any (u v : Value) (es xs : List Int) (w : World) (h : RdI w u es) (h' : RdI w v xs) (he : es.length ≤ 1048576) (hx : xs.length ≤ 1048576) :
    Calls Try.prog 13 #[u, v] w fun e w' => ∃ r, e = .returned r ∧ OwI w' w.heap.size r (substF es xs) ∧ Below w.heap.size w w' := by
  have HE := Lib.hid h
  have HX := Lib.hid h'
  obtain ⟨A, cap, rfl, hcap, hm, hr, _⟩ := h.arg
  obtain ⟨A', cap', rfl, hcap', hm', _, _⟩ := h'.arg
  have HR := Lib.hid hr
  clear h h' hr
  unfold maxLen at hm hm'
  by_cases h100 : es.length ≤ 100
  · have hd1 : (es.length : Int) ≤ 100 := by omega
    go_enter Try.func13, Try.ntmps13
    go_wp2
    go_loopw [5, 15] (fun out i wr => ∃ (k : Nat) (vs : List Value), k ≤ es.length ∧ i = .int .i64 k ∧ vs.length = k ∧ wr.ownsRow w.heap.size 24 1 out k vs ∧ (∀ j (h1 : j < es.length) (h2 : j < vs.length), RdI wr vs[j] (sub1 xs es[j])) ∧ Below w.heap.size w wr)
      (fun _ i _ => es.length - (intOf i).toNat)
    case atStart => exact ⟨0, [], Nat.zero_le _, rfl, rfl, rows_lit _ [] (by simp) (Nat.le_refl _), (fun j _ h => absurd h (by simp)), (Below.refl _ _).alloc (Nat.le_refl _) _⟩
    case round =>
      obtain ⟨k, vs, hk, rfl, hvl, hown, hrows, hbel⟩ := hrel
      have hsz := hbel.size
      have HV := Lib.hid hrows
      have HVL := Lib.hid hvl
      have HO := Lib.hid hown
      obtain ⟨A1, cap1, rfl, hcap1, hm1, _, _⟩ := owns_form hown
      clear hrows hown hvl
      by_cases hlt : k < es.length
      · have hltE : k < es.length := by omega
        obtain ⟨b, off, rfl, hbl, hc⟩ := (HE.out.below hbel).at (by omega)
        have hcell := hc k hltE
        have HI := Lib.hid (HR.out es[k] (by simp))
        have HONE := Lib.hid ((HE.out.below hbel).one hltE)
        have fin : ∀ (v2 z : Value) (w2 : World), w2.ownsRow w.heap.size 24 1 v2 (k + 1) (vs ++ [z]) → (∀ j (h1 : j < es.length) (h2 : j < vs.length), RdI w2 vs[j] (sub1 xs es[j])) → RdI w2 z (sub1 xs es[k]) → Below w.heap.size w w2 →
            ∃ (k' : Nat) (vs' : List Value), k' ≤ es.length ∧ (Value.int .i64 ((k : Int) + 1)) = .int .i64 (k' : Int) ∧ vs'.length = k' ∧ w2.ownsRow w.heap.size 24 1 v2 k' vs' ∧ (∀ j (h1 : j < es.length) (h2 : j < vs'.length), RdI w2 vs'[j] (sub1 xs es[j])) ∧ Below w.heap.size w w2 := by
          intro v2 z w2 h1 h2 h3 h4
          have hvl := HVL.out
          refine ⟨k + 1, vs ++ [z], by omega, by go_num, by simp [hvl], h1, fun j j1 j2 => ?_, h4⟩
          by_cases hj : j < vs.length
          · rw [List.getElem_append_left hj]
            exact h2 j j1 hj
          · have : j = k := by simp at j2; omega
            subst this
            rw [List.getElem_append_right (by omega)]
            simp only [hvl, Nat.sub_self, List.getElem_cons_zero]
            exact h3
        have FIN := Lib.hid fin
        clear fin hc
        generalize es[k] = e at hcell HI HONE FIN
        rcases e1 : (e == 9) with _ | _
        · rcases e2 : (e == -9) with _ | _
          · have F : Hid (sub1 xs e = [e]) := Lib.hid (by unfold sub1; rw [if_neg (by simpa using e1), if_neg (by simpa using e2)])
            go_wp2_with (at_builtin; refine push_row rfl (.tmp 21) (.tmp 27) rfl w.heap.size _ _ _ (HO.out.alloc _) rfl _ _ rfl (cell_new1 _ _ _) rfl (by omega) (by simp; omega) ?_; intro v2 w2 o2 g2 p2)
            have O2 := Lib.hid o2
            have G2 := Lib.hid g2
            clear o2 g2
            go_roundw
            case rel => exact FIN.out _ _ _ O2.out (fun j h1 h2 => ⟨((HV.out j h1 h2).1.alloc _).grown_ty (HO.out.alloc _) (by decide) G2.out, (HV.out j h1 h2).2⟩) (by rw [F.out]; exact ⟨(HONE.out.1.alloc _).grown_ty (HO.out.alloc _) (by decide) G2.out, HONE.out.2⟩) (bel_push hbel hsz HO.out (Nat.le_refl _) G2.out)
            case measure => simp [intOf]; omega
          · have F : Hid (sub1 xs e = invL xs) := Lib.hid (by unfold sub1; rw [if_neg (by simpa using e1), if_pos (by simpa using e2)])
            go_wp2_with fail
            refine (implInvertWord_any _ xs _ (HX.out.below hbel) (by omega)).mono ?_
            rintro e w1 ⟨r1, rfl, o1, b1⟩
            have O1 := Lib.hid o1
            have B1 := Lib.hid b1
            have hs1 := b1.size
            obtain ⟨A3, cap3, rfl, _⟩ := OwI.form o1
            clear o1 b1
            go_wp2_with (at_builtin; refine push_row rfl (.tmp 37) (.tmp 40) rfl w.heap.size _ _ _ ((ownsRow_below HO.out B1.out).alloc _) rfl _ _ rfl (cell_new1 _ _ _) rfl (by omega) (by simp; omega) ?_; intro v2 w2 o2 g2 p2)
            have O2 := Lib.hid o2
            have G2 := Lib.hid g2
            clear o2 g2
            go_roundw
            case rel => exact FIN.out _ _ _ O2.out (fun j h1 h2 => ⟨(((HV.out j h1 h2).below B1.out).1.alloc _).grown_ty ((ownsRow_below HO.out B1.out).alloc _) (by decide) G2.out, (HV.out j h1 h2).2⟩) (by rw [F.out]; exact ⟨(O1.out.rd.1.alloc _).grown_ty ((ownsRow_below HO.out B1.out).alloc _) (by decide) G2.out, O1.out.2⟩) (bel_push (hbel.trans (B1.out.mono hsz)) (by omega) (ownsRow_below HO.out B1.out) (Nat.le_refl _) G2.out)
            case measure => simp [intOf]; omega
        · have F : Hid (sub1 xs e = xs) := Lib.hid (by unfold sub1; rw [if_pos (by simpa using e1)])
          go_wp2_with (at_builtin; refine push_row rfl (.tmp 31) (.tmp 33) rfl w.heap.size _ _ _ (HO.out.alloc _) rfl _ _ rfl (cell_new1 _ _ _) rfl (by omega) (by simp; omega) ?_; intro v2 w2 o2 g2 p2)
          have O2 := Lib.hid o2
          have G2 := Lib.hid g2
          clear o2 g2
          go_roundw
          case rel => exact FIN.out _ _ _ O2.out (fun j h1 h2 => ⟨((HV.out j h1 h2).1.alloc _).grown_ty (HO.out.alloc _) (by decide) G2.out, (HV.out j h1 h2).2⟩) (by rw [F.out]; exact ⟨((HX.out.below hbel).1.alloc _).grown_ty (HO.out.alloc _) (by decide) G2.out, HX.out.2⟩) (bel_push hbel hsz HO.out (Nat.le_refl _) G2.out)
          case measure => simp [intOf]; omega
      · obtain rfl : k = es.length := by omega
        have hsub : Hid ((subL es xs).length = es.length ∧ ∀ j (h : j < (subL es xs).length) (h' : j < es.length), (subL es xs)[j] = sub1 xs es[j]) := Lib.hid ⟨by simp [subL]; omega, fun j h h' => by simp [subL]⟩
        go_wp2_with fail
        refine (product_any _ (subL es xs) _ ⟨vs, by rw [HVL.out, hsub.out.1], by have := RdV.of_own HO.out; rw [hsub.out.1]; exact this, fun j h1 h2 => by rw [hsub.out.2 j h1 (by have := hsub.out.1; omega)]; exact HV.out j (by have := hsub.out.1; omega) h2⟩ (Nat.le_trans (lenLL_subL es xs hx) (by omega)) (Nat.le_trans (subL_len es xs) (by omega))).mono ?_
        rintro e w1 ⟨r1, rfl, o1, b1⟩
        have O1 := Lib.hid o1
        have B1 := Lib.hid b1
        clear o1 b1
        go_wp2
        go_ret
        exact ⟨_, rfl, O1.out.mono hsz, hbel.trans (B1.out.mono hsz)⟩
  · have hd1 : ¬ (es.length : Int) ≤ 100 := by omega
    go_enter Try.func13, Try.ntmps13
    go_wp2
    go_loopw [5, 15] (fun out i wr => ∃ (k : Nat) (vs : List Value), k ≤ 100 ∧ i = .int .i64 k ∧ vs.length = k ∧ wr.ownsRow w.heap.size 24 1 out k vs ∧ (∀ j (h1 : j < es.length) (h2 : j < vs.length), RdI wr vs[j] (sub1 xs es[j])) ∧ Below w.heap.size w wr)
      (fun _ i _ => 100 - (intOf i).toNat)
    case atStart => exact ⟨0, [], Nat.zero_le _, rfl, rfl, rows_lit _ [] (by simp) (Nat.le_refl _), (fun j _ h => absurd h (by simp)), (Below.refl _ _).alloc (Nat.le_refl _) _⟩
    case round =>
      obtain ⟨k, vs, hk, rfl, hvl, hown, hrows, hbel⟩ := hrel
      have hsz := hbel.size
      have HV := Lib.hid hrows
      have HVL := Lib.hid hvl
      have HO := Lib.hid hown
      obtain ⟨A1, cap1, rfl, hcap1, hm1, _, _⟩ := owns_form hown
      clear hrows hown hvl
      by_cases hlt : k < 100
      · have hltE : k < es.length := by omega
        obtain ⟨b, off, rfl, hbl, hc⟩ := (HE.out.below hbel).at (by omega)
        have hcell := hc k hltE
        have HI := Lib.hid (HR.out es[k] (by simp))
        have HONE := Lib.hid ((HE.out.below hbel).one hltE)
        have fin : ∀ (v2 z : Value) (w2 : World), w2.ownsRow w.heap.size 24 1 v2 (k + 1) (vs ++ [z]) → (∀ j (h1 : j < es.length) (h2 : j < vs.length), RdI w2 vs[j] (sub1 xs es[j])) → RdI w2 z (sub1 xs es[k]) → Below w.heap.size w w2 →
            ∃ (k' : Nat) (vs' : List Value), k' ≤ 100 ∧ (Value.int .i64 ((k : Int) + 1)) = .int .i64 (k' : Int) ∧ vs'.length = k' ∧ w2.ownsRow w.heap.size 24 1 v2 k' vs' ∧ (∀ j (h1 : j < es.length) (h2 : j < vs'.length), RdI w2 vs'[j] (sub1 xs es[j])) ∧ Below w.heap.size w w2 := by
          intro v2 z w2 h1 h2 h3 h4
          have hvl := HVL.out
          refine ⟨k + 1, vs ++ [z], by omega, by go_num, by simp [hvl], h1, fun j j1 j2 => ?_, h4⟩
          by_cases hj : j < vs.length
          · rw [List.getElem_append_left hj]
            exact h2 j j1 hj
          · have : j = k := by simp at j2; omega
            subst this
            rw [List.getElem_append_right (by omega)]
            simp only [hvl, Nat.sub_self, List.getElem_cons_zero]
            exact h3
        have FIN := Lib.hid fin
        clear fin hc
        generalize es[k] = e at hcell HI HONE FIN
        rcases e1 : (e == 9) with _ | _
        · rcases e2 : (e == -9) with _ | _
          · have F : Hid (sub1 xs e = [e]) := Lib.hid (by unfold sub1; rw [if_neg (by simpa using e1), if_neg (by simpa using e2)])
            go_wp2_with (at_builtin; refine push_row rfl (.tmp 21) (.tmp 27) rfl w.heap.size _ _ _ (HO.out.alloc _) rfl _ _ rfl (cell_new1 _ _ _) rfl (by omega) (by simp; omega) ?_; intro v2 w2 o2 g2 p2)
            have O2 := Lib.hid o2
            have G2 := Lib.hid g2
            clear o2 g2
            go_roundw
            case rel => exact FIN.out _ _ _ O2.out (fun j h1 h2 => ⟨((HV.out j h1 h2).1.alloc _).grown_ty (HO.out.alloc _) (by decide) G2.out, (HV.out j h1 h2).2⟩) (by rw [F.out]; exact ⟨(HONE.out.1.alloc _).grown_ty (HO.out.alloc _) (by decide) G2.out, HONE.out.2⟩) (bel_push hbel hsz HO.out (Nat.le_refl _) G2.out)
            case measure => simp [intOf]; omega
          · have F : Hid (sub1 xs e = invL xs) := Lib.hid (by unfold sub1; rw [if_neg (by simpa using e1), if_pos (by simpa using e2)])
            go_wp2_with fail
            refine (implInvertWord_any _ xs _ (HX.out.below hbel) (by omega)).mono ?_
            rintro e w1 ⟨r1, rfl, o1, b1⟩
            have O1 := Lib.hid o1
            have B1 := Lib.hid b1
            have hs1 := b1.size
            obtain ⟨A3, cap3, rfl, _⟩ := OwI.form o1
            clear o1 b1
            go_wp2_with (at_builtin; refine push_row rfl (.tmp 37) (.tmp 40) rfl w.heap.size _ _ _ ((ownsRow_below HO.out B1.out).alloc _) rfl _ _ rfl (cell_new1 _ _ _) rfl (by omega) (by simp; omega) ?_; intro v2 w2 o2 g2 p2)
            have O2 := Lib.hid o2
            have G2 := Lib.hid g2
            clear o2 g2
            go_roundw
            case rel => exact FIN.out _ _ _ O2.out (fun j h1 h2 => ⟨(((HV.out j h1 h2).below B1.out).1.alloc _).grown_ty ((ownsRow_below HO.out B1.out).alloc _) (by decide) G2.out, (HV.out j h1 h2).2⟩) (by rw [F.out]; exact ⟨(O1.out.rd.1.alloc _).grown_ty ((ownsRow_below HO.out B1.out).alloc _) (by decide) G2.out, O1.out.2⟩) (bel_push (hbel.trans (B1.out.mono hsz)) (by omega) (ownsRow_below HO.out B1.out) (Nat.le_refl _) G2.out)
            case measure => simp [intOf]; omega
        · have F : Hid (sub1 xs e = xs) := Lib.hid (by unfold sub1; rw [if_pos (by simpa using e1)])
          go_wp2_with (at_builtin; refine push_row rfl (.tmp 31) (.tmp 33) rfl w.heap.size _ _ _ (HO.out.alloc _) rfl _ _ rfl (cell_new1 _ _ _) rfl (by omega) (by simp; omega) ?_; intro v2 w2 o2 g2 p2)
          have O2 := Lib.hid o2
          have G2 := Lib.hid g2
          clear o2 g2
          go_roundw
          case rel => exact FIN.out _ _ _ O2.out (fun j h1 h2 => ⟨((HV.out j h1 h2).1.alloc _).grown_ty (HO.out.alloc _) (by decide) G2.out, (HV.out j h1 h2).2⟩) (by rw [F.out]; exact ⟨((HX.out.below hbel).1.alloc _).grown_ty (HO.out.alloc _) (by decide) G2.out, HX.out.2⟩) (bel_push hbel hsz HO.out (Nat.le_refl _) G2.out)
          case measure => simp [intOf]; omega
      · obtain rfl : k = 100 := by omega
        have hsub : Hid ((subL es xs).length = 100 ∧ ∀ j (h : j < (subL es xs).length) (h' : j < es.length), (subL es xs)[j] = sub1 xs es[j]) := Lib.hid ⟨by simp [subL]; omega, fun j h h' => by simp [subL]⟩
        go_wp2_with fail
        refine (product_any _ (subL es xs) _ ⟨vs, by rw [HVL.out, hsub.out.1], by have := RdV.of_own HO.out; rw [hsub.out.1]; exact this, fun j h1 h2 => by rw [hsub.out.2 j h1 (by have := hsub.out.1; omega)]; exact HV.out j (by have := hsub.out.1; omega) h2⟩ (Nat.le_trans (lenLL_subL es xs hx) (by omega)) (Nat.le_trans (subL_len es xs) (by omega))).mono ?_
        rintro e w1 ⟨r1, rfl, o1, b1⟩
        have O1 := Lib.hid o1
        have B1 := Lib.hid b1
        clear o1 b1
        go_wp2
        go_ret
        exact ⟨_, rfl, O1.out.mono hsz, hbel.trans (B1.out.mono hsz)⟩
end Go.Proofs.Ytgoghkboklehnaa
