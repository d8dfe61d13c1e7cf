/- The cyclic core, of the reference and of the program. -/
import Derived.Test.YtnmkbkpegkchpaaCycP
import Derived.Test.YtnmkbkpegkchpaaCpy
import Derived.Test.YtnmkbkpegkchpaaProd
import Derived.Test.YtnmkbkpegkchpaaParts
import Derived.Deep.RegionHeld3
import Derived.Outline
namespace Go.Proofs.Ytnmkbkpegkchpaa
set_option maxRecDepth 20000
set_option linter.unusedVariables false
set_option linter.unusedSimpArgs false
open Go.RowKit

theorem one_rd {w : World} {u : Value} {xs : List Int} (h : RdI w u xs) : RdII (w.alloc (.cells #[u] 27)) (.slice (some ⟨w.heap.size, 0, none⟩) 1 1) [xs] :=
  (PartsL.lit w [u] [xs] rfl (fun i h1 h2 => by
    match i, h1, h2 with
    | 0, _, _ => exact h) (by simp) (Nat.le_refl _)).rd
set_option maxHeartbeats 400000 in
theorem implReduceLetters_any (v : Value) (xs : List Int) (w : World) (h : RdI w v xs) (hl : xs.length ≤ 536870912) :
    Calls Try.prog 80 #[v] w fun e w' => ∃ r, e = .returned r ∧ OwI w' w.heap.size r (redL [] xs) ∧ Below w.heap.size w w' := by
  have H := Lib.hid h
  obtain ⟨A, cap, rfl, _⟩ := h.arg
  clear h
  go_enter Try.func80, Try.ntmps80
  go_wp2_with (go_at_call 69; refine (product_any _ [xs] _ (one_rd H.out) (by simp [lenLL]; omega) (by simp)).mono ?_; rintro e w1 ⟨r1, rfl, o1, b1⟩; have O1 := Lib.hid o1; have B1 := Lib.hid b1; clear o1 b1)
  go_ret
  exact ⟨_, rfl, by have := O1.out.mono (base' := w.heap.size) (by simp); simpa [redLL] using this, (by repeat (first | exact Below.refl _ _ | (refine Below.setCell ?_ (by first | omega | (simp <;> omega)) _) | (refine bel_drewN ?_ _) | (refine Below.drew ?_) | (refine Below.alloc ?_ (by first | omega | (simp <;> omega)) _) | (refine Below.trans ?_ (Below.mono (Hid.out B1) (by first | omega | (simp <;> omega))))))⟩
theorem OwI.form2 {w : World} {base : Nat} {v : Value} {xs : List Int} (h : OwI w base v xs) : (v = .slice none 0 0 ∧ xs = []) ∨ ∃ g cap, v = .slice (some ⟨g, 0, none⟩) xs.length cap ∧ xs.length ≤ cap ∧ cap ≤ maxLen ∧ base ≤ g ∧ g < w.heap.size := by
  rcases h.1.2 with ⟨hv, hn⟩ | ⟨g, cap, cur, hv, hg, hh, hnc, hcm, _⟩
  · exact .inl ⟨hv, List.eq_nil_of_length_eq_zero hn⟩
  · exact .inr ⟨g, cap, hv, hnc, hcm, hg, lt_of_heap hh⟩
theorem core_rd {W : World} {g cap : Nat} {c : List Int} {k : Nat} (h : RdI W (.slice (some ⟨g, 0, none⟩) c.length cap) c) (hk : 2 * k ≤ c.length) (hcp : ¬ cap = k) :
    RdI W (.slice (some ⟨g, k, none⟩) (c.length - k - k) (cap - k)) ((c.take (c.length - k)).drop k) := by
  have h1 := h.head (k := c.length - k) rfl (by omega)
  have e : (c.take (c.length - k)).length = c.length - k := by simp
  have h2 := RdI.cut (k := k) (A := some ⟨g, 0, none⟩) (cap := cap) h1 (by rw [e]) (by rw [e]; omega)
  rw [if_neg hcp, e] at h2
  simpa [Addr.add_lit] using h2
set_option maxHeartbeats 1000000 in
theorem implCyclicCore_any (v : Value) (xs : List Int) (w : World) (h : RdI w v xs) (hl : xs.length ≤ 536870912) :
    Calls Try.prog 66 #[v] w fun e w' => ∃ r s, e = .returned (.tuple #[r, s]) ∧ OwI w' w.heap.size r (coreF xs) ∧ RdI w' s (prefF xs) ∧ Below w.heap.size w w' := by
  have H := Lib.hid h
  obtain ⟨A, cap, rfl, _⟩ := h.arg
  clear h
  have hcl : (redL [] xs).length ≤ 536870912 := by have := redL_len [] xs; simp only [List.length_nil] at this; omega
  have F1 : Hid (coreF xs = coreC (redL [] xs)) := Lib.hid rfl
  have F2 : Hid (prefF xs = (redL [] xs).take (stripN (redL [] xs))) := Lib.hid rfl
  go_enter Try.func66, Try.ntmps66
  go_wp2_with fail
  refine (implReduceLetters_any _ xs _ H.out hl).mono ?_
  rintro e w1 ⟨r1, rfl, o1, b1⟩
  have O1 := Lib.hid o1
  have B1 := Lib.hid b1
  clear o1 b1
  generalize redL [] xs = c at *
  have hs1 := B1.out.size
  rcases O1.out.form2 with ⟨rfl, rfl⟩ | ⟨g, cap1, rfl, hcap1, hm1, hg1, hg2⟩
  · have hz : RdI w1 (.slice none 0 0) [] := O1.out.rd
    have HZ := Lib.hid hz.drew
    have BB := Lib.hid B1.out.drew
    go_wp2_with fail
    refine wp_loop_rounds 1 ?_
    rw [rounds_succ]
    go_wp2_with fail
    go_quiet (fail)
    go_wp2_with fail
    replace HZ := Lib.hid (hz.drewN nq).drew
    replace BB := Lib.hid (bel_drewN B1.out nq).drew
    generalize w1.drewN nq = wa at HZ BB ⊢
    have HSZ := Lib.hid BB.out.size
    go_region_held3 (fun w' => True) (go_keep)
      (first | (go_at_call 31; (with_reducible refine (copyInts_any (.slice none 0 0) [] _ HZ.out (by simp)).mono ?_); rintro e w2 ⟨r1, rfl, o1, b1⟩; (first | (replace OA := Lib.hid (OA.out.below b1); have OB := Lib.hid o1) | have OA := Lib.hid o1); replace HZ := Lib.hid (HZ.out.below b1); replace BB := Lib.hid (BB.out.trans (b1.mono BB.out.size)); clear o1 b1))
    go_wp2
    go_ret2
    exact ⟨_, _, rfl, by rw [F1.out]; exact OA.out.mono HSZ.out, by rw [F2.out]; exact OB.out.rd, BB.out⟩
  unfold maxLen at hm1
  go_wp2_with fail
  go_loopw [5, 6] (fun f t wr => ∃ k : Nat, 2 * k ≤ c.length ∧ f = .int .i64 k ∧ t = .int .i64 ((c.length : Int) - (k : Int)) ∧ stripGo c (c.length - k) k = stripN c ∧ ∃ n, wr = w1.drewN n)
    (fun f _ _ => c.length - (intOf f).toNat)
  case atStart => exact ⟨0, by omega, rfl, by simp, rfl, 0, rfl⟩
  case round =>
    obtain ⟨k, hk, rfl, rfl, hst, n, rfl⟩ := hrel
    have HST := Lib.hid hst
    clear hst
    have fin : stripN c = k → coreC c = (c.take (c.length - k)).drop k ∧ c.take (stripN c) = c.take k := fun e => by
      unfold coreC; rw [e]; exact ⟨rfl, rfl⟩
    have FIN := Lib.hid fin
    have h0k : (0 : Int) ≤ (k : Int) := by omega
    have hkc : (k : Int) ≤ (cap1 : Int) := by omega
    have hkc2 : (k : Int) ≤ (c.length : Int) - (k : Int) := by omega
    have hkc3 : (c.length : Int) - (k : Int) ≤ (cap1 : Int) := by omega
    have hn1 : ((c.length : Int) - (k : Int)).toNat = c.length - k := by omega
    clear fin
    by_cases h2 : 2 * k + 2 ≤ c.length
    · obtain ⟨b, off, hA, hbl, hc⟩ := O1.out.rd.at (by omega)
      obtain ⟨rfl, rfl⟩ : g = b ∧ 0 = off := by simpa using hA
      have hcell := hc k (by omega)
      have hcell' := hc (c.length - 1 - k) (by omega)
      rw [Nat.zero_add] at hcell hcell'
      have hx1 : c.getD k 0 = c[k] := by simp [List.getD, show k < c.length by omega]
      have hx2 : c.getD (c.length - 1 - k) 0 = c[c.length - 1 - k] := by simp [List.getD, show c.length - 1 - k < c.length by omega]
      have HGO : Hid (invB c[k] c[c.length - 1 - k] = true → stripGo c (c.length - (k + 1)) (k + 1) = stripN c) := Lib.hid fun e => strip_at HST.out h2 (by rw [hx1, hx2]; exact e)
      have HNO : Hid (invB c[k] c[c.length - 1 - k] = false → stripN c = k) := Lib.hid fun e => strip_stop HST.out (by rintro ⟨_, e'⟩; rw [hx1, hx2, e] at e'; cases e')
      have HI := Lib.hid (O1.out.2 c[k] (by simp))
      have hg1 : decide ((2 : Int) ≤ (c.length : Int) - (k : Int) - (k : Int)) = true := by simp; omega
      have hi1 : ((c.length : Int) - (k : Int) - 1).toNat = c.length - 1 - k := by omega
      clear hc hx1 hx2 hA
      generalize c[k] = x at hcell HGO HNO HI
      generalize c[c.length - 1 - k] = y at hcell' HGO HNO
      rcases hiv : invB x y with _ | _
      · have HAI : Hid (∀ W : World, Calls Try.prog 62 #[.int .i64 x, .int .i64 y] W fun e w' => e = .returned (.bool false) ∧ W = w') := Lib.hid fun W => by have := areInverse_any x y W HI.out; rw [hiv] at this; exact this
        have HK := Lib.hid (HNO.out hiv)
        clear hiv
        go_wp2
        go_quiet ((go_at_call 62; first | exact quiet_left (HAI.out _) | exact quiet_add_left (HAI.out _)))
        go_wp2
        have hcp : ¬ cap1 = k := by omega
        have HC := Lib.hid ((core_rd O1.out.rd hk hcp).drewN (n + nq)).drew
        have HD := Lib.hid ((O1.out.rd.head (k := k) rfl (by omega)).drewN (n + nq)).drew
        have BB := Lib.hid (bel_drewN B1.out (n + nq)).drew
        rw [World.drewN_drewN]
        generalize w1.drewN (n + nq) = wa at HC HD BB ⊢
        have HSZ := Lib.hid BB.out.size
        go_region_held3 (fun w' => True) (go_keep)
          (first
          | (go_at_call 31; (with_reducible refine (copyInts_any (.slice (some ⟨g, k, none⟩) (c.length - k - k) (cap1 - k)) _ _ HC.out (by simp; omega)).mono ?_); rintro e w2 ⟨r1, rfl, o1, b1⟩; have OA := Lib.hid o1; replace HD := Lib.hid (HD.out.below b1); replace BB := Lib.hid (BB.out.trans (b1.mono BB.out.size)); clear o1 b1)
          | (go_at_call 31; (with_reducible refine (copyInts_any (.slice (some ⟨g, 0, none⟩) k cap1) _ _ HD.out (by simp; omega)).mono ?_); rintro e w2 ⟨r1, rfl, o1, b1⟩; have OB := Lib.hid o1; replace OA := Lib.hid (OA.out.below b1); replace BB := Lib.hid (BB.out.trans (b1.mono BB.out.size)); clear o1 b1))
        go_wp2
        go_ret2
        refine ⟨_, _, rfl, ?_, ?_, BB.out⟩
        · rw [F1.out, (FIN.out HK.out).1]; exact OA.out.mono HSZ.out
        · rw [F2.out, (FIN.out HK.out).2]; exact OB.out.rd
      · have HAI : Hid (∀ W : World, Calls Try.prog 62 #[.int .i64 x, .int .i64 y] W fun e w' => e = .returned (.bool true) ∧ W = w') := Lib.hid fun W => by have := areInverse_any x y W HI.out; rw [hiv] at this; exact this
        have HK := Lib.hid (HGO.out hiv)
        clear hiv
        go_wp2
        go_quiet ((go_at_call 62; first | exact quiet_left (HAI.out _) | exact quiet_add_left (HAI.out _)))
        go_wp2
        go_roundw
        case rel => exact ⟨k + 1, by omega, by go_num, by congr 1; omega, HK.out, _, rfl⟩
        case measure => simp [intOf]; omega
    · have hg1 : decide ((2 : Int) ≤ (c.length : Int) - (k : Int) - (k : Int)) = false := by simp; omega
      have HK := Lib.hid (strip_stop HST.out (fun h => h2 h.1))
      go_wp2
      go_quiet (fail)
      go_wp2
      rcases hcq : decide (cap1 = k) with _ | _
      · have hcp : ¬ cap1 = k := by simpa using hcq
        have HC := Lib.hid ((core_rd O1.out.rd hk hcp).drewN (n + nq)).drew
        have HD := Lib.hid ((O1.out.rd.head (k := k) rfl (by omega)).drewN (n + nq)).drew
        have BB := Lib.hid (bel_drewN B1.out (n + nq)).drew
        rw [World.drewN_drewN]
        generalize w1.drewN (n + nq) = wa at HC HD BB ⊢
        have HSZ := Lib.hid BB.out.size
        go_region_held3 (fun w' => True) (go_keep)
          (first
          | (go_at_call 31; (with_reducible refine (copyInts_any (.slice (some ⟨g, k, none⟩) (c.length - k - k) (cap1 - k)) _ _ HC.out (by simp; omega)).mono ?_); rintro e w2 ⟨r1, rfl, o1, b1⟩; have OA := Lib.hid o1; replace HD := Lib.hid (HD.out.below b1); replace BB := Lib.hid (BB.out.trans (b1.mono BB.out.size)); clear o1 b1)
          | (go_at_call 31; (with_reducible refine (copyInts_any (.slice (some ⟨g, 0, none⟩) k cap1) _ _ HD.out (by simp; omega)).mono ?_); rintro e w2 ⟨r1, rfl, o1, b1⟩; have OB := Lib.hid o1; replace OA := Lib.hid (OA.out.below b1); replace BB := Lib.hid (BB.out.trans (b1.mono BB.out.size)); clear o1 b1))
        go_wp2
        go_ret2
        refine ⟨_, _, rfl, ?_, ?_, BB.out⟩
        · rw [F1.out, (FIN.out HK.out).1]; exact OA.out.mono HSZ.out
        · rw [F2.out, (FIN.out HK.out).2]; exact OB.out.rd
      · obtain rfl : cap1 = k := by simpa using hcq
        obtain rfl : cap1 = 0 := by omega
        obtain rfl : c = [] := List.eq_nil_of_length_eq_zero (by omega)
        have HZ : Hid (RdI (w1.drewN (n + nq)).drew (.slice (some ⟨g, 0, none⟩) 0 0) []) := Lib.hid (O1.out.rd.drewN (n + nq)).drew
        have BB := Lib.hid (bel_drewN B1.out (n + nq)).drew
        rw [World.drewN_drewN]
        generalize w1.drewN (n + nq) = wa at HZ BB ⊢
        have HSZ := Lib.hid BB.out.size
        go_region_held3 (fun w' => True) (go_keep)
          (first | (go_at_call 31; (with_reducible refine (copyInts_any (.slice (some ⟨g, 0, none⟩) 0 0) [] _ HZ.out (by simp)).mono ?_); rintro e w2 ⟨r1, rfl, o1, b1⟩; (first | (replace OA := Lib.hid (OA.out.below b1); have OB := Lib.hid o1) | have OA := Lib.hid o1); replace HZ := Lib.hid (HZ.out.below b1); replace BB := Lib.hid (BB.out.trans (b1.mono BB.out.size)); clear o1 b1))
        go_wp2
        go_ret2
        exact ⟨_, _, rfl, by rw [F1.out]; exact OA.out.mono HSZ.out, by rw [F2.out]; exact OB.out.rd, BB.out⟩
def slLen : Value → Nat
  | .slice _ n _ => n
  | _ => 0
theorem invB_core {x y : Int} (hx : I64 x) (hy : I64 y) : invB x y = ((x == wrap64 (-y)) && (x != wrap64 (-x))) := by
  have hw : wrap64 (- -9223372036854775808) = -9223372036854775808 := by decide +kernel
  have hx' := hx
  have hy' := hy
  unfold I64 at hx' hy'
  unfold invB
  by_cases h1 : x = -9223372036854775808
  · subst h1; rw [hw]; simp
  · by_cases h2 : y = -9223372036854775808
    · subst h2; rw [hw, Bool.eq_iff_iff]; simp; omega
    · rw [I64.neg hx h1, I64.neg hy h2, Bool.eq_iff_iff]; simp; omega
theorem RdI_none (w : World) (a : Addr) (c : Nat) (hc : c ≤ maxLen) : RdI w (.slice (some a) 0 c) [] :=
  ⟨⟨rfl, some a, c, rfl, Nat.zero_le _, hc, (fun h => by cases h), fun h => absurd h (by simp)⟩, I64s_nil⟩
theorem core_rd2 {W : World} {g cap : Nat} {c : List Int} {k m cp : Nat} (h : RdI W (.slice (some ⟨g, 0, none⟩) c.length cap) c) (hm : m + 2 * k = c.length) (hc : cp + k = cap) (hcm : cap ≤ maxLen) :
    RdI W (.slice (some ⟨g, k, none⟩) m cp) ((c.take (c.length - k)).drop k) := by
  by_cases h0 : m = 0
  · subst h0
    have : (c.take (c.length - k)).drop k = [] := List.eq_nil_of_length_eq_zero (by simp; omega)
    rw [this]
    exact RdI_none _ _ _ (by omega)
  · obtain ⟨A', cap', hv, hle, _⟩ := h.1.cell
    injection hv with e1 e2 e3
    have := core_rd h (k := k) (by omega) (by omega)
    rw [show c.length - k - k = m by omega, show cap - k = cp by omega] at this
    exact this
set_option maxHeartbeats 1000000 in
theorem specCyclicCore_any (v : Value) (xs : List Int) (w : World) (h : RdI w v xs) (hl : xs.length ≤ 536870912) :
    Calls Try.prog 56 #[v] w fun e w' => ∃ r s, e = .returned (.tuple #[r, s]) ∧ OwI w' w.heap.size r (coreF xs) ∧ RdI w' s (prefF xs) ∧ Below w.heap.size w w' := by
  have H := Lib.hid h
  obtain ⟨A, cap, rfl, _⟩ := h.arg
  clear h
  have hcl : (redL [] xs).length ≤ 536870912 := by have := redL_len [] xs; simp only [List.length_nil] at this; omega
  have F1 : Hid (coreF xs = coreC (redL [] xs)) := Lib.hid rfl
  have F2 : Hid (prefF xs = (redL [] xs).take (stripN (redL [] xs))) := Lib.hid rfl
  go_enter Try.func56, Try.ntmps56
  go_wp2_with fail
  refine (specReduceLetters_any _ xs _ H.out (by omega)).mono ?_
  rintro e w1 ⟨r1, rfl, o1, b1⟩
  have O1 := Lib.hid o1
  have B1 := Lib.hid b1
  clear o1 b1
  generalize redL [] xs = c at *
  have hs1 := B1.out.size
  rcases O1.out.form2 with ⟨rfl, rfl⟩ | ⟨g, cap1, rfl, hcap1, hm1, hg1, hg2⟩
  · clear O1
    go_wp2_with fail
    refine wp_loop_rounds 1 ?_
    rw [rounds_succ]
    go_wp2_with fail
    go_quiet (fail)
    have hbw : Below w.heap.size w ((w1.alloc (Obj.cells #[] 3)).drewN nq) := bel_drewN (B1.out.alloc hs1 _) nq
    have hob : OwI ((w1.alloc (Obj.cells #[] 3)).drewN nq) w.heap.size (.slice (some ⟨w1.heap.size, 0, none⟩) 0 0) [] := (OwI_lit w1 [] I64s_nil (by simp) hs1).drewN nq
    have HBW := Lib.hid hbw
    have HOB := Lib.hid hob.rd
    have hsz9 := hbw.size
    have hnil : RdI ((w1.alloc (Obj.cells #[] 3)).drewN nq) (.slice none 0 0) [] := ⟨⟨rfl, none, 0, rfl, Nat.le_refl _, by unfold maxLen; omega, fun _ => rfl, fun h => absurd h (by simp)⟩, I64s_nil⟩
    have HNL := Lib.hid hnil
    clear hbw hob hnil
    generalize (w1.alloc (Obj.cells #[] 3)).drewN nq = w9 at HBW HOB HNL hsz9 ⊢
    go_wp2_with (at_builtin; refine append_ints rfl (.tmp 46) (.tmp 47) rfl w.heap.size _ [] (OwI_lit w9 [] I64s_nil (by simp) hsz9) rfl _ _ (HNL.out.alloc _) rfl (by simp) (by simp; omega) ?_; intro v4 w4 o4 g4 p4; have O4 := Lib.hid o4; have B4 : Hid (Below w9.heap.size w9 w4) := Lib.hid (((Below.refl _ _).alloc (Nat.le_refl _) _).grown g4 (by simp) (fun j hj => by simp [Value.ownBlock] at hj; omega)); clear o4 g4 p4)
    go_ret2
    exact ⟨_, _, rfl, by rw [F1.out]; exact O4.out, by rw [F2.out]; exact HOB.out.below B4.out, HBW.out.trans (B4.out.mono hsz9)⟩
  have HM1 := Lib.hid hm1
  unfold maxLen at hm1
  go_wp2_with fail
  go_loopw [4, 5] (fun x p wr => ∃ k m cp : Nat, m + 2 * k = c.length ∧ cp + k = cap1 ∧ x = .slice (some ⟨g, k, none⟩) m cp ∧ OwI wr w1.heap.size p (c.take k) ∧ stripGo c (c.length - k) k = stripN c ∧ Below w1.heap.size w1 wr)
    (fun x _ _ => slLen x)
  case atStart => exact ⟨0, c.length, cap1, by omega, by omega, rfl, OwI_lit w1 [] I64s_nil (by simp) (Nat.le_refl _), rfl, (Below.refl _ _).alloc (Nat.le_refl _) _⟩
  case round =>
    obtain ⟨k, m, cp, hm2, hcp2, rfl, hp, hst, hbel⟩ := hrel
    have HST := Lib.hid hst
    have HB := Lib.hid hbel
    have hsz := hbel.size
    have HM2 := Lib.hid hm2
    have HCP2 := Lib.hid hcp2
    have hk1 : k ≤ c.length := by omega
    have hcp3 : m ≤ cp := by omega
    have hcp4 : cp ≤ 2 ^ 63 - 1 := by omega
    have hml : m ≤ 536870912 := by omega
    have fin : stripN c = k → coreC c = (c.take (c.length - k)).drop k ∧ c.take (stripN c) = c.take k := fun e => by
      unfold coreC; rw [e]; exact ⟨rfl, rfl⟩
    have FIN := Lib.hid fin
    have HC := Lib.hid (core_rd2 (O1.out.rd.below hbel) hm2 hcp2 HM1.out)
    have hpl : (c.take k).length ≤ 536870912 := by simp; omega
    have HP := Lib.hid hp
    have hcpx : ¬ cp = 1 ∨ m ≤ 1 := by omega
    have HTK : Hid (∀ h : k < c.length, c.take (k + 1) = c.take k ++ [c[k]]) := Lib.hid fun h => List.take_succ_eq_append_getElem h
    by_cases h2 : 2 ≤ m
    · obtain ⟨b, off, hA, hbl, hc⟩ := (O1.out.rd.below hbel).at (by omega)
      obtain ⟨rfl, rfl⟩ : g = b ∧ 0 = off := by simpa using hA
      have hcell := hc k (by omega)
      have hcell' := hc (k + (m - 1)) (by omega)
      rw [Nat.zero_add] at hcell hcell'
      have hx1 : c.getD k 0 = c[k] := by simp [List.getD, show k < c.length by omega]
      have hx2 : c.getD (c.length - 1 - k) 0 = c[k + (m - 1)] := by rw [show c.length - 1 - k = k + (m - 1) by omega]; simp [List.getD, show k + (m - 1) < c.length by omega]
      have HGO : Hid (invB c[k] c[k + (m - 1)] = true → stripGo c (c.length - (k + 1)) (k + 1) = stripN c) := Lib.hid fun e => strip_at HST.out (by omega) (by rw [hx1, hx2]; exact e)
      have HNO : Hid (invB c[k] c[k + (m - 1)] = false → stripN c = k) := Lib.hid fun e => strip_stop HST.out (by rintro ⟨_, e'⟩; rw [hx1, hx2, e] at e'; cases e')
      have HI := Lib.hid (O1.out.2 c[k] (by simp))
      have HI' := Lib.hid (O1.out.2 c[k + (m - 1)] (by simp))
      have HTK2 := Lib.hid (HTK.out (by omega))
      have hg1 : decide ((1 : Int) < (m : Int)) = true := by simp; omega
      have hcp5 : ¬ cp = 1 := by omega
      clear hc hx1 hx2 hA fin hp hst hbel hcpx HTK
      generalize c[k] = x at hcell HGO HNO HI HTK2
      generalize c[k + (m - 1)] = y at hcell' HGO HNO HI'
      have HCO := Lib.hid (invB_core HI.out HI'.out)
      generalize c.take k = acc at HP hpl HTK2 FIN
      clear hm2 hcp2
      obtain ⟨A3, cap3, rfl, _⟩ := OwI.form HP.out
      rcases e1 : (x == wrap64 (-y)) with _ | _
      · have HK := Lib.hid (HNO.out (by rw [HCO.out, e1]; rfl))
        go_wp2
        go_quiet (fail)
        have HO9 := Lib.hid (HC.out.drewN nq)
        obtain ⟨A9, c9, hv9, hle9, _⟩ := HC.out.1.cell
        clear hv9 hle9
        have hw9 : Hid (Below w.heap.size w (wr.drewN nq)) := Lib.hid (bel_drewN (B1.out.trans (HB.out.mono hs1)) nq)
        have HP9 := Lib.hid (HP.out.rd.drewN nq)
        have hsz9 : w.heap.size ≤ (wr.drewN nq).heap.size := hw9.out.size
        have hlc : ((c.take (c.length - k)).drop k).length ≤ 536870912 := by simp; omega
        have F3 := Lib.hid (FIN.out HK.out)
        generalize (c.take (c.length - k)).drop k = core at HO9 hlc F3 HC
        generalize wr.drewN nq = w9 at HO9 HP9 hw9 hsz9 ⊢
        go_wp2_with (at_builtin; refine append_ints rfl (.tmp 46) (.tmp 47) rfl w.heap.size _ [] (OwI_lit w9 [] I64s_nil (by simp) hsz9) rfl _ _ (HO9.out.alloc _) rfl (by simp only [List.length_nil]; omega) (by simp; omega) ?_; intro v4 w4 o4 g4 p4; have O4 := Lib.hid o4; have B4 : Hid (Below w9.heap.size w9 w4) := Lib.hid (((Below.refl _ _).alloc (Nat.le_refl _) _).grown g4 (by simp) (fun j hj => by simp [Value.ownBlock] at hj; omega)); clear o4 g4 p4)
        go_ret2
        exact ⟨_, _, rfl, by rw [F1.out, F3.out.1]; exact O4.out, by rw [F2.out, F3.out.2]; exact HP9.out.below B4.out, hw9.out.trans (B4.out.mono hsz9)⟩
      · rcases e2 : (x != wrap64 (-x)) with _ | _
        · have HK := Lib.hid (HNO.out (by rw [HCO.out, e1, e2]; rfl))
          go_wp2
          go_quiet (fail)
          have HO9 := Lib.hid (HC.out.drewN nq)
          obtain ⟨A9, c9, hv9, hle9, _⟩ := HC.out.1.cell
          clear hv9 hle9
          have hw9 : Hid (Below w.heap.size w (wr.drewN nq)) := Lib.hid (bel_drewN (B1.out.trans (HB.out.mono hs1)) nq)
          have HP9 := Lib.hid (HP.out.rd.drewN nq)
          have hsz9 : w.heap.size ≤ (wr.drewN nq).heap.size := hw9.out.size
          have hlc : ((c.take (c.length - k)).drop k).length ≤ 536870912 := by simp; omega
          have F3 := Lib.hid (FIN.out HK.out)
          generalize (c.take (c.length - k)).drop k = core at HO9 hlc F3 HC
          generalize wr.drewN nq = w9 at HO9 HP9 hw9 hsz9 ⊢
          go_wp2_with (at_builtin; refine append_ints rfl (.tmp 46) (.tmp 47) rfl w.heap.size _ [] (OwI_lit w9 [] I64s_nil (by simp) hsz9) rfl _ _ (HO9.out.alloc _) rfl (by simp only [List.length_nil]; omega) (by simp; omega) ?_; intro v4 w4 o4 g4 p4; have O4 := Lib.hid o4; have B4 : Hid (Below w9.heap.size w9 w4) := Lib.hid (((Below.refl _ _).alloc (Nat.le_refl _) _).grown g4 (by simp) (fun j hj => by simp [Value.ownBlock] at hj; omega)); clear o4 g4 p4)
          go_ret2
          exact ⟨_, _, rfl, by rw [F1.out, F3.out.1]; exact O4.out, by rw [F2.out, F3.out.2]; exact HP9.out.below B4.out, hw9.out.trans (B4.out.mono hsz9)⟩
        · have HK := Lib.hid (HGO.out (by rw [HCO.out, e1, e2]; rfl))
          go_wp2
          go_quiet (fail)
          have hcell9 : (wr.drewN nq).cell? ⟨g, k, none⟩ = some (.int .i64 x) := hcell
          have HP9 := Lib.hid (HP.out.drewN nq)
          have HB9 := Lib.hid (bel_drewN HB.out nq)
          have hsz9 := HB9.out.size
          have hm2 := HM2.out
          have hcp2 := HCP2.out
          clear hcell
          generalize wr.drewN nq = w9 at hcell9 HP9 HB9 hsz9 ⊢
          go_wp2_with (at_builtin; refine push_int rfl (.tmp 35) (.tmp 39) rfl _ _ _ (OwI.alloc HP9.out _) rfl _ _ rfl (cell_new1 _ _ _) HI.out (by first | omega | (simp <;> omega)) (by first | omega | (simp <;> omega)) ?_; intro v1 wv1 o1 g1 p1)
          go_roundw
          case rel =>
            refine ⟨k + 1, m - 2, cp - 1, by omega, by omega, ?_, by rw [HTK2.out]; exact o1, HK.out, bel_push HB9.out hsz9 HP9.out.1 (Nat.le_refl _) g1⟩
            rw [Nat.sub_sub]
          case measure => simp [slLen]; omega
    · have hg1 : decide ((1 : Int) < (m : Int)) = false := by simp; omega
      have HK := Lib.hid (strip_stop HST.out (fun h => h2 (by omega)))
      generalize c.take k = acc at HP hpl HTK FIN
      obtain ⟨A3, cap3, rfl, _⟩ := OwI.form HP.out
      clear hm2 hcp2 fin hp hst hbel hcpx HTK
      · go_wp2
        go_quiet (fail)
        have HO9 := Lib.hid (HC.out.drewN nq)
        obtain ⟨A9, c9, hv9, hle9, _⟩ := HC.out.1.cell
        clear hv9 hle9
        have hw9 : Hid (Below w.heap.size w (wr.drewN nq)) := Lib.hid (bel_drewN (B1.out.trans (HB.out.mono hs1)) nq)
        have HP9 := Lib.hid (HP.out.rd.drewN nq)
        have hsz9 : w.heap.size ≤ (wr.drewN nq).heap.size := hw9.out.size
        have hlc : ((c.take (c.length - k)).drop k).length ≤ 536870912 := by simp; omega
        have F3 := Lib.hid (FIN.out HK.out)
        generalize (c.take (c.length - k)).drop k = core at HO9 hlc F3 HC
        generalize wr.drewN nq = w9 at HO9 HP9 hw9 hsz9 ⊢
        go_wp2_with (at_builtin; refine append_ints rfl (.tmp 46) (.tmp 47) rfl w.heap.size _ [] (OwI_lit w9 [] I64s_nil (by simp) hsz9) rfl _ _ (HO9.out.alloc _) rfl (by simp only [List.length_nil]; omega) (by simp; omega) ?_; intro v4 w4 o4 g4 p4; have O4 := Lib.hid o4; have B4 : Hid (Below w9.heap.size w9 w4) := Lib.hid (((Below.refl _ _).alloc (Nat.le_refl _) _).grown g4 (by simp) (fun j hj => by simp [Value.ownBlock] at hj; omega)); clear o4 g4 p4)
        go_ret2
        exact ⟨_, _, rfl, by rw [F1.out, F3.out.1]; exact O4.out, by rw [F2.out, F3.out.2]; exact HP9.out.below B4.out, hw9.out.trans (B4.out.mono hsz9)⟩
end Go.Proofs.Ytnmkbkpegkchpaa
