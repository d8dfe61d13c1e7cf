/- MultiplyWords; SolveSingle of the reference and of the program. -/
import Derived.Test.YtgoghkboklehnaaEqP
import Derived.Test.YtgoghkboklehnaaProd
import Derived.Test.YtgoghkboklehnaaParts
import Derived.Deep.RegionHeld3
import Derived.Outline
namespace Go.Proofs.Ytgoghkboklehnaa
set_option maxRecDepth 20000
set_option linter.unusedVariables false
set_option linter.unusedSimpArgs false
open Go.RowKit

set_option maxHeartbeats 500000 in
theorem specSolveSingle_any (r : Int) (v : Value) (e : List Int) (w : World) (h : RdI w v e) (hl : e.length ≤ 1048576) :
    Calls Try.prog 15 #[.int .i64 r, v] w fun o w' => ∃ u, o = .returned (.tuple #[u, .bool (solveF r e).2]) ∧ OwI w' w.heap.size u (solveF r e).1 ∧ Below w.heap.size w w' := by
  have H := Lib.hid h
  obtain ⟨A, cap, rfl, hcap, hm, hr, hxx⟩ := h.arg; clear hxx
  have HR := Lib.hid hr
  clear h hr
  unfold maxLen at hm
  go_enter Try.func15, Try.ntmps15
  go_wp2_with fail
  go_loopw [6, 7] (fun at_ i wr => ∃ (k : Nat) (a : Int), k ≤ e.length ∧ i = .int .i64 k ∧ at_ = .int .i64 a ∧ -1 ≤ a ∧ a < k ∧ scanU (e.drop k) k a = scanU e 0 (-1) ∧ ∃ n, wr = w.drewN n)
    (fun _ i _ => e.length - (intOf i).toNat)
  case atStart => exact ⟨0, -1, Nat.zero_le _, rfl, rfl, by omega, by omega, rfl, 0, rfl⟩
  case round =>
    obtain ⟨k, a, hk, rfl, rfl, ha1, ha2, hsc, n, rfl⟩ := hrel
    have HSC := Lib.hid hsc
    clear hsc
    by_cases hlt : k < e.length
    · obtain ⟨b, off, rfl, hbl, hc⟩ := H.out.at (by omega)
      have hcell := hc k hlt
      have HI := Lib.hid (HR.out e[k] (by simp))
      have HS := Lib.hid (scanU_drop e k a hlt)
      have HAB := Lib.hid (abs_isU HI.out)
      clear hc
      generalize e[k] = x at hcell HI HS HAB
      rcases eu : isU x with _ | _
      · have ht : (abs64 x == 9) = false := by rw [HAB.out, eu]
        rw [eu] at HS
        go_wp2_with (go_at_call 37; refine (l21Abs_any _ _).mono ?_; rintro e w' ⟨rfl, rfl⟩)
        go_roundw
        case rel => exact ⟨k + 1, a, by omega, by go_num, rfl, ha1, by omega, by rw [← HSC.out, HS.out]; simp, n, rfl⟩
        case measure => simp [intOf]; omega
      · have ht : (abs64 x == 9) = true := by rw [HAB.out, eu]
        rw [eu] at HS
        by_cases h0 : 0 ≤ a
        · have F : Hid (solveF r e = ([], false)) := Lib.hid (by unfold solveF; rw [← HSC.out, HS.out]; simp [h0])
          go_wp2_with (go_at_call 37; refine (l21Abs_any _ _).mono ?_; rintro e w' ⟨rfl, rfl⟩)
          go_ret2
          rw [F.out]
          exact ⟨_, rfl, OwI_lit _ [] I64s_nil (by simp) (by simp), (by repeat (first | exact Below.refl _ _ | (refine Below.setCell ?_ (by first | omega | (simp <;> omega)) _) | (refine bel_drewN ?_ _) | (refine Below.drew ?_) | (refine Below.alloc ?_ (by first | omega | (simp <;> omega)) _)))⟩
        · obtain rfl : a = -1 := by omega
          go_wp2_with (go_at_call 37; refine (l21Abs_any _ _).mono ?_; rintro e w' ⟨rfl, rfl⟩)
          go_roundw
          case rel => exact ⟨k + 1, k, by omega, by go_num, rfl, by omega, by omega, by rw [← HSC.out, HS.out]; simp, n, rfl⟩
          case measure => simp [intOf]; omega
    · obtain rfl : k = e.length := by omega
      have HEND : Hid (scanU e 0 (-1) = some a) := Lib.hid (by rw [← HSC.out, scanU_end])
      rcases eb : eqB r e with _ | _
      · have F : Hid (solveF r e = ([], false)) := Lib.hid (by unfold solveF; rw [eb]; rfl)
        go_wp2_with (go_at_call 10; refine (specIsEquation_any _ _ e _ (H.out.arg.drewN _) (by omega)).mono ?_; rintro e w' ⟨rfl, rfl⟩; rw [eb])
        go_ret2
        rw [F.out]
        exact ⟨_, rfl, OwI_lit _ [] I64s_nil (by simp) (by simp), (by repeat (first | exact Below.refl _ _ | (refine Below.setCell ?_ (by first | omega | (simp <;> omega)) _) | (refine bel_drewN ?_ _) | (refine Below.drew ?_) | (refine Below.alloc ?_ (by first | omega | (simp <;> omega)) _)))⟩
      · by_cases h0 : 0 ≤ a
        · obtain ⟨i, rfl⟩ : ∃ i : Nat, a = i := ⟨a.toNat, by omega⟩
          have F : Hid (solveF r e = (solW e i, true)) := Lib.hid (by unfold solveF; rw [eb, if_pos rfl, HEND.out]; simp)
          have hi : i < e.length := by omega
          obtain ⟨b, off, rfl, hbl, hc⟩ := H.out.at (by omega)
          have hcell := hc i hi
          have HH := Lib.hid (H.out.head (k := i) rfl (by omega))
          have HT := Lib.hid (H.out.cut (k := i + 1) rfl (by omega))
          clear hc
          go_wp2_with (go_at_call 10; refine (specIsEquation_any _ _ e _ (H.out.arg.drewN _) (by omega)).mono ?_; rintro e w' ⟨rfl, rfl⟩; rw [eb])
          have hsum : IntKind.i64.wrap ((i : Int) + 1) = (i : Int) + 1 := IntWalk.i64_in _ (by omega)
          have hsn : ((i : Int) + 1).toNat = i + 1 := by omega
          have hs0 : (0 : Int) ≤ (i : Int) + 1 := by omega
          have hs1 : (i : Int) + 1 ≤ (e.length : Int) := by omega
          have hs2 : (i : Int) ≤ (cap : Int) := by omega
          have hlen : (e.take i).length ≤ 1073741824 := by simp; omega
          have hlen' : (e.drop (i + 1)).length ≤ 1073741824 := by simp; omega
          have HSW : Hid (∀ x, redL [] (invL (e.take i) ++ invL (e.drop (i + 1))) = x → solW e i = if e.getD i 0 < 0 then invL x else x) := Lib.hid (by rintro x rfl; rfl)
          have HGD : Hid (e.getD i 0 = e[i]) := Lib.hid (by simp [List.getD, hi])
          have hil : (invL (e.take i)).length ≤ 536870912 := by rw [invL_len2]; simp; omega
          have hil' : (invL (e.drop (i + 1))).length ≤ 536870912 := by rw [invL_len2]; simp; omega
          have hxl : (redL [] (invL (e.take i) ++ invL (e.drop (i + 1)))).length ≤ 1073741824 := by have := redL_len [] (invL (e.take i) ++ invL (e.drop (i + 1))); simp only [List.length_append, List.length_nil] at this; omega
          have BB : Hid (Below w.heap.size w (w.drewN n).drew) := Lib.hid (bel_drewN (Below.refl _ _) n).drew
          have HH := Lib.hid (HH.out.drewN n).drew
          have HT := Lib.hid (HT.out.drewN n).drew
          have HE := Lib.hid (H.out.drewN n).drew
          generalize w.drewN n = wa at BB HH HT HE ⊢
          rcases hcq : decide (cap = i + 1) with _ | _
          · have hcp : ¬ cap = i + 1 := by simpa using hcq
            have HT : Hid (RdI wa.drew (.slice (some ⟨b, off + (i + 1), none⟩) (e.length - (i + 1)) (cap - (i + 1))) (e.drop (i + 1))) := Lib.hid (by have := HT.out; rw [if_neg hcp] at this; simpa [Addr.add_lit] using this)
            go_region_held3 (fun w' => True) (go_keep)
              (first
              | (go_at_call 41; (with_reducible refine (specInvertWord_any (.slice (some ⟨b, off, none⟩) i cap) (e.take i) _ HH.out hlen).mono ?_); rintro e w1 ⟨r1, rfl, o1, b1⟩; have OA := Lib.hid o1; replace HT := Lib.hid (HT.out.below b1); replace HE := Lib.hid (HE.out.below b1); replace BB := Lib.hid (BB.out.trans (b1.mono BB.out.size)); clear o1 b1)
              | (go_at_call 41; (with_reducible refine (specInvertWord_any (.slice (some ⟨b, off + (i + 1), none⟩) (e.length - (i + 1)) (cap - (i + 1))) (e.drop (i + 1)) _ HT.out hlen').mono ?_); rintro e w1 ⟨r1, rfl, o1, b1⟩; have OB := Lib.hid o1; replace OA := Lib.hid (OA.out.below b1); replace HE := Lib.hid (HE.out.below b1); replace BB := Lib.hid (BB.out.trans (b1.mono BB.out.size)); clear o1 b1)
              | (go_at_call 40; refine (specMultiplyWords_any _ _ _ _ _ OA.out.rd OB.out.rd hil hil').mono ?_; rintro e w1 ⟨r1, rfl, o1, b1⟩; have OM := Lib.hid o1; have HMB := Lib.hid BB.out.size; replace HE := Lib.hid (HE.out.below b1); replace BB := Lib.hid (BB.out.trans (b1.mono BB.out.size)); clear o1 b1))
            obtain ⟨b9, off9, hA9, hb9, hc9⟩ := HE.out.at (by omega)
            obtain ⟨rfl, rfl⟩ : b = b9 ∧ off = off9 := by simpa using hA9
            have hcell9 := hc9 i hi
            have HY : Hid (solW e i = if e[i] < 0 then invL (redL [] (invL (e.take i) ++ invL (e.drop (i + 1)))) else redL [] (invL (e.take i) ++ invL (e.drop (i + 1)))) := Lib.hid (by rw [HSW.out _ rfl, HGD.out])
            clear hc9 hA9 hcell
            generalize e[i] = y at hcell9 HY
            generalize redL [] (invL (e.take i) ++ invL (e.drop (i + 1))) = z at OM HY hxl
            have hbs := BB.out.size
            by_cases hy : y < 0
            · rw [if_pos hy] at HY
              go_wp2_with (go_at_call 41; refine (specInvertWord_any _ z _ OM.out.rd hxl).mono ?_; rintro e w2 ⟨r2, rfl, o2, b2⟩; have O2 := Lib.hid o2; have B2 := Lib.hid b2; clear o2 b2)
              go_ret2
              rw [F.out]
              exact ⟨_, rfl, by rw [HY.out]; exact O2.out.mono hbs, BB.out.trans (B2.out.mono hbs)⟩
            · rw [if_neg hy] at HY
              go_wp2
              go_ret2
              rw [F.out]
              exact ⟨_, rfl, by rw [HY.out]; exact OM.out.mono HMB.out, BB.out⟩
          · have hcp : i + 1 = cap := by have : cap = i + 1 := by simpa using hcq
                                         omega
            have HT2 : Hid (RdI wa.drew (.slice (some ⟨b, off, none⟩) 0 0) (e.drop (i + 1))) := Lib.hid (by have := HT.out; rw [if_pos hcp.symm, hcp, Nat.sub_self, show e.length - cap = 0 by omega] at this; rw [hcp]; exact this)
            clear hcq HT
            go_region_held3 (fun w' => True) (go_keep)
              (first
              | (go_at_call 41; (with_reducible refine (specInvertWord_any (.slice (some ⟨b, off, none⟩) i cap) (e.take i) _ HH.out hlen).mono ?_); rintro e w1 ⟨r1, rfl, o1, b1⟩; have OA := Lib.hid o1; replace HT2 := Lib.hid (HT2.out.below b1); replace HE := Lib.hid (HE.out.below b1); replace BB := Lib.hid (BB.out.trans (b1.mono BB.out.size)); clear o1 b1)
              | (go_at_call 41; go_loud (with_reducible refine (specInvertWord_any (.slice (some ⟨b, off, none⟩) 0 0) (e.drop (i + 1)) _ HT2.out hlen').mono ?_); rintro e w1 ⟨r1, rfl, o1, b1⟩; have OB := Lib.hid o1; replace OA := Lib.hid (OA.out.below b1); replace HE := Lib.hid (HE.out.below b1); replace BB := Lib.hid (BB.out.trans (b1.mono BB.out.size)); clear o1 b1)
              | (go_at_call 40; refine (specMultiplyWords_any _ _ _ _ _ OA.out.rd OB.out.rd hil hil').mono ?_; rintro e w1 ⟨r1, rfl, o1, b1⟩; have OM := Lib.hid o1; have HMB := Lib.hid BB.out.size; replace HE := Lib.hid (HE.out.below b1); replace BB := Lib.hid (BB.out.trans (b1.mono BB.out.size)); clear o1 b1))
            obtain ⟨b9, off9, hA9, hb9, hc9⟩ := HE.out.at (by omega)
            obtain ⟨rfl, rfl⟩ : b = b9 ∧ off = off9 := by simpa using hA9
            have hcell9 := hc9 i hi
            have HY : Hid (solW e i = if e[i] < 0 then invL (redL [] (invL (e.take i) ++ invL (e.drop (i + 1)))) else redL [] (invL (e.take i) ++ invL (e.drop (i + 1)))) := Lib.hid (by rw [HSW.out _ rfl, HGD.out])
            clear hc9 hA9 hcell
            generalize e[i] = y at hcell9 HY
            generalize redL [] (invL (e.take i) ++ invL (e.drop (i + 1))) = z at OM HY hxl
            have hbs := BB.out.size
            by_cases hy : y < 0
            · rw [if_pos hy] at HY
              go_wp2_with (go_at_call 41; refine (specInvertWord_any _ z _ OM.out.rd hxl).mono ?_; rintro e w2 ⟨r2, rfl, o2, b2⟩; have O2 := Lib.hid o2; have B2 := Lib.hid b2; clear o2 b2)
              go_ret2
              rw [F.out]
              exact ⟨_, rfl, by rw [HY.out]; exact O2.out.mono hbs, BB.out.trans (B2.out.mono hbs)⟩
            · rw [if_neg hy] at HY
              go_wp2
              go_ret2
              rw [F.out]
              exact ⟨_, rfl, by rw [HY.out]; exact OM.out.mono HMB.out, BB.out⟩
        · obtain rfl : a = -1 := by omega
          have F : Hid (solveF r e = ([], false)) := Lib.hid (by unfold solveF; rw [eb, if_pos rfl, HEND.out]; rfl)
          go_wp2_with (go_at_call 10; refine (specIsEquation_any _ _ e _ (H.out.arg.drewN _) (by omega)).mono ?_; rintro e w' ⟨rfl, rfl⟩; rw [eb])
          go_ret2
          rw [F.out]
          exact ⟨_, rfl, OwI_lit _ [] I64s_nil (by simp) (by simp), (by repeat (first | exact Below.refl _ _ | (refine Below.setCell ?_ (by first | omega | (simp <;> omega)) _) | (refine bel_drewN ?_ _) | (refine Below.drew ?_) | (refine Below.alloc ?_ (by first | omega | (simp <;> omega)) _)))⟩
theorem two_rd {w : World} {u v : Value} {xs ys : List Int} (h : RdI w u xs) (h' : RdI w v ys) : RdII (w.alloc (.cells #[u, v] 24)) (.slice (some ⟨w.heap.size, 0, none⟩) 2 2) [xs, ys] :=
  (PartsL.lit w [u, v] [xs, ys] rfl (fun i h1 h2 => by
    match i, h1, h2 with
    | 0, _, _ => exact h
    | 1, _, _ => exact h') (by simp) (Nat.le_refl _)).rd
theorem two_red (xs ys : List Int) : redLL [xs, ys] = redL [] (xs ++ ys) := by simp [redLL]
theorem two_len {xs ys : List Int} (h : xs.length ≤ 536870912) (h' : ys.length ≤ 536870912) : lenLL [xs, ys] ≤ 1073741824 := by simp [lenLL]; omega
set_option maxHeartbeats 500000 in
theorem implSolveSingle_any (r : Int) (v : Value) (e : List Int) (w : World) (h : RdI w v e) (hl : e.length ≤ 1048576) :
    Calls Try.prog 14 #[.int .i64 r, v] w fun o w' => ∃ u, o = .returned (.tuple #[u, .bool (solveF r e).2]) ∧ OwI w' w.heap.size u (solveF r e).1 ∧ Below w.heap.size w w' := by
  have H := Lib.hid h
  obtain ⟨A, cap, rfl, hcap, hm, hr, hxx⟩ := h.arg; clear hxx
  have HR := Lib.hid hr
  clear h hr
  unfold maxLen at hm
  rcases eb : eqB r e with _ | _
  · have F : Hid (solveF r e = ([], false)) := Lib.hid (by unfold solveF; rw [eb]; rfl)
    go_enter Try.func14, Try.ntmps14
    go_wp2_with (go_at_call 9; refine (implIsEquation_any _ _ e _ H.out.arg (by omega)).mono ?_; rintro e w' ⟨rfl, rfl⟩; rw [eb])
    go_ret2
    rw [F.out]
    exact ⟨_, rfl, OwI_lit _ [] I64s_nil (by simp) (by simp), (by repeat (first | exact Below.refl _ _ | (refine Below.setCell ?_ (by first | omega | (simp <;> omega)) _) | (refine bel_drewN ?_ _) | (refine Below.drew ?_) | (refine Below.alloc ?_ (by first | omega | (simp <;> omega)) _)))⟩
  go_enter Try.func14, Try.ntmps14
  go_wp2_with (go_at_call 9; refine (implIsEquation_any _ _ e _ H.out.arg (by omega)).mono ?_; rintro e w' ⟨rfl, rfl⟩; rw [eb])
  go_loopw [6, 17] (fun at_ i wr => ∃ (k : Nat) (a : Int), k ≤ e.length ∧ i = .int .i64 k ∧ at_ = .int .i64 a ∧ -1 ≤ a ∧ a < k ∧ scanU (e.drop k) k a = scanU e 0 (-1) ∧ ∃ n, wr = w.drewN n)
    (fun _ i _ => e.length - (intOf i).toNat)
  case atStart => exact ⟨0, -1, Nat.zero_le _, rfl, rfl, by omega, by omega, rfl, 0, rfl⟩
  case round =>
    obtain ⟨k, a, hk, rfl, rfl, ha1, ha2, hsc, n, rfl⟩ := hrel
    have HSC := Lib.hid hsc
    clear hsc
    by_cases hlt : k < e.length
    · obtain ⟨b, off, rfl, hbl, hc⟩ := H.out.at (by omega)
      have hcell := hc k hlt
      have HI := Lib.hid (HR.out e[k] (by simp))
      have HS := Lib.hid (scanU_drop e k a hlt)
      have HAB := Lib.hid (abs_isU HI.out)
      clear hc
      generalize e[k] = x at hcell HI HS HAB
      rcases eu : isU x with _ | _
      · have t1 : (x != 9) = true := by unfold isU at eu; simp at eu; simp [eu.1]
        have t2 : (x != -9) = true := by unfold isU at eu; simp at eu; simp [eu.2]
        rw [eu] at HS
        go_wp2
        go_roundw
        case rel => exact ⟨k + 1, a, by omega, by go_num, rfl, ha1, by omega, by rw [← HSC.out, HS.out]; simp, n, rfl⟩
        case measure => simp [intOf]; omega
      · have eu' : (x != 9) = false ∨ (x != -9) = false := by unfold isU at eu; simpa using eu
        rw [eu] at HS
        clear eu
        rcases e9 : (x != 9) with _ | _
        rotate_left
        · have e99 : (x != -9) = false := by rcases eu' with h | h; rw [e9] at h; cases h; exact h
          clear eu'
          by_cases h0 : 0 ≤ a
          · have F : Hid (solveF r e = ([], false)) := Lib.hid (by unfold solveF; rw [← HSC.out, HS.out]; simp [h0])
            go_wp2
            go_ret2
            rw [F.out]
            exact ⟨_, rfl, OwI_lit _ [] I64s_nil (by simp) (by simp), (by repeat (first | exact Below.refl _ _ | (refine Below.setCell ?_ (by first | omega | (simp <;> omega)) _) | (refine bel_drewN ?_ _) | (refine Below.drew ?_) | (refine Below.alloc ?_ (by first | omega | (simp <;> omega)) _)))⟩
          · obtain rfl : a = -1 := by omega
            go_wp2
            go_roundw
            case rel => exact ⟨k + 1, k, by omega, by go_num, rfl, by omega, by omega, by rw [← HSC.out, HS.out]; simp, n, rfl⟩
            case measure => simp [intOf]; omega
        clear eu'
        by_cases h0 : 0 ≤ a
        · have F : Hid (solveF r e = ([], false)) := Lib.hid (by unfold solveF; rw [← HSC.out, HS.out]; simp [h0])
          go_wp2
          go_ret2
          rw [F.out]
          exact ⟨_, rfl, OwI_lit _ [] I64s_nil (by simp) (by simp), (by repeat (first | exact Below.refl _ _ | (refine Below.setCell ?_ (by first | omega | (simp <;> omega)) _) | (refine bel_drewN ?_ _) | (refine Below.drew ?_) | (refine Below.alloc ?_ (by first | omega | (simp <;> omega)) _)))⟩
        · obtain rfl : a = -1 := by omega
          go_wp2
          go_roundw
          case rel => exact ⟨k + 1, k, by omega, by go_num, rfl, by omega, by omega, by rw [← HSC.out, HS.out]; simp, n, rfl⟩
          case measure => simp [intOf]; omega
    · obtain rfl : k = e.length := by omega
      have HEND : Hid (scanU e 0 (-1) = some a) := Lib.hid (by rw [← HSC.out, scanU_end])
      by_cases h0 : 0 ≤ a
      · obtain ⟨i, rfl⟩ : ∃ i : Nat, a = i := ⟨a.toNat, by omega⟩
        have F : Hid (solveF r e = (solW e i, true)) := Lib.hid (by unfold solveF; rw [eb, if_pos rfl, HEND.out]; simp)
        have hi : i < e.length := by omega
        obtain ⟨b, off, rfl, hbl, hc⟩ := H.out.at (by omega)
        have hcell := hc i hi
        have HH := Lib.hid (H.out.head (k := i) rfl (by omega))
        have HT := Lib.hid (H.out.cut (k := i + 1) rfl (by omega))
        clear hc
        go_wp2
        have hsum : IntKind.i64.wrap ((i : Int) + 1) = (i : Int) + 1 := IntWalk.i64_in _ (by omega)
        have hsn : ((i : Int) + 1).toNat = i + 1 := by omega
        have hs0 : (0 : Int) ≤ (i : Int) + 1 := by omega
        have hs1 : (i : Int) + 1 ≤ (e.length : Int) := by omega
        have hs2 : (i : Int) ≤ (cap : Int) := by omega
        have hlen : (e.take i).length ≤ 1073741824 := by simp; omega
        have hlen' : (e.drop (i + 1)).length ≤ 1073741824 := by simp; omega
        have HSW : Hid (∀ x, redL [] (invL (e.take i) ++ invL (e.drop (i + 1))) = x → solW e i = if e.getD i 0 < 0 then invL x else x) := Lib.hid (by rintro x rfl; rfl)
        have HGD : Hid (e.getD i 0 = e[i]) := Lib.hid (by simp [List.getD, hi])
        have hil : (invL (e.take i)).length ≤ 536870912 := by rw [invL_len2]; simp; omega
        have hil' : (invL (e.drop (i + 1))).length ≤ 536870912 := by rw [invL_len2]; simp; omega
        have hxl : (redL [] (invL (e.take i) ++ invL (e.drop (i + 1)))).length ≤ 1073741824 := by have := redL_len [] (invL (e.take i) ++ invL (e.drop (i + 1))); simp only [List.length_append, List.length_nil] at this; omega
        have BB : Hid (Below w.heap.size w (w.drewN n).drew) := Lib.hid (bel_drewN (Below.refl _ _) n).drew
        have HH := Lib.hid (HH.out.drewN n).drew
        have HT := Lib.hid (HT.out.drewN n).drew
        have HE := Lib.hid (H.out.drewN n).drew
        generalize w.drewN n = wa at BB HH HT HE ⊢
        generalize e.drop (i + 1) = tl at HT hlen' HSW hil' hxl
        generalize e.take i = hd at HH hlen HSW hil hxl
        rcases hcq : decide (cap = i + 1) with _ | _
        · have hcp : ¬ cap = i + 1 := by simpa using hcq
          have HT : Hid (RdI wa.drew (.slice (some ⟨b, off + (i + 1), none⟩) (e.length - (i + 1)) (cap - (i + 1))) tl) := Lib.hid (by have := HT.out; rw [if_neg hcp] at this; simpa [Addr.add_lit] using this)
          go_region_held3 (fun w' => True) (go_keep)
            (first
            | (go_at_call 38; (with_reducible refine (implInvertWord_any (.slice (some ⟨b, off, none⟩) i cap) hd _ HH.out hlen).mono ?_); rintro e w1 ⟨ra, rfl, o1, b1⟩; obtain ⟨Aa, ca, rfl, _⟩ := OwI.form o1; have OA := Lib.hid o1; replace HT := Lib.hid (HT.out.below b1); replace HE := Lib.hid (HE.out.below b1); replace BB := Lib.hid (BB.out.trans (b1.mono BB.out.size)); clear o1 b1)
            | (go_at_call 38; (with_reducible refine (implInvertWord_any (.slice (some ⟨b, off + (i + 1), none⟩) (e.length - (i + 1)) (cap - (i + 1))) tl _ HT.out hlen').mono ?_); rintro e w1 ⟨rb, rfl, o1, b1⟩; obtain ⟨Ab, cb, rfl, _⟩ := OwI.form o1; have OB := Lib.hid o1; replace OA := Lib.hid (OA.out.below b1); have HAB2 := Lib.hid (two_rd OA.out.rd OB.out.rd); replace HE := Lib.hid (HE.out.below b1); replace BB := Lib.hid (BB.out.trans (b1.mono BB.out.size)); clear o1 b1)
            | (go_at_call 39; refine (product_any _ [invL hd, invL tl] _ HAB2.out (two_len hil hil') (by simp)).mono ?_; rintro e w1 ⟨r1, rfl, o1, b1⟩; rw [two_red] at o1; have OM := Lib.hid (o1.mono (BB.out.alloc BB.out.size _).size); replace HE := Lib.hid ((HE.out.alloc _).below b1); replace BB := Lib.hid ((BB.out.alloc BB.out.size _).trans (b1.mono (BB.out.alloc BB.out.size _).size)); clear o1 b1))
          obtain ⟨b9, off9, hA9, hb9, hc9⟩ := HE.out.at (by omega)
          obtain ⟨rfl, rfl⟩ : b = b9 ∧ off = off9 := by simpa using hA9
          have hcell9 := hc9 i hi
          have HY : Hid (solW e i = if e[i] < 0 then invL (redL [] (invL hd ++ invL tl)) else redL [] (invL hd ++ invL tl)) := Lib.hid (by rw [HSW.out _ rfl, HGD.out])
          clear hc9 hA9 hcell
          generalize e[i] = y at hcell9 HY
          generalize redL [] (invL hd ++ invL tl) = z at OM HY hxl
          have hbs := BB.out.size
          by_cases hy : y < 0
          · rw [if_pos hy] at HY
            go_wp2_with (go_at_call 38; refine (implInvertWord_any _ z _ OM.out.rd hxl).mono ?_; rintro e w2 ⟨r2, rfl, o2, b2⟩; have O2 := Lib.hid o2; have B2 := Lib.hid b2; clear o2 b2)
            go_ret2
            rw [F.out]
            exact ⟨_, rfl, by rw [HY.out]; exact O2.out.mono hbs, BB.out.trans (B2.out.mono hbs)⟩
          · rw [if_neg hy] at HY
            go_wp2
            go_ret2
            rw [F.out]
            exact ⟨_, rfl, by rw [HY.out]; exact OM.out, BB.out⟩
        · have hcp : i + 1 = cap := by have : cap = i + 1 := by simpa using hcq
                                       omega
          have HT2 : Hid (RdI wa.drew (.slice (some ⟨b, off, none⟩) 0 0) tl) := Lib.hid (by have := HT.out; rw [if_pos hcp.symm, hcp, Nat.sub_self, show e.length - cap = 0 by omega] at this; exact this)
          clear hcq HT
          go_region_held3 (fun w' => True) (go_keep)
            (first
            | (go_at_call 38; (with_reducible refine (implInvertWord_any (.slice (some ⟨b, off, none⟩) i cap) hd _ HH.out hlen).mono ?_); rintro e w1 ⟨ra, rfl, o1, b1⟩; obtain ⟨Aa, ca, rfl, _⟩ := OwI.form o1; have OA := Lib.hid o1; replace HT2 := Lib.hid (HT2.out.below b1); replace HE := Lib.hid (HE.out.below b1); replace BB := Lib.hid (BB.out.trans (b1.mono BB.out.size)); clear o1 b1)
            | (go_at_call 38; go_loud (with_reducible refine (implInvertWord_any (.slice (some ⟨b, off, none⟩) 0 0) tl _ HT2.out hlen').mono ?_); rintro e w1 ⟨rb, rfl, o1, b1⟩; obtain ⟨Ab, cb, rfl, _⟩ := OwI.form o1; have OB := Lib.hid o1; replace OA := Lib.hid (OA.out.below b1); have HAB2 := Lib.hid (two_rd OA.out.rd OB.out.rd); replace HE := Lib.hid (HE.out.below b1); replace BB := Lib.hid (BB.out.trans (b1.mono BB.out.size)); clear o1 b1)
            | (go_at_call 39; refine (product_any _ [invL hd, invL tl] _ HAB2.out (two_len hil hil') (by simp)).mono ?_; rintro e w1 ⟨r1, rfl, o1, b1⟩; rw [two_red] at o1; have OM := Lib.hid (o1.mono (BB.out.alloc BB.out.size _).size); replace HE := Lib.hid ((HE.out.alloc _).below b1); replace BB := Lib.hid ((BB.out.alloc BB.out.size _).trans (b1.mono (BB.out.alloc BB.out.size _).size)); clear o1 b1))
          obtain ⟨b9, off9, hA9, hb9, hc9⟩ := HE.out.at (by omega)
          obtain ⟨rfl, rfl⟩ : b = b9 ∧ off = off9 := by simpa using hA9
          have hcell9 := hc9 i hi
          have HY : Hid (solW e i = if e[i] < 0 then invL (redL [] (invL hd ++ invL tl)) else redL [] (invL hd ++ invL tl)) := Lib.hid (by rw [HSW.out _ rfl, HGD.out])
          clear hc9 hA9 hcell
          generalize e[i] = y at hcell9 HY
          generalize redL [] (invL hd ++ invL tl) = z at OM HY hxl
          have hbs := BB.out.size
          by_cases hy : y < 0
          · rw [if_pos hy] at HY
            go_wp2_with (go_at_call 38; refine (implInvertWord_any _ z _ OM.out.rd hxl).mono ?_; rintro e w2 ⟨r2, rfl, o2, b2⟩; have O2 := Lib.hid o2; have B2 := Lib.hid b2; clear o2 b2)
            go_ret2
            rw [F.out]
            exact ⟨_, rfl, by rw [HY.out]; exact O2.out.mono hbs, BB.out.trans (B2.out.mono hbs)⟩
          · rw [if_neg hy] at HY
            go_wp2
            go_ret2
            rw [F.out]
            exact ⟨_, rfl, by rw [HY.out]; exact OM.out, BB.out⟩
      · obtain rfl : a = -1 := by omega
        have F : Hid (solveF r e = ([], false)) := Lib.hid (by unfold solveF; rw [eb, if_pos rfl, HEND.out]; rfl)
        go_wp2
        go_ret2
        rw [F.out]
        exact ⟨_, rfl, OwI_lit _ [] I64s_nil (by simp) (by simp), (by repeat (first | exact Below.refl _ _ | (refine Below.setCell ?_ (by first | omega | (simp <;> omega)) _) | (refine bel_drewN ?_ _) | (refine Below.drew ?_) | (refine Below.alloc ?_ (by first | omega | (simp <;> omega)) _)))⟩
end Go.Proofs.Ytgoghkboklehnaa
