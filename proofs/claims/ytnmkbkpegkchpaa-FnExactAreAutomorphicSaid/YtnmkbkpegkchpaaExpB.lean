/- ExpandBy of the reference and of the program. -/
import Derived.Test.YtnmkbkpegkchpaaWhP
import Derived.Test.YtnmkbkpegkchpaaParts
import Derived.Deep.RegionHeld3
import Derived.Outline
namespace Go.Proofs.Ytnmkbkpegkchpaa
set_option maxRecDepth 20000
set_option linter.unusedVariables false
set_option linter.unusedSimpArgs false
open Go.RowKit

theorem exp1_pos {B : List (List Int)} {j : Nat} (h : j < B.length) : exp1L B ((j : Int) + 1) = [B[j]] := by
  unfold exp1L
  rw [if_pos (by omega)]
  simp [List.getD, h]
theorem exp1_neg {B : List (List Int)} {j : Nat} (h : j < B.length) : exp1L B (-((j : Int) + 1)) = [invL B[j]] := by
  unfold exp1L
  rw [if_neg (by omega), if_pos (by omega)]
  have e : (- -((j : Int) + 1) - 1).toNat = j := by omega
  rw [e]
  simp [List.getD, h]
theorem exp1_none {B : List (List Int)} {k : Int} (h1 : ¬ (1 ≤ k ∧ k ≤ B.length)) (h2 : ¬ (-(B.length : Int) ≤ k ∧ k ≤ -1)) : exp1L B k = [] := by
  unfold exp1L
  rw [if_neg h1, if_neg (by omega)]
theorem exp1_cases (B : List (List Int)) (k : Int) : (∃ j : Nat, j < B.length ∧ k = (j : Int) + 1) ∨ (∃ j : Nat, j < B.length ∧ k = -((j : Int) + 1)) ∨ (¬ (1 ≤ k ∧ k ≤ B.length) ∧ ¬ (-(B.length : Int) ≤ k ∧ k ≤ -1)) := by
  by_cases h1 : 1 ≤ k ∧ k ≤ B.length
  · exact .inl ⟨(k - 1).toNat, by omega, by omega⟩
  · by_cases h2 : -(B.length : Int) ≤ k ∧ k ≤ -1
    · exact .inr (.inl ⟨(-k - 1).toNat, by omega, by omega⟩)
    · exact .inr (.inr ⟨h1, h2⟩)
set_option maxHeartbeats 2000000 in
theorem implExpandBy_any (u v : Value) (B : List (List Int)) (l : List Int) (w : World) (h : RdII w u B) (h' : RdI w v l) (hB : B.length ≤ 1048576) (hb : ∀ b ∈ B, b.length ≤ 1048576) (hl : l.length ≤ 200) :
    Calls Try.prog 48 #[u, v] w fun e w' => ∃ r, e = .returned r ∧ OwI w' w.heap.size r (expL B l) ∧ Below w.heap.size w w' := by
  have H := Lib.hid h
  have H' := Lib.hid h'
  have HB := Lib.hid hb
  obtain ⟨A, cap, rfl, hcap, hm, hA⟩ := h.form
  have HA := Lib.hid hA
  obtain ⟨A', cap', rfl, hcap', hm', _⟩ := h'.arg
  unfold maxLen at hm hm'
  clear h h' hA hb
  have hmin : (l.length : Int) ≤ 200 := by omega
  have hmin2 : ¬ (200 : Int) < (l.length : Int) := by omega
  have F : Hid (expL B l = redLL (l.flatMap (exp1L B))) := Lib.hid (by unfold expL expParts; rw [List.take_of_length_le hl])
  have HLL : Hid (lenLL (l.flatMap (exp1L B)) ≤ 1073741824) := Lib.hid (by
    have h1 := lenLL_leW (flat_each HB.out l)
    have h2 := Nat.mul_le_mul_right 1048576 (flat1_len B l)
    omega)
  go_enter Try.func48, Try.ntmps48
  go_wp2_with fail
  go_loopw [5, 15] (fun ps i wr => ∃ k : Nat, k ≤ l.length ∧ i = .int .i64 k ∧ PartsL w.heap.size wr ps ((l.take k).flatMap (exp1L B)) ∧ Below w.heap.size w wr)
    (fun _ i _ => l.length - (intOf i).toNat)
  case atStart => exact ⟨0, Nat.zero_le _, rfl, PartsL.nil w (Nat.le_refl _), (by repeat (first | exact Below.refl _ _ | (refine Below.setCell ?_ (by first | omega | (simp <;> omega)) _) | (refine bel_drewN ?_ _) | (refine Below.drew ?_) | (refine Below.alloc ?_ (by first | omega | (simp <;> omega)) _)))⟩
  case round =>
    obtain ⟨k, hk, rfl, hp, hbel⟩ := hrel
    have hsz := hbel.size
    have hpl := flat1_len B (l.take k)
    have hpl2 : ((l.take k).flatMap (exp1L B)).length ≤ 200 := by rw [List.length_take] at hpl; omega
    by_cases hlt : k < l.length
    · obtain ⟨b, off, rfl, hbl, hc⟩ := (H'.out.below hbel).at (by omega)
      have hcell := hc k hlt
      have HS := Lib.hid (exp_succ B l k hlt)
      have HP := Lib.hid hp
      have HBL := Lib.hid hbel
      have HX := Lib.hid (H'.out.2 l[k] (by simp))
      clear hc hp
      generalize (l.take k).flatMap (exp1L B) = acc at HS HP hpl2
      generalize l[k] = e at hcell HS HX
      obtain ⟨A3, cap3, rfl, hcap3, hm3⟩ := HP.out.form
      rcases exp1_cases B e with ⟨j, hj, rfl⟩ | ⟨j, hj, rfl⟩ | ⟨n1, n2⟩
      · have FE := Lib.hid (exp1_pos hj)
        obtain ⟨b2, off2, A4, cap4, rfl, hb2, hcell2, _, _, hr4⟩ := (H.out.below hbel).at hj
        have HR4 := Lib.hid hr4
        have t1 : inB ((j : Int) + 1) 1 (B.length : Int) = true := inB_iff.2 (by omega)
        clear hr4 hbel
        go_wp2_with (first
          | (go_at_call 27; refine (within_any _ _ _ _).mono ?_; rintro e w' ⟨rfl, rfl⟩)
          | (at_builtin; refine push_part rfl (.tmp 24) (.tmp 30) rfl w.heap.size _ _ (HP.out.alloc _) rfl _ _ _ rfl (HR4.out.alloc _) (cell_new1 _ _ _) (by omega) (by simp; omega) ?_; intro v1 w1 o1 g1 _))
        go_roundw
        case rel => exact ⟨k + 1, by omega, by go_num, by rw [HS.out, FE.out]; exact o1, (HBL.out.alloc hsz _).grown g1 (by simp; omega) (fun j hj => (HP.out.lt j hj).1)⟩
        case measure => simp [intOf]; omega
      · have FE := Lib.hid (exp1_neg hj)
        obtain ⟨b2, off2, A4, cap4, rfl, hb2, hcell2, _, _, hr4⟩ := (H.out.below hbel).at hj
        have HR4 := Lib.hid hr4
        have hl4 := HB.out B[j] (by simp)
        have t1 : inB (-((j : Int) + 1)) 1 (B.length : Int) = false := inB_not.2 (by omega)
        have t2 : inB (-((j : Int) + 1)) (-(B.length : Int)) (-1) = true := inB_iff.2 (by omega)
        clear hr4 hbel
        go_wp2_with (go_at_call 27; refine (within_any _ _ _ _).mono ?_; rintro e w' ⟨rfl, rfl⟩)
        refine (implInvertWord_any _ B[j] _ HR4.out (by omega)).mono ?_
        rintro e w1 ⟨r1, rfl, o1, b1⟩
        have O1 := Lib.hid o1
        have B1 := Lib.hid b1
        have hs1 := b1.size
        obtain ⟨A5, cap5, rfl, _⟩ := OwI.form o1
        clear o1 b1
        go_wp2_with (at_builtin; refine push_part rfl (.tmp 38) (.tmp 46) rfl w.heap.size _ _ ((HP.out.below B1.out).alloc _) rfl _ _ _ rfl (O1.out.rd.alloc _) (cell_new1 _ _ _) (by omega) (by simp; omega) ?_; intro v2 w2 o2 g2 _)
        go_roundw
        case rel => exact ⟨k + 1, by omega, by go_num, by rw [HS.out, FE.out]; exact o2, ((HBL.out.trans (B1.out.mono hsz)).alloc (by omega) _).grown g2 (by simp; omega) (fun j hj => (HP.out.lt j hj).1)⟩
        case measure => simp [intOf]; omega
      · have FE := Lib.hid (exp1_none n1 n2)
        have t1 : inB e 1 (B.length : Int) = false := inB_not.2 (by omega)
        have t2 : inB e (-(B.length : Int)) (-1) = false := inB_not.2 n2
        clear n1 n2 hbel
        go_wp2_with (go_at_call 27; refine (within_any _ _ _ _).mono ?_; rintro e w' ⟨rfl, rfl⟩)
        go_roundw
        case rel => exact ⟨k + 1, by omega, by go_num, by rw [HS.out, FE.out]; simpa using HP.out, HBL.out⟩
        case measure => simp [intOf]; omega
    · obtain rfl : k = l.length := by omega
      rw [List.take_length] at hp hpl2
      have HP := Lib.hid hp
      clear hp
      go_wp2_with fail
      refine (product_any _ _ _ HP.out.rd HLL.out (by omega)).mono ?_
      rintro e w1 ⟨r1, rfl, o1, b1⟩
      have O1 := Lib.hid o1
      have B1 := Lib.hid b1
      clear o1 b1
      go_wp2
      go_ret
      exact ⟨_, rfl, by rw [F.out]; exact O1.out.mono hsz, hbel.trans (B1.out.mono hsz)⟩
theorem flatlen_eq (L : List (List Int)) : L.flatten.length = lenLL L := by simp [lenLL, List.length_flatten]
theorem lenLL_take2 (B : List (List Int)) (l : List Int) (k : Nat) (hb : ∀ b ∈ B, b.length ≤ 1048576) (hl : l.length ≤ 200) : ((l.take k).flatMap (exp1L B)).flatten.length ≤ 209715200 := by
  rw [flatlen_eq]
  have h1 := lenLL_leW (flat_each hb (l.take k))
  have h2 := Nat.mul_le_mul_right 1048576 (flat1_len B (l.take k))
  have h3 : (l.take k).length ≤ 200 := by rw [List.length_take]; omega
  have h4 := Nat.mul_le_mul_right 1048576 h3
  omega
set_option maxHeartbeats 2000000 in
theorem specExpandBy_any (u v : Value) (B : List (List Int)) (l : List Int) (w : World) (h : RdII w u B) (h' : RdI w v l) (hB : B.length ≤ 1048576) (hb : ∀ b ∈ B, b.length ≤ 1048576) (hl : l.length ≤ 200) :
    Calls Try.prog 39 #[u, v] w fun e w' => ∃ r, e = .returned r ∧ OwI w' w.heap.size r (expL B l) ∧ Below w.heap.size w w' := by
  have H := Lib.hid h
  have H' := Lib.hid h'
  have HB := Lib.hid hb
  obtain ⟨A, cap, rfl, hcap, hm, hA⟩ := h.form
  have HA := Lib.hid hA
  obtain ⟨A', cap', rfl, hcap', hm', _⟩ := h'.arg
  unfold maxLen at hm hm'
  clear h h' hA hb
  have F : Hid (expL B l = redL [] (l.flatMap (exp1L B)).flatten) := Lib.hid (by unfold expL expParts redLL; rw [List.take_of_length_le hl])
  go_enter Try.func39, Try.ntmps39
  go_wp2_with fail
  go_loopw [5, 6] (fun out i wr => ∃ k : Nat, k ≤ l.length ∧ i = .int .i64 k ∧ OwI wr w.heap.size out ((l.take k).flatMap (exp1L B)).flatten ∧ Below w.heap.size w wr)
    (fun _ i _ => l.length - (intOf i).toNat)
  case atStart => exact ⟨0, Nat.zero_le _, rfl, OwI_lit w [] I64s_nil (by simp) (Nat.le_refl _), (by repeat (first | exact Below.refl _ _ | (refine Below.setCell ?_ (by first | omega | (simp <;> omega)) _) | (refine bel_drewN ?_ _) | (refine Below.drew ?_) | (refine Below.alloc ?_ (by first | omega | (simp <;> omega)) _)))⟩
  case round =>
    obtain ⟨k, hk, rfl, hp, hbel⟩ := hrel
    have hsz := hbel.size
    have hpl := lenLL_take2 B l k HB.out hl
    by_cases hlt : k < l.length
    · obtain ⟨b, off, rfl, hbl, hc⟩ := (H'.out.below hbel).at (by omega)
      have hcell := hc k hlt
      have HS : Hid (((l.take (k + 1)).flatMap (exp1L B)).flatten = ((l.take k).flatMap (exp1L B)).flatten ++ (exp1L B l[k]).flatten) := Lib.hid (by rw [exp_succ B l k hlt, List.flatten_append])
      have HP := Lib.hid hp
      have HBL := Lib.hid hbel
      have HX := Lib.hid (H'.out.2 l[k] (by simp))
      have hk200 : (k : Int) < 200 := by omega
      have hltI : (k : Int) < (l.length : Int) := by omega
      clear hc hp
      generalize ((l.take k).flatMap (exp1L B)).flatten = acc at HS HP hpl
      generalize l[k] = e at hcell HS HX
      obtain ⟨A3, cap3, rfl, hcap3, hm3, _⟩ := HP.out.form
      have hx1 := HX.out.1
      have hx2 := HX.out.2
      rcases exp1_cases B e with ⟨j, hj, rfl⟩ | ⟨j, hj, hej⟩ | ⟨n1, n2⟩
      · have FE := Lib.hid (exp1_pos hj)
        obtain ⟨b2, off2, A4, cap4, rfl, hb2, hcell2, hl4, hm4, hr4⟩ := (H.out.below hbel).at hj
        have HR4 := Lib.hid hr4
        have hlb := HB.out B[j] (by simp)
        have t1 : (0 : Int) < (j : Int) + 1 := by omega
        have t2 : (j : Int) + 1 ≤ (B.length : Int) := by omega
        clear hr4 hbel
        go_wp2_with (at_builtin; refine append_ints rfl (.tmp 33) (.tmp 41) rfl w.heap.size _ _ HP.out rfl _ _ HR4.out rfl (by omega) hsz ?_; intro v1 w1 o1 g1 _)
        go_roundw
        case rel => exact ⟨k + 1, by omega, by go_num, by rw [HS.out, FE.out]; simpa using o1, HBL.out.grown g1 hsz (fun j hj => (HP.out.1.lt j hj).1)⟩
        case measure => simp [intOf]; omega
      · have FE : Hid (exp1L B e = [invL B[j]]) := Lib.hid (by rw [hej]; exact exp1_neg hj)
        obtain ⟨b2, off2, A4, cap4, rfl, hb2, hcell2, hl4, hm4, hr4⟩ := (H.out.below hbel).at hj
        have HR4 := Lib.hid hr4
        have hlb := HB.out B[j] (by simp)
        have t1 : ¬ (0 : Int) < e := by omega
        have t2 : e < 0 := by omega
        have t3 : -(B.length : Int) ≤ e := by omega
        have t4 : (-e - 1).toNat = j := by omega
        have t5 : 0 ≤ -e - 1 := by omega
        have t6 : -e - 1 < (B.length : Int) := by omega
        have t7 : -9223372036854775808 < e := by omega
        clear hr4 hbel hej
        go_wp2_with fail
        refine (specInvertWord_any _ B[j] _ HR4.out (by omega)).mono ?_
        rintro e w1 ⟨r1, rfl, o1, b1⟩
        have O1 := Lib.hid o1
        have B1 := Lib.hid b1
        have hs1 := b1.size
        have hil : (invL B[j]).length ≤ 1048576 := by rw [invL_lenW]; exact hlb
        obtain ⟨A5, cap5, rfl, _⟩ := OwI.form o1
        clear o1 b1
        go_wp2_with (at_builtin; refine append_ints rfl (.tmp 59) (.tmp 69) rfl w.heap.size _ _ (HP.out.below B1.out) rfl _ _ O1.out.rd rfl (by omega) (by omega) ?_; intro v2 w2 o2 g2 _)
        go_roundw
        case rel => exact ⟨k + 1, by omega, by go_num, by rw [HS.out, FE.out]; simpa using o2, (HBL.out.trans (B1.out.mono hsz)).grown g2 (by omega) (fun j hj => (HP.out.1.lt j hj).1)⟩
        case measure => simp [intOf]; omega
      · have FE := Lib.hid (exp1_none n1 n2)
        have HN : Hid (True) := Lib.hid trivial
        rcases Int.lt_or_le 0 e with t1 | t1
        · have t2 : ¬ e ≤ (B.length : Int) := by omega
          have t3 : ¬ e < 0 := by omega
          clear n1 n2 hbel
          go_wp2
          go_roundw
          case rel => exact ⟨k + 1, by omega, by go_num, by rw [HS.out, FE.out]; simpa using HP.out, HBL.out⟩
          case measure => simp [intOf]; omega
        · have t1' : ¬ 0 < e := by omega
          rcases Int.lt_or_le e 0 with t2 | t2
          · have t3 : ¬ -(B.length : Int) ≤ e := by omega
            clear n1 n2 hbel
            go_wp2
            go_roundw
            case rel => exact ⟨k + 1, by omega, by go_num, by rw [HS.out, FE.out]; simpa using HP.out, HBL.out⟩
            case measure => simp [intOf]; omega
          · have t2' : ¬ e < 0 := by omega
            clear n1 n2 hbel
            go_wp2
            go_roundw
            case rel => exact ⟨k + 1, by omega, by go_num, by rw [HS.out, FE.out]; simpa using HP.out, HBL.out⟩
            case measure => simp [intOf]; omega
    · obtain rfl : k = l.length := by omega
      rw [List.take_length] at hp hpl
      have HP := Lib.hid hp
      clear hp
      go_wp2_with fail
      refine (specReduceLetters_any _ _ _ HP.out.rd (by omega)).mono ?_
      rintro e w1 ⟨r1, rfl, o1, b1⟩
      have O1 := Lib.hid o1
      have B1 := Lib.hid b1
      clear o1 b1
      go_wp2
      go_ret
      exact ⟨_, rfl, by rw [F.out]; exact O1.out.mono hsz, hbel.trans (B1.out.mono hsz)⟩
end Go.Proofs.Ytnmkbkpegkchpaa
