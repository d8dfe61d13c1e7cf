/- ParseEquation of the reference and of the program. -/
import Derived.Test.YtgoghkboklehnaaEqn
import Derived.Test.YtgoghkboklehnaaFmt
import Derived.Test.YtgoghkboklehnaaIsWord
import Derived.Outline
namespace Go.Proofs.Ytgoghkboklehnaa
set_option maxRecDepth 20000
set_option linter.unusedVariables false
set_option linter.unusedSimpArgs false
open Go.RowKit

def letN (n : Nat) : Int := if 97 ≤ n ∧ n ≤ 99 then (n : Int) - 96 else if 65 ≤ n ∧ n ≤ 67 then 64 - (n : Int) else 0
def eqN (n : Nat) : Int := if n = 120 then 9 else if n = 88 then -9 else letN n
def eqCh (c : UInt8) : Int := eqN c.toNat
def parE (t : List UInt8) : List Int := if t = [49] then [] else t.map eqCh
def okP (r : Int) (t : List UInt8) : Bool := eqB r (parE t) && decide (fmtEq (parE t) = t)
def parF (r : Int) (t : List UInt8) : List Int × Bool := if okP r t then (parE t, true) else ([], false)
theorem letN_I64 (n : Nat) : -3 ≤ letN n ∧ letN n ≤ 3 := by unfold letN; repeat' split
                                                            all_goals omega
theorem eqN_I64 (n : Nat) : -9 ≤ eqN n ∧ eqN n ≤ 9 := by
  have := letN_I64 n
  unfold eqN; repeat' split
  all_goals omega
theorem parF_len (r : Int) (t : List UInt8) : (parF r t).1.length ≤ t.length := by
  unfold parF parE
  split
  · split <;> simp
  · simp
theorem nat_cases (n : Nat) : n = 97 ∨ n = 98 ∨ n = 99 ∨ n = 65 ∨ n = 66 ∨ n = 67 ∨ (¬ (97 ≤ n ∧ n ≤ 99) ∧ ¬ (65 ≤ n ∧ n ≤ 67)) := by omega
theorem eqN_88 {n : Nat} (h : (((n : Nat) : Int) == 88) = true) : eqN n = -9 := by
  have : n = 88 := by simp at h; omega
  subst this; rfl
theorem eqN_120 {n : Nat} (h : (((n : Nat) : Int) == 120) = true) : eqN n = 9 := by
  have : n = 120 := by simp at h; omega
  subst this; rfl
set_option maxHeartbeats 1000000 in
theorem letterOf_any (n : Nat) (w : World) (hn : n < 256) :
    Calls Try.prog 46 #[.int .u8 n] w fun e w' => e = .returned (.int .i64 (letN n)) ∧ w = w' := by
  rcases nat_cases n with rfl | rfl | rfl | rfl | rfl | rfl | ⟨h1, h2⟩
  iterate 6
    · go_enter Try.func46, Try.ntmps46
      go_wp2
      go_ret
      exact ⟨rfl, rfl⟩
  have F : Hid (letN n = 0) := Lib.hid (by unfold letN; rw [if_neg h1, if_neg h2])
  have hn2 : (n : Int) < 256 := by omega
  rcases Nat.lt_or_ge n 65 with h | h
  · have t1 : ¬ (97 : Int) ≤ (n : Int) := by omega
    have t2 : ¬ (65 : Int) ≤ (n : Int) := by omega
    clear h1 h2 h
    go_enter Try.func46, Try.ntmps46
    go_wp2
    go_ret
    exact ⟨ret_int F.out.symm, rfl⟩
  · rcases Nat.lt_or_ge n 97 with h' | h'
    · have t1 : ¬ (97 : Int) ≤ (n : Int) := by omega
      have t2 : (65 : Int) ≤ (n : Int) := by omega
      have t3 : ¬ (n : Int) ≤ 67 := by omega
      clear h1 h2 h h'
      go_enter Try.func46, Try.ntmps46
      go_wp2
      go_ret
      exact ⟨ret_int F.out.symm, rfl⟩
    · have t1 : (97 : Int) ≤ (n : Int) := by omega
      have t2 : ¬ (n : Int) ≤ 99 := by omega
      have t3 : (65 : Int) ≤ (n : Int) := by omega
      have t4 : ¬ (n : Int) ≤ 67 := by omega
      clear h1 h2 h h'
      go_enter Try.func46, Try.ntmps46
      go_wp2
      go_ret
      exact ⟨ret_int F.out.symm, rfl⟩
set_option maxHeartbeats 2000000 in
theorem implParseEquation_any (r : Int) (t : List UInt8) (w : World) (hl : t.length ≤ 1048576) :
    Calls Try.prog 21 #[.int .i64 r, .string ⟨t.toArray⟩] w fun o w' => ∃ u, o = .returned (.tuple #[u, .bool (parF r t).2]) ∧ OwI w' w.heap.size u (parF r t).1 ∧ Below w.heap.size w w' := by
  by_cases h1 : t = [49]
  · subst h1
    have HZ : Hid (OwI (w.alloc (.cells #[] 3)) w.heap.size (.slice (some ⟨w.heap.size, 0, none⟩) 0 0) []) := Lib.hid (OwI_lit w [] I64s_nil (by simp) (Nat.le_refl _))
    have HBZ : Hid (Below w.heap.size w (w.alloc (.cells #[] 3))) := Lib.hid (by repeat (first | exact Below.refl _ _ | (refine Below.setCell ?_ (by first | omega | (simp <;> omega)) _) | (refine bel_drewN ?_ _) | (refine Below.drew ?_) | (refine Below.alloc ?_ (by first | omega | (simp <;> omega)) _)))
    rcases eb : eqB r [] with _ | _
    · have F : Hid (parF r [49] = ([], false)) := Lib.hid (by unfold parF okP parE; simp [eb])
      have C := fun W h => implIsEquation_any r (.slice (some ⟨w.heap.size, 0, none⟩) 0 0) [] W h (by simp)
      rw [eb] at C
      have CC := Lib.hid C
      clear C eb
      go_enter Try.func21, Try.ntmps21
      go_wp2_with fail
      generalize w.alloc (Obj.cells #[] 3) = w0 at HZ HBZ ⊢
      refine (CC.out _ HZ.out.arg).mono ?_
      rintro e w' ⟨rfl, rfl⟩
      go_wp2
      go_ret2
      rw [F.out]
      exact ⟨_, rfl, OwI_lit _ [] I64s_nil (by simp) HBZ.out.size, HBZ.out.alloc HBZ.out.size _⟩
    · have F : Hid (parF r [49] = ([], true)) := Lib.hid (by unfold parF okP parE; simp [eb]; rfl)
      have C := fun W h => implIsEquation_any r (.slice (some ⟨w.heap.size, 0, none⟩) 0 0) [] W h (by simp)
      rw [eb] at C
      have CC := Lib.hid C
      have hf : fmtEq [] = [49] := rfl
      have D := fun W h => implFormatEquation_any (.slice (some ⟨w.heap.size, 0, none⟩) 0 0) [] W h (by simp)
      rw [hf] at D
      unfold str at D
      have DD := Lib.hid D
      clear C D eb hf
      go_enter Try.func21, Try.ntmps21
      go_wp2_with (first
        | (go_at_call 9; refine (CC.out _ HZ.out.arg).mono ?_; rintro e w' ⟨rfl, rfl⟩)
        | (go_at_call 20; refine (DD.out _ HZ.out.arg).mono ?_; rintro e w' ⟨rfl, rfl⟩))
      go_ret2
      rw [F.out]
      exact ⟨_, rfl, HZ.out, (by repeat (first | exact Below.refl _ _ | (refine Below.setCell ?_ (by first | omega | (simp <;> omega)) _) | (refine bel_drewN ?_ _) | (refine Below.drew ?_) | (refine Below.alloc ?_ (by first | omega | (simp <;> omega)) _)))⟩
  · have H1 := Lib.hid h1
    have HP : Hid (parE t = t.map eqCh) := Lib.hid (by unfold parE; rw [if_neg h1])
    have ht : (t == [49]) = false := by simpa using h1
    clear h1
    go_enter Try.func21, Try.ntmps21
    go_wp2_with fail
    go_loopw [6, 7] (fun out i wr => ∃ k : Nat, k ≤ t.length ∧ i = .int .i64 k ∧ OwI wr w.heap.size out ((t.take k).map eqCh) ∧ Below w.heap.size w wr)
      (fun _ i _ => t.length - (intOf i).toNat)
    case atStart => exact ⟨0, Nat.zero_le _, rfl, OwI_lit _ [] I64s_nil (by simp) (Nat.le_refl _), (by repeat (first | exact Below.refl _ _ | (refine Below.setCell ?_ (by first | omega | (simp <;> omega)) _) | (refine bel_drewN ?_ _) | (refine Below.drew ?_) | (refine Below.alloc ?_ (by first | omega | (simp <;> omega)) _)))⟩
    case round =>
      obtain ⟨k, hk, rfl, hown, hbel⟩ := hrel
      have hsz := hbel.size
      have hal : ((t.take k).map eqCh).length ≤ 1048576 := by simp; omega
      by_cases hlt : k < t.length
      · have HS0 : (t.take (k + 1)).map eqCh = (t.take k).map eqCh ++ [eqN t[k].toNat] := by rw [List.take_succ_eq_append_getElem hlt, List.map_append]; rfl
        have hltb : k < ({ data := t.toArray } : ByteArray).size := by show k < t.toArray.size; simpa using hlt
        have hbn : (({ data := t.toArray } : ByteArray)[k]'hltb).toNat = t[k].toNat := rfl
        have hcb : t[k].toNat < 256 := t[k].toNat_lt
        have HS := Lib.hid HS0
        clear HS0
        generalize t[k].toNat = n at hbn hcb HS
        generalize (t.take k).map eqCh = acc at hown HS hal
        have HO := Lib.hid hown
        have HE := Lib.hid (eqN_I64 n)
        obtain ⟨A1, c1, rfl, _⟩ := hown.form
        clear hown
        rcases e1 : (((n : Nat) : Int) == 120) with _ | _
        · rcases e2 : (((n : Nat) : Int) == 88) with _ | _
          · have FE : Hid (eqN n = letN n) := Lib.hid (by simp at e1 e2; unfold eqN; rw [if_neg (by omega), if_neg (by omega)])
            have HLI : Hid (I64 (letN n)) := Lib.hid (by have := letN_I64 n; unfold I64; omega)
            go_wp2_with (first
              | (go_at_call 46; refine (letterOf_any n _ hcb).mono ?_; rintro e w' ⟨rfl, rfl⟩)
              | (at_builtin; refine push_int rfl (.tmp 20) (.tmp 25) rfl _ _ _ (OwI.alloc HO.out _) rfl _ _ rfl (cell_new1 _ _ _) HLI.out (by first | omega | (simp <;> omega)) (by first | omega | (simp <;> omega)) ?_; intro v1 wv1 o1 g1 p1))
            go_roundw
            case rel => exact ⟨k + 1, by omega, by go_num, by rw [HS.out, FE.out]; exact o1, bel_push hbel hsz HO.out.1 (Nat.le_refl _) g1⟩
            case measure => simp [intOf]; omega
          · have FE : Hid (eqN n = -9) := Lib.hid (eqN_88 e2)
            have HLI : Hid (I64 (-9)) := Lib.hid (by unfold I64; omega)
            go_wp2_with (at_builtin; refine push_int rfl (.tmp 34) (.tmp 35) rfl _ _ _ (OwI.alloc HO.out _) rfl _ _ rfl (cell_new1 _ _ _) HLI.out (by first | omega | (simp <;> omega)) (by first | omega | (simp <;> omega)) ?_; intro v1 wv1 o1 g1 p1)
            go_roundw
            case rel => exact ⟨k + 1, by omega, by go_num, by rw [HS.out, FE.out]; exact o1, bel_push hbel hsz HO.out.1 (Nat.le_refl _) g1⟩
            case measure => simp [intOf]; omega
        · have FE : Hid (eqN n = 9) := Lib.hid (eqN_120 e1)
          have HLI : Hid (I64 9) := Lib.hid (by unfold I64; omega)
          go_wp2_with (at_builtin; refine push_int rfl (.tmp 29) (.tmp 30) rfl _ _ _ (OwI.alloc HO.out _) rfl _ _ rfl (cell_new1 _ _ _) HLI.out (by first | omega | (simp <;> omega)) (by first | omega | (simp <;> omega)) ?_; intro v1 wv1 o1 g1 p1)
          go_roundw
          case rel => exact ⟨k + 1, by omega, by go_num, by rw [HS.out, FE.out]; exact o1, bel_push hbel hsz HO.out.1 (Nat.le_refl _) g1⟩
          case measure => simp [intOf]; omega
      · obtain rfl : k = t.length := by omega
        rw [List.take_length, ← HP.out] at hown
        rw [List.take_length, ← HP.out] at hal
        have HO := Lib.hid hown
        have HOK : Hid (okP r t = (eqB r (parE t) && decide (fmtEq (parE t) = t))) := Lib.hid rfl
        have HPF : Hid (parF r t = if okP r t then (parE t, true) else ([], false)) := Lib.hid rfl
        obtain ⟨A1, c1, rfl, _⟩ := hown.form
        clear hown
        rcases eb : eqB r (parE t) with _ | _
        · have C := fun W h => implIsEquation_any r (.slice A1 (parE t).length c1) (parE t) W h (by omega)
          rw [eb] at C
          have CC := Lib.hid C
          have F : Hid (parF r t = ([], false)) := Lib.hid (by rw [HPF.out, HOK.out, eb]; rfl)
          clear C eb
          go_wp2_with (go_at_call 9; refine (CC.out _ HO.out.arg).mono ?_; rintro e w' ⟨rfl, rfl⟩)
          go_ret2
          rw [F.out]
          exact ⟨_, rfl, OwI_lit _ [] I64s_nil (by simp) hsz, hbel.alloc hsz _⟩
        · have C := fun W h => implIsEquation_any r (.slice A1 (parE t).length c1) (parE t) W h (by omega)
          rw [eb] at C
          have CC := Lib.hid C
          rcases ef : (fmtEq (parE t) == t) with _ | _
          · have F : Hid (parF r t = ([], false)) := Lib.hid (by rw [HPF.out, HOK.out, eb, decide_eq_false (by simpa using ef)]; rfl)
            clear C eb
            go_wp2_with (first
              | (go_at_call 9; refine (CC.out _ HO.out.arg).mono ?_; rintro e w' ⟨rfl, rfl⟩)
              | (go_at_call 20; refine (implFormatEquation_any _ (parE t) _ HO.out.arg (by omega)).mono ?_; unfold str; rintro e w' ⟨rfl, rfl⟩))
            go_ret2
            rw [F.out]
            exact ⟨_, rfl, OwI_lit _ [] I64s_nil (by simp) hsz, hbel.alloc hsz _⟩
          · have F : Hid (parF r t = (parE t, true)) := Lib.hid (by rw [HPF.out, HOK.out, eb, decide_eq_true (by simpa using ef)]; rfl)
            clear C eb
            go_wp2_with (first
              | (go_at_call 9; refine (CC.out _ HO.out.arg).mono ?_; rintro e w' ⟨rfl, rfl⟩)
              | (go_at_call 20; refine (implFormatEquation_any _ (parE t) _ HO.out.arg (by omega)).mono ?_; unfold str; rintro e w' ⟨rfl, rfl⟩))
            go_ret2
            rw [F.out]
            exact ⟨_, rfl, HO.out, hbel⟩
def pw1 (n : Nat) : List Int × Bool := if letN n ≠ 0 then ([letN n], true) else if n = 49 then ([], true) else ([], false)
theorem byte_of {c : UInt8} {n : Nat} (h : c.toNat = n) (hn : n < 256) : c = UInt8.ofNat n := by
  subst h; simp
set_option maxHeartbeats 1000000 in
theorem specParseWord1_any (c : UInt8) (w : World) :
    Calls Try.prog 49 #[.int .i64 3, .string ⟨#[c]⟩] w fun o w' => ∃ u, o = .returned (.tuple #[u, .bool (pw1 c.toNat).2]) ∧ OwI w' w.heap.size u (pw1 c.toNat).1 ∧ Below w.heap.size w w' := by
  have hcb : c.toNat < 256 := c.toNat_lt
  rcases nat_cases c.toNat with h | h | h | h | h | h | ⟨h1, h2⟩
  · obtain rfl : c = 97 := by rw [byte_of h (by omega)]; rfl
    have hb0 : (({ data := #[97] } : ByteArray)[0]'(by decide)).toNat = 97 := rfl
    have HLI : Hid (I64 (1)) := Lib.hid (by unfold I64; omega)
    have HOA : Hid (OwI (w.alloc (.cells #[] 3)) w.heap.size (.slice (some ⟨w.heap.size, 0, none⟩) 0 0) []) := Lib.hid (OwI_lit w [] I64s_nil (by simp) (Nat.le_refl _))
    have HBA : Hid (Below w.heap.size w (w.alloc (.cells #[] 3))) := Lib.hid (by repeat (first | exact Below.refl _ _ | (refine Below.setCell ?_ (by first | omega | (simp <;> omega)) _) | (refine bel_drewN ?_ _) | (refine Below.drew ?_) | (refine Below.alloc ?_ (by first | omega | (simp <;> omega)) _)))
    clear h hcb
    go_enter Try.func49, Try.ntmps49
    go_wp2_with fail
    generalize w.alloc (Obj.cells #[] 3) = w0 at HOA HBA ⊢
    have hs0 := HBA.out.size
    refine wp_loop_rounds 2 ?_
    rw [rounds_succ]
    go_wp2_with (at_builtin; refine push_int rfl (.tmp 31) (.tmp 38) rfl _ _ _ (OwI.alloc HOA.out _) rfl _ _ rfl (cell_new1 _ _ _) HLI.out (by first | omega | (simp <;> omega)) (by first | omega | (simp <;> omega)) ?_; intro v1 wv1 o1 g1 p1)
    rw [rounds_succ]
    obtain ⟨A1, c1, rfl, _⟩ := OwI.form o1
    have C := fun W (h : ArgI W (.slice A1 1 c1) [1]) => specIsWord_any 3 (.slice A1 1 c1) [1] W h (by simp)
    rw [show wordB 3 [1] = true by decide +kernel] at C
    have CC := Lib.hid C
    have O1 := Lib.hid o1
    have HB1 := Lib.hid (bel_push HBA.out hs0 HOA.out.1 (Nat.le_refl _) g1)
    clear C o1 g1 p1
    go_wp2_with (go_at_call 53; refine (CC.out _ O1.out.arg).mono ?_; rintro e w' ⟨rfl, n9, rfl⟩)
    go_ret2
    exact ⟨_, rfl, O1.out.drewN _, bel_drewN HB1.out _⟩
  · obtain rfl : c = 98 := by rw [byte_of h (by omega)]; rfl
    have hb0 : (({ data := #[98] } : ByteArray)[0]'(by decide)).toNat = 98 := rfl
    have HLI : Hid (I64 (2)) := Lib.hid (by unfold I64; omega)
    have HOA : Hid (OwI (w.alloc (.cells #[] 3)) w.heap.size (.slice (some ⟨w.heap.size, 0, none⟩) 0 0) []) := Lib.hid (OwI_lit w [] I64s_nil (by simp) (Nat.le_refl _))
    have HBA : Hid (Below w.heap.size w (w.alloc (.cells #[] 3))) := Lib.hid (by repeat (first | exact Below.refl _ _ | (refine Below.setCell ?_ (by first | omega | (simp <;> omega)) _) | (refine bel_drewN ?_ _) | (refine Below.drew ?_) | (refine Below.alloc ?_ (by first | omega | (simp <;> omega)) _)))
    clear h hcb
    go_enter Try.func49, Try.ntmps49
    go_wp2_with fail
    generalize w.alloc (Obj.cells #[] 3) = w0 at HOA HBA ⊢
    have hs0 := HBA.out.size
    refine wp_loop_rounds 2 ?_
    rw [rounds_succ]
    go_wp2_with (at_builtin; refine push_int rfl (.tmp 31) (.tmp 38) rfl _ _ _ (OwI.alloc HOA.out _) rfl _ _ rfl (cell_new1 _ _ _) HLI.out (by first | omega | (simp <;> omega)) (by first | omega | (simp <;> omega)) ?_; intro v1 wv1 o1 g1 p1)
    rw [rounds_succ]
    obtain ⟨A1, c1, rfl, _⟩ := OwI.form o1
    have C := fun W (h : ArgI W (.slice A1 1 c1) [2]) => specIsWord_any 3 (.slice A1 1 c1) [2] W h (by simp)
    rw [show wordB 3 [2] = true by decide +kernel] at C
    have CC := Lib.hid C
    have O1 := Lib.hid o1
    have HB1 := Lib.hid (bel_push HBA.out hs0 HOA.out.1 (Nat.le_refl _) g1)
    clear C o1 g1 p1
    go_wp2_with (go_at_call 53; refine (CC.out _ O1.out.arg).mono ?_; rintro e w' ⟨rfl, n9, rfl⟩)
    go_ret2
    exact ⟨_, rfl, O1.out.drewN _, bel_drewN HB1.out _⟩
  · obtain rfl : c = 99 := by rw [byte_of h (by omega)]; rfl
    have hb0 : (({ data := #[99] } : ByteArray)[0]'(by decide)).toNat = 99 := rfl
    have HLI : Hid (I64 (3)) := Lib.hid (by unfold I64; omega)
    have HOA : Hid (OwI (w.alloc (.cells #[] 3)) w.heap.size (.slice (some ⟨w.heap.size, 0, none⟩) 0 0) []) := Lib.hid (OwI_lit w [] I64s_nil (by simp) (Nat.le_refl _))
    have HBA : Hid (Below w.heap.size w (w.alloc (.cells #[] 3))) := Lib.hid (by repeat (first | exact Below.refl _ _ | (refine Below.setCell ?_ (by first | omega | (simp <;> omega)) _) | (refine bel_drewN ?_ _) | (refine Below.drew ?_) | (refine Below.alloc ?_ (by first | omega | (simp <;> omega)) _)))
    clear h hcb
    go_enter Try.func49, Try.ntmps49
    go_wp2_with fail
    generalize w.alloc (Obj.cells #[] 3) = w0 at HOA HBA ⊢
    have hs0 := HBA.out.size
    refine wp_loop_rounds 2 ?_
    rw [rounds_succ]
    go_wp2_with (at_builtin; refine push_int rfl (.tmp 31) (.tmp 38) rfl _ _ _ (OwI.alloc HOA.out _) rfl _ _ rfl (cell_new1 _ _ _) HLI.out (by first | omega | (simp <;> omega)) (by first | omega | (simp <;> omega)) ?_; intro v1 wv1 o1 g1 p1)
    rw [rounds_succ]
    obtain ⟨A1, c1, rfl, _⟩ := OwI.form o1
    have C := fun W (h : ArgI W (.slice A1 1 c1) [3]) => specIsWord_any 3 (.slice A1 1 c1) [3] W h (by simp)
    rw [show wordB 3 [3] = true by decide +kernel] at C
    have CC := Lib.hid C
    have O1 := Lib.hid o1
    have HB1 := Lib.hid (bel_push HBA.out hs0 HOA.out.1 (Nat.le_refl _) g1)
    clear C o1 g1 p1
    go_wp2_with (go_at_call 53; refine (CC.out _ O1.out.arg).mono ?_; rintro e w' ⟨rfl, n9, rfl⟩)
    go_ret2
    exact ⟨_, rfl, O1.out.drewN _, bel_drewN HB1.out _⟩
  · obtain rfl : c = 65 := by rw [byte_of h (by omega)]; rfl
    have hb0 : (({ data := #[65] } : ByteArray)[0]'(by decide)).toNat = 65 := rfl
    have HLI : Hid (I64 (-1)) := Lib.hid (by unfold I64; omega)
    have HOA : Hid (OwI (w.alloc (.cells #[] 3)) w.heap.size (.slice (some ⟨w.heap.size, 0, none⟩) 0 0) []) := Lib.hid (OwI_lit w [] I64s_nil (by simp) (Nat.le_refl _))
    have HBA : Hid (Below w.heap.size w (w.alloc (.cells #[] 3))) := Lib.hid (by repeat (first | exact Below.refl _ _ | (refine Below.setCell ?_ (by first | omega | (simp <;> omega)) _) | (refine bel_drewN ?_ _) | (refine Below.drew ?_) | (refine Below.alloc ?_ (by first | omega | (simp <;> omega)) _)))
    clear h hcb
    go_enter Try.func49, Try.ntmps49
    go_wp2_with fail
    generalize w.alloc (Obj.cells #[] 3) = w0 at HOA HBA ⊢
    have hs0 := HBA.out.size
    refine wp_loop_rounds 2 ?_
    rw [rounds_succ]
    go_wp2_with (at_builtin; refine push_int rfl (.tmp 51) (.tmp 59) rfl _ _ _ (OwI.alloc HOA.out _) rfl _ _ rfl (cell_new1 _ _ _) HLI.out (by first | omega | (simp <;> omega)) (by first | omega | (simp <;> omega)) ?_; intro v1 wv1 o1 g1 p1)
    rw [rounds_succ]
    obtain ⟨A1, c1, rfl, _⟩ := OwI.form o1
    have C := fun W (h : ArgI W (.slice A1 1 c1) [-1]) => specIsWord_any 3 (.slice A1 1 c1) [-1] W h (by simp)
    rw [show wordB 3 [-1] = true by decide +kernel] at C
    have CC := Lib.hid C
    have O1 := Lib.hid o1
    have HB1 := Lib.hid (bel_push HBA.out hs0 HOA.out.1 (Nat.le_refl _) g1)
    clear C o1 g1 p1
    go_wp2_with (go_at_call 53; refine (CC.out _ O1.out.arg).mono ?_; rintro e w' ⟨rfl, n9, rfl⟩)
    go_ret2
    exact ⟨_, rfl, O1.out.drewN _, bel_drewN HB1.out _⟩
  · obtain rfl : c = 66 := by rw [byte_of h (by omega)]; rfl
    have hb0 : (({ data := #[66] } : ByteArray)[0]'(by decide)).toNat = 66 := rfl
    have HLI : Hid (I64 (-2)) := Lib.hid (by unfold I64; omega)
    have HOA : Hid (OwI (w.alloc (.cells #[] 3)) w.heap.size (.slice (some ⟨w.heap.size, 0, none⟩) 0 0) []) := Lib.hid (OwI_lit w [] I64s_nil (by simp) (Nat.le_refl _))
    have HBA : Hid (Below w.heap.size w (w.alloc (.cells #[] 3))) := Lib.hid (by repeat (first | exact Below.refl _ _ | (refine Below.setCell ?_ (by first | omega | (simp <;> omega)) _) | (refine bel_drewN ?_ _) | (refine Below.drew ?_) | (refine Below.alloc ?_ (by first | omega | (simp <;> omega)) _)))
    clear h hcb
    go_enter Try.func49, Try.ntmps49
    go_wp2_with fail
    generalize w.alloc (Obj.cells #[] 3) = w0 at HOA HBA ⊢
    have hs0 := HBA.out.size
    refine wp_loop_rounds 2 ?_
    rw [rounds_succ]
    go_wp2_with (at_builtin; refine push_int rfl (.tmp 51) (.tmp 59) rfl _ _ _ (OwI.alloc HOA.out _) rfl _ _ rfl (cell_new1 _ _ _) HLI.out (by first | omega | (simp <;> omega)) (by first | omega | (simp <;> omega)) ?_; intro v1 wv1 o1 g1 p1)
    rw [rounds_succ]
    obtain ⟨A1, c1, rfl, _⟩ := OwI.form o1
    have C := fun W (h : ArgI W (.slice A1 1 c1) [-2]) => specIsWord_any 3 (.slice A1 1 c1) [-2] W h (by simp)
    rw [show wordB 3 [-2] = true by decide +kernel] at C
    have CC := Lib.hid C
    have O1 := Lib.hid o1
    have HB1 := Lib.hid (bel_push HBA.out hs0 HOA.out.1 (Nat.le_refl _) g1)
    clear C o1 g1 p1
    go_wp2_with (go_at_call 53; refine (CC.out _ O1.out.arg).mono ?_; rintro e w' ⟨rfl, n9, rfl⟩)
    go_ret2
    exact ⟨_, rfl, O1.out.drewN _, bel_drewN HB1.out _⟩
  · obtain rfl : c = 67 := by rw [byte_of h (by omega)]; rfl
    have hb0 : (({ data := #[67] } : ByteArray)[0]'(by decide)).toNat = 67 := rfl
    have HLI : Hid (I64 (-3)) := Lib.hid (by unfold I64; omega)
    have HOA : Hid (OwI (w.alloc (.cells #[] 3)) w.heap.size (.slice (some ⟨w.heap.size, 0, none⟩) 0 0) []) := Lib.hid (OwI_lit w [] I64s_nil (by simp) (Nat.le_refl _))
    have HBA : Hid (Below w.heap.size w (w.alloc (.cells #[] 3))) := Lib.hid (by repeat (first | exact Below.refl _ _ | (refine Below.setCell ?_ (by first | omega | (simp <;> omega)) _) | (refine bel_drewN ?_ _) | (refine Below.drew ?_) | (refine Below.alloc ?_ (by first | omega | (simp <;> omega)) _)))
    clear h hcb
    go_enter Try.func49, Try.ntmps49
    go_wp2_with fail
    generalize w.alloc (Obj.cells #[] 3) = w0 at HOA HBA ⊢
    have hs0 := HBA.out.size
    refine wp_loop_rounds 2 ?_
    rw [rounds_succ]
    go_wp2_with (at_builtin; refine push_int rfl (.tmp 51) (.tmp 59) rfl _ _ _ (OwI.alloc HOA.out _) rfl _ _ rfl (cell_new1 _ _ _) HLI.out (by first | omega | (simp <;> omega)) (by first | omega | (simp <;> omega)) ?_; intro v1 wv1 o1 g1 p1)
    rw [rounds_succ]
    obtain ⟨A1, c1, rfl, _⟩ := OwI.form o1
    have C := fun W (h : ArgI W (.slice A1 1 c1) [-3]) => specIsWord_any 3 (.slice A1 1 c1) [-3] W h (by simp)
    rw [show wordB 3 [-3] = true by decide +kernel] at C
    have CC := Lib.hid C
    have O1 := Lib.hid o1
    have HB1 := Lib.hid (bel_push HBA.out hs0 HOA.out.1 (Nat.le_refl _) g1)
    clear C o1 g1 p1
    go_wp2_with (go_at_call 53; refine (CC.out _ O1.out.arg).mono ?_; rintro e w' ⟨rfl, n9, rfl⟩)
    go_ret2
    exact ⟨_, rfl, O1.out.drewN _, bel_drewN HB1.out _⟩
  have HOA : Hid (OwI (w.alloc (.cells #[] 3)) w.heap.size (.slice (some ⟨w.heap.size, 0, none⟩) 0 0) []) := Lib.hid (OwI_lit w [] I64s_nil (by simp) (Nat.le_refl _))
  have HBA : Hid (Below w.heap.size w (w.alloc (.cells #[] 3))) := Lib.hid (by repeat (first | exact Below.refl _ _ | (refine Below.setCell ?_ (by first | omega | (simp <;> omega)) _) | (refine bel_drewN ?_ _) | (refine Below.drew ?_) | (refine Below.alloc ?_ (by first | omega | (simp <;> omega)) _)))
  by_cases h49 : c = 49
  · subst h49
    have C := fun W (h : ArgI W (.slice (some ⟨w.heap.size, 0, none⟩) 0 0) []) => specIsWord_any 3 (.slice (some ⟨w.heap.size, 0, none⟩) 0 0) [] W h (by simp)
    rw [show wordB 3 [] = true by decide +kernel] at C
    have CC := Lib.hid C
    clear C h1 h2 hcb
    go_enter Try.func49, Try.ntmps49
    go_wp2_with fail
    generalize w.alloc (Obj.cells #[] 3) = w0 at HOA HBA ⊢
    refine wp_loop_rounds 1 ?_
    rw [rounds_succ]
    go_wp2_with (go_at_call 53; refine (CC.out _ HOA.out.arg).mono ?_; rintro e w' ⟨rfl, n9, rfl⟩)
    go_ret2
    exact ⟨_, rfl, HOA.out.drewN _, bel_drewN HBA.out _⟩
  have hs49 : ([c] == [49]) = false := by simp; exact h49
  have hb0 : (({ data := #[c] } : ByteArray)[0]'(by show 0 < 1; omega)).toNat = c.toNat := rfl
  have hn49 : c.toNat ≠ 49 := fun e => h49 (by rw [byte_of e (by omega)]; rfl)
  have F : Hid (pw1 c.toNat = ([], false)) := Lib.hid (by unfold pw1 letN; rw [if_neg h1, if_neg h2, if_neg (by simp), if_neg hn49])
  clear h49 hn49
  generalize c.toNat = n at hb0 hcb h1 h2 F ⊢
  have hn2 : (n : Int) < 256 := by omega
  rcases Nat.lt_or_ge n 65 with h | h
  · have t1 : ¬ (97 : Int) ≤ (n : Int) := by omega
    have t2 : ¬ (65 : Int) ≤ (n : Int) := by omega
    clear h1 h2 h
    go_enter Try.func49, Try.ntmps49
    go_wp2_with fail
    generalize w.alloc (Obj.cells #[] 3) = w0 at HOA HBA ⊢
    have hs0 := HBA.out.size
    refine wp_loop_rounds 1 ?_
    rw [rounds_succ]
    go_wp2
    go_ret2
    rw [F.out]
    exact ⟨_, rfl, OwI_lit _ [] I64s_nil (by simp) hs0, HBA.out.alloc hs0 _⟩
  · rcases Nat.lt_or_ge n 97 with h' | h'
    · have t1 : ¬ (97 : Int) ≤ (n : Int) := by omega
      have t2 : (65 : Int) ≤ (n : Int) := by omega
      have t3 : ¬ (n : Int) ≤ 67 := by omega
      clear h1 h2 h h'
      go_enter Try.func49, Try.ntmps49
      go_wp2_with fail
      generalize w.alloc (Obj.cells #[] 3) = w0 at HOA HBA ⊢
      have hs0 := HBA.out.size
      refine wp_loop_rounds 1 ?_
      rw [rounds_succ]
      go_wp2
      go_ret2
      rw [F.out]
      exact ⟨_, rfl, OwI_lit _ [] I64s_nil (by simp) hs0, HBA.out.alloc hs0 _⟩
    · have t1 : (97 : Int) ≤ (n : Int) := by omega
      have t2 : ¬ (n : Int) ≤ 99 := by omega
      have t3 : (65 : Int) ≤ (n : Int) := by omega
      have t4 : ¬ (n : Int) ≤ 67 := by omega
      clear h1 h2 h h'
      go_enter Try.func49, Try.ntmps49
      go_wp2_with fail
      generalize w.alloc (Obj.cells #[] 3) = w0 at HOA HBA ⊢
      have hs0 := HBA.out.size
      refine wp_loop_rounds 1 ?_
      rw [rounds_succ]
      go_wp2
      go_ret2
      rw [F.out]
      exact ⟨_, rfl, OwI_lit _ [] I64s_nil (by simp) hs0, HBA.out.alloc hs0 _⟩
end Go.Proofs.Ytgoghkboklehnaa
