/- The program's product of lists: the reduced product of what it is handed. MultiplyWords of the reference. -/
import Derived.Outline
import Derived.Test.YtgoghkboklehnaaWord
namespace Go.Proofs.Ytgoghkboklehnaa
set_option maxRecDepth 20000
set_option linter.unusedVariables false
set_option linter.unusedSimpArgs false
open Go.RowKit

set_option maxHeartbeats 1000000 in
theorem specMultiplyWords_any (u v : Value) (xs ys : List Int) (w : World) (h : RdI w u xs) (h' : RdI w v ys) (hl : xs.length ≤ 536870912) (hl' : ys.length ≤ 536870912) :
    Calls Try.prog 40 #[u, v] w fun e w' => ∃ r, e = .returned r ∧ OwI w' w.heap.size r (redL [] (xs ++ ys)) ∧ Below w.heap.size w w' := by
  have H := Lib.hid h
  have H' := Lib.hid h'
  clear h h'
  go_enter Try.func40, Try.ntmps40
  go_wp2_with (first
    | (at_builtin; refine append_ints rfl (.tmp 5) (.tmp 6) rfl w.heap.size _ [] (OwI_lit w [] I64s_nil (by simp) (Nat.le_refl _)) rfl _ _ (H.out.alloc _) rfl (by simp only [List.length_nil]; omega) (by simp) ?_; intro v1 w1 o1 g1 p1; have O1 := Lib.hid o1; have hb1 : Hid (Below w.heap.size w w1) := Lib.hid (((Below.refl _ _).alloc (Nat.le_refl _) _).grown g1 (by simp) (fun k hk => by simp [Value.ownBlock] at hk; omega)); clear o1 g1 p1)
    | (at_builtin; have hs1 := hb1.out.size; refine append_ints rfl (.tmp 7) (.tmp 8) rfl w.heap.size _ _ O1.out rfl _ _ (H'.out.below hb1.out) rfl (by simp only [List.length_append, List.length_nil]; omega) hs1 ?_; intro v2 w2 o2 g2 p2; have O2 := Lib.hid o2; have hb2 : Hid (Below w.heap.size w w2) := Lib.hid (hb1.out.grown g2 hs1 (fun k hk => (O1.out.1.lt k hk).1)); clear o2 g2 p2))
  have hs2 := hb2.out.size
  refine (specReduceLetters_any _ _ _ O2.out.rd (by simp only [List.length_append, List.length_nil]; omega)).mono ?_
  rintro e w3 ⟨r3, rfl, o3, b3⟩
  have O3 := Lib.hid o3
  have B3 := Lib.hid b3
  clear o3 b3
  go_wp2
  go_ret
  exact ⟨_, rfl, by have := O3.out.mono hs2; simpa using this, hb2.out.trans (B3.out.mono hs2)⟩
def redLL (L : List (List Int)) : List Int := redL [] L.flatten
def lenLL (L : List (List Int)) : Nat := (L.map List.length).sum
theorem redLL_succ (L : List (List Int)) (k : Nat) (h : k < L.length) : redLL (L.take (k + 1)) = redL (redLL (L.take k)) L[k] := by
  unfold redLL redL
  rw [List.take_succ_eq_append_getElem h, List.flatten_append, List.foldl_append]
  simp
theorem lenLL_take (L : List (List Int)) (k : Nat) (h : k < L.length) : lenLL (L.take k) + L[k].length ≤ lenLL L := by
  unfold lenLL
  have : L = L.take k ++ L[k] :: L.drop (k + 1) := by rw [← List.drop_eq_getElem_cons h, List.take_append_drop]
  have e := congrArg (fun l => (l.map List.length).sum) this
  simp only [List.map_append, List.map_cons, List.sum_append, List.sum_cons] at e
  omega
theorem redLL_len (L : List (List Int)) : (redLL L).length ≤ lenLL L := by
  have := redL_len [] L.flatten
  simp only [redLL, lenLL, List.length_flatten, List.length_nil] at *
  omega
theorem redLL_I64 {L : List (List Int)} (h : ∀ l ∈ L, I64s l) : I64s (redLL L) :=
  redL_I64 I64s_nil fun x hx => by
    obtain ⟨l, hl, hx⟩ := List.mem_flatten.1 hx
    exact h l hl x hx

set_option maxHeartbeats 1000000 in
theorem product_any (v : Value) (L : List (List Int)) (w : World) (h : RdII w v L) (hl : lenLL L ≤ 1073741824) (hn : L.length ≤ 1073741824) :
    Calls Try.prog 39 #[v] w fun e w' => ∃ r, e = .returned r ∧ OwI w' w.heap.size r (redLL L) ∧ Below w.heap.size w w' := by
  have H := Lib.hid h
  obtain ⟨A, cap, rfl, hcap, hm, hA⟩ := h.form
  have HA := Lib.hid hA
  clear h hA
  unfold maxLen at hm
  go_enter Try.func39, Try.ntmps39
  go_wp2
  go_loopw [3, 11] (fun out i wr => ∃ k : Nat, k ≤ L.length ∧ i = .int .i64 k ∧ OwI wr w.heap.size out (redLL (L.take k)) ∧ Below w.heap.size w wr)
    (fun _ i _ => L.length - (intOf i).toNat)
  case atStart => exact ⟨0, Nat.zero_le _, rfl, OwI_lit _ [] I64s_nil (by simp) (Nat.le_refl _), (Below.refl _ _).alloc (Nat.le_refl _) _⟩
  case round =>
    obtain ⟨k, hk, rfl, hown, hbel⟩ := hrel
    have hsz := hbel.size
    by_cases hlt : k < L.length
    · have hll := lenLL_take L k hlt
      have hkl := redLL_len (L.take k)
      obtain ⟨b, off, A1, cap1, rfl, hbl, hcell0, hc1, hm1, hrd⟩ := H.out.at hlt
      have hcell := (hbel.cell hbl).trans hcell0
      clear hcell0
      have HS := Lib.hid (redLL_succ L k hlt)
      generalize redLL (L.take k) = acc0 at hown hkl HS
      have HR := Lib.hid hrd
      clear hrd
      generalize L[k] = ys at hcell hc1 HR hll HS
      have HO := Lib.hid hown
      have HB := Lib.hid hbel
      clear hown hbel
      unfold maxLen at hm1
      obtain ⟨wo, rfl⟩ : ∃ wo : World, wo = wr := ⟨_, rfl⟩
      go_wp2
      go_loopw [3, 17] (fun out j wi => ∃ m : Nat, m ≤ ys.length ∧ j = .int .i64 m ∧ OwI wi w.heap.size out (redL acc0 (ys.take m)) ∧ Below w.heap.size w wi)
        (fun _ j _ => ys.length - (intOf j).toNat)
      case atStart => exact ⟨0, Nat.zero_le _, rfl, HO.out, HB.out⟩
      case round =>
        obtain ⟨m, hm', rfl, hown, hbel⟩ := hrel
        have hsz' := hbel.size
        have hal : (redL acc0 (ys.take m)).length ≤ acc0.length + m := by have := redL_len acc0 (ys.take m); have := List.length_take_le m ys; omega
        by_cases hlt' : m < ys.length
        · obtain ⟨b', off', rfl, hbl', hc'⟩ := (HR.out.below hbel).at (by omega)
          have hcell' := hc' m hlt'
          have HS' := Lib.hid (redL_succ acc0 ys m hlt')
          have HX := Lib.hid (HR.out.2 ys[m] (by simp))
          clear hc'
          generalize redL acc0 (ys.take m) = acc at hown hal HS'
          generalize ys[m] = x at hcell' HS' HX
          have HO' := Lib.hid hown
          obtain ⟨A1, cap1', rfl, hcap1, hm1', _, hform⟩ := hown.form
          unfold maxLen at hm1'
          by_cases h0 : 0 < acc.length
          · obtain ⟨g, rfl, hg1, hg2⟩ := hform h0
            obtain ⟨b1, off1, hA1, _, hc1⟩ := hown.rd.at h0
            obtain ⟨rfl, rfl⟩ : g = b1 ∧ 0 = off1 := by simpa using hA1
            have hlast := hc1 (acc.length - 1) (by omega)
            rw [Nat.zero_add] at hlast
            have HLI := Lib.hid (hown.2 acc[acc.length - 1] (by simp))
            have HC := Lib.hid (red1_cut (x := x) h0)
            have HP := Lib.hid (red1_push (x := x) h0)
            generalize acc[acc.length - 1] = last at hlast HLI HC HP
            have hd0 : decide ((0 : Int) < (acc.length : Int)) = true := by simp; omega
            clear hc1 hform hown hA1
            rcases hi : invB last x with _ | _
            · have PF := Lib.hid (HP.out hi)
              have hi' := areInverse_any last x
              rw [hi] at hi'
              have HI := Lib.hid hi'
              clear hi hi'
              go_wp2_with (first | (go_at_call 59; refine (HI.out _ HLI.out).mono ?_; rintro e w' ⟨rfl, rfl⟩) | (at_builtin; refine push_int rfl (.tmp 39) (.tmp 41) rfl _ _ _ (OwI.alloc HO'.out _) rfl _ _ rfl (cell_new1 _ _ _) HX.out (by first | omega | (simp <;> omega)) (by first | omega | (simp <;> omega)) ?_; intro v1 wv1 o1 g1 p1))
              go_roundw
              case rel => exact ⟨m + 1, by omega, by go_num, by rw [HS'.out, PF.out]; exact o1, bel_push hbel hsz' HO'.out.1 (Nat.le_refl _) g1⟩
              case measure => simp [intOf]; omega
            · have PF := Lib.hid (HC.out hi)
              have hi' := areInverse_any last x
              rw [hi] at hi'
              have HI := Lib.hid hi'
              clear hi hi'
              go_wp2_with (go_at_call 59; refine (HI.out _ HLI.out).mono ?_; rintro e w' ⟨rfl, rfl⟩)
              go_roundw
              case rel => exact ⟨m + 1, by omega, by go_num, by rw [HS'.out, PF.out]; exact owI_cut HO'.out (by omega), hbel⟩
              case measure => simp [intOf]; omega
          · obtain rfl : acc = [] := List.eq_nil_of_length_eq_zero (by omega)
            clear hform hown
            go_wp2_with (at_builtin; refine push_int rfl (.tmp 39) (.tmp 41) rfl _ _ _ (OwI.alloc HO'.out _) rfl _ _ rfl (cell_new1 _ _ _) HX.out (by first | omega | (simp <;> omega)) (by first | omega | (simp <;> omega)) ?_; intro v1 wv1 o1 g1 p1)
            go_roundw
            case rel => exact ⟨m + 1, by omega, by go_num, by rw [HS'.out]; exact o1, bel_push hbel hsz' HO'.out.1 (Nat.le_refl _) g1⟩
            case measure => simp [intOf]; omega
        · obtain rfl : m = ys.length := by omega
          rw [List.take_length] at hown
          have HO' := Lib.hid hown
          have HB' := Lib.hid hbel
          clear hown hbel
          go_wp2
          go_roundw
          case rel => exact ⟨k + 1, by omega, by go_num, by rw [HS.out]; exact HO'.out, HB'.out⟩
          case measure => simp [intOf]; omega
    · obtain rfl : k = L.length := by omega
      rw [List.take_length] at hown
      go_wp2
      go_ret
      exact ⟨_, rfl, hown, hbel⟩
end Go.Proofs.Ytgoghkboklehnaa
