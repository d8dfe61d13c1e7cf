/- The steps from a vertex by a letter; the next vertex: the program's. -/
import Derived.Test.YtodkandjcodnjaaGrD
namespace Go.Proofs.Ytodkandjcodnjaa
set_option maxRecDepth 20000
set_option linter.unusedVariables false
set_option linter.unusedSimpArgs false
open Go.RowKit

/-! The library's sort of at most one number does nothing. -/
set_option maxHeartbeats 400000 in
theorem ins1_any (v : Value) (n : Int) (w : World) (hn : n = 0 ∨ n = 1) :
    Calls Try.prog 89 #[v, .int .i64 0, .int .i64 n] w fun e w' => e = .returned (.tuple #[]) ∧ w = w' := by
  rcases hn with rfl | rfl
  all_goals (
    go_enter Try.func89, Try.ntmps89
    go_wp2
    refine wp_loop_rounds 1 ?_
    rw [rounds_succ]
    go_wp2
    go_end0
    exact ⟨rfl, rfl⟩)
set_option maxHeartbeats 1000000 in
theorem len64_any (n : Int) (w : World) (hn : n = 0 ∨ n = 1) :
    Calls Try.prog 99 #[.int .u64 n] w fun e w' => (∃ l : Int, e = .returned (.int .i64 l)) ∧ w = w' := by
  rcases hn with rfl | rfl
  · go_enter Try.func99, Try.ntmps99
    go_wp2
    go_ret
    exact ⟨⟨_, rfl⟩, rfl⟩
  · go_enter Try.func99, Try.ntmps99
    go_wp2
    go_ret
    exact ⟨⟨_, rfl⟩, rfl⟩
set_option maxHeartbeats 400000 in
theorem len1_any (n : Int) (w : World) (hn : n = 0 ∨ n = 1) :
    Calls Try.prog 87 #[.int .u64 n] w fun e w' => (∃ l : Int, e = .returned (.int .i64 l)) ∧ w = w' := by
  have h := len64_any n w hn
  have HN := Lib.hid h
  clear h
  rcases hn with rfl | rfl
  all_goals (
    go_enter Try.func87, Try.ntmps87
    go_wp2_with fail
    refine HN.out.mono ?_
    rintro e w' ⟨⟨l, rfl⟩, rfl⟩
    go_wp2
    go_ret
    exact ⟨⟨_, rfl⟩, rfl⟩)
set_option maxHeartbeats 400000 in
theorem pdq1_any (v : Value) (n : Int) (l : Int) (w : World) (hn : n = 0 ∨ n = 1) :
    Calls Try.prog 86 #[v, .int .i64 0, .int .i64 n, .int .i64 l] w fun e w' => e = .returned (.tuple #[]) ∧ w = w' := by
  have h := ins1_any v n w hn
  have HN := Lib.hid h
  clear h
  rcases hn with rfl | rfl
  all_goals (
    go_enter Try.func86, Try.ntmps86
    go_wp2
    refine wp_loop_rounds 1 ?_
    rw [rounds_succ]
    go_wp2_with fail
    refine HN.out.mono ?_
    rintro e w' ⟨rfl, rfl⟩
    go_wp2
    exact bodyPost_ret (v := .tuple #[]) (by simp [results, Try.results86, go_sem]) rfl ⟨rfl, rfl⟩)
set_option maxHeartbeats 400000 in
theorem sort1_any (v : Value) (xs : List Int) (w : World) (h : RdI w v xs) (hn : xs.length ≤ 1) :
    Calls Try.prog 75 #[v] w fun e w' => e = .returned (.tuple #[]) ∧ w = w' := by
  obtain ⟨A, cap, rfl, _⟩ := h.arg
  have hn1 : (xs.length : Int) = 0 ∨ (xs.length : Int) = 1 := by omega
  have H1 := Lib.hid (len1_any (xs.length : Int) w hn1)
  have H2 := Lib.hid (fun l => pdq1_any (.slice A xs.length cap) (xs.length : Int) l w hn1)
  have hw : IntKind.u64.wrap (xs.length : Int) = (xs.length : Int) := by
    rcases hn1 with h | h <;> rw [h] <;> decide +kernel
  clear hn1 h
  go_enter Try.func75, Try.ntmps75
  go_wp2_with fail
  refine H1.out.mono ?_
  rintro e w' ⟨⟨l, rfl⟩, rfl⟩
  go_wp2_with fail
  refine (H2.out l).mono ?_
  rintro e w' ⟨rfl, rfl⟩
  go_wp2
  go_end0
  exact ⟨rfl, rfl⟩
set_option maxHeartbeats 400000 in
theorem compact1_any (A : Option Addr) (n cap : Nat) (w : World) (hn : n ≤ 1) :
    Calls Try.prog 76 #[.slice A n cap] w fun e w' => e = .returned (.slice A n cap) ∧ w = w' := by
  have h1 : (n : Int) < 2 := by omega
  go_enter Try.func76, Try.ntmps76
  go_wp2
  go_ret
  exact ⟨rfl, rfl⟩
set_option maxHeartbeats 2000000 in
theorem implStepsFrom_any (v : Value) (g : GrD) (u x : Int) (w : World) (h : ArgG w v g) (hone : (stepsL g.2.2 u x).length ≤ 1) (hlet : ∀ e ∈ g.2.2, 1 ≤ e.2.1) :
    Calls Try.prog 61 #[v, .int .i64 u, .int .i64 x] w fun e w' => ∃ r, e = .returned r ∧ OwI w' w.heap.size r (stepsL g.2.2 u x) ∧ Below w.heap.size w w' := by
  obtain ⟨s, rfl, _, _, ha⟩ := h
  have H := Lib.hid ha
  obtain ⟨A, cap, rfl, hcap, hm, _, hr, _⟩ := ha
  have HR := Lib.hid hr
  unfold maxLen at hm
  clear hr
  have HLET := Lib.hid hlet
  clear hlet
  go_enter Try.func61, Try.ntmps61
  go_wp2
  have hb : Below w.heap.size w ((w.alloc (Obj.cells #[Value.int IntKind.i64 g.1, Value.int IntKind.i64 g.2.1, .slice A g.2.2.length cap] 36)).alloc (Obj.cells #[] 3)) := (by repeat (first | exact Below.refl _ _ | (refine Below.setCell ?_ (by first | omega | (simp <;> omega)) _) | (refine bel_drewN ?_ _) | (refine Below.drew ?_) | (refine Below.alloc ?_ (by first | omega | (simp <;> omega)) _)))
  have k2 : ((w.alloc (Obj.cells #[Value.int IntKind.i64 g.1, Value.int IntKind.i64 g.2.1, .slice A g.2.2.length cap] 36)).alloc (Obj.cells #[] 3)).cell? ⟨w.heap.size, 2, none⟩ = some (.slice A g.2.2.length cap) := by simp [go_sem]
  have hs0 : w.heap.size + 1 < ((w.alloc (Obj.cells #[Value.int IntKind.i64 g.1, Value.int IntKind.i64 g.2.1, .slice A g.2.2.length cap] 36)).alloc (Obj.cells #[] 3)).heap.size := by simp
  have o0 : OwI ((w.alloc (Obj.cells #[Value.int IntKind.i64 g.1, Value.int IntKind.i64 g.2.1, .slice A g.2.2.length cap] 36)).alloc (Obj.cells #[] 3)) (w.heap.size + 1) (.slice (some ⟨w.heap.size + 1, 0, none⟩) 0 0) [] := OwI_litN (w.alloc (Obj.cells #[Value.int IntKind.i64 g.1, Value.int IntKind.i64 g.2.1, .slice A g.2.2.length cap] 36)) [] (w.heap.size + 1) (by simp) I64s_nil (by simp) (Nat.le_refl _)
  generalize (w.alloc (Obj.cells #[Value.int IntKind.i64 g.1, Value.int IntKind.i64 g.2.1, .slice A g.2.2.length cap] 36)).alloc (Obj.cells #[] 3) = w1 at hb k2 hs0 o0 ⊢
  have HB := Lib.hid hb
  have K2 := Lib.hid k2
  have O0 := Lib.hid o0
  clear hb k2 o0
  go_loopw [7, 14] (fun out i wr => ∃ k : Nat, k ≤ g.2.2.length ∧ i = .int .i64 k ∧ OwI wr (w.heap.size + 1) out (stepsL (g.2.2.take k) u x) ∧ Below (w.heap.size + 1) w1 wr) (fun _ i _ => g.2.2.length - (intOf i).toNat)
  case atStart => exact ⟨0, Nat.zero_le _, rfl, O0.out, Below.refl _ _⟩
  case round =>
    obtain ⟨k, hk, rfl, hown, hbel⟩ := hrel
    have hsz := hbel.size
    have HB3 := Lib.hid (HB.out.trans (hbel.mono (by omega)))
    have p2 := (hbel.cell (p := ⟨w.heap.size, 2, none⟩) (show w.heap.size < w.heap.size + 1 by omega)).trans K2.out
    have HO := Lib.hid hown
    have HB2 := Lib.hid hbel
    obtain ⟨A1, cap1, rfl, hcap1, hm1, _, _⟩ := hown.form
    clear hbel
    by_cases hlt : k < g.2.2.length
    · obtain ⟨b, off, rfl, hbl, c0, c1, c2, _⟩ := (H.out.below HB3.out).at hlt
      have HS := Lib.hid (stepsL_succ g.2.2 u x k hlt)
      have HX := Lib.hid (HR.out g.2.2[k] (by simp))
      have HLE := Lib.hid (HLET.out g.2.2[k] (by simp))
      have hl1 := stepsL_take g.2.2 u x (k + 1)
      have hl0 : (stepsL (g.2.2.take k) u x).length ≤ 1 := by have := stepsL_take g.2.2 u x k; omega
      have HL1 : Hid ((stepsL (g.2.2.take (k + 1)) u x).length ≤ 1) := Lib.hid (by omega)
      clear hl1 hown
      generalize g.2.2[k] = e at *
      obtain ⟨f, l, t⟩ := e
      simp only at c0 c1 c2
      have keep : mt u x (f, l, t) = none → stepsL (g.2.2.take (k + 1)) u x = stepsL (g.2.2.take k) u x := fun e => by rw [HS.out, e]; simp
      have KE := Lib.hid keep
      have put : ∀ y, mt u x (f, l, t) = some y → stepsL (g.2.2.take k) u x = [] ∧ stepsL (g.2.2.take (k + 1)) u x = [y] := fun y e => by
        have h1 := HS.out
        have h2 := HL1.out
        rw [e] at h1
        rw [h1] at h2
        simp at h2
        refine ⟨h2, by rw [h1, h2]; rfl⟩
      have PU := Lib.hid put
      clear keep put
      by_cases hp : 0 < x
      · have hn : ¬ x < 0 := by omega
        rcases e1 : (l == x) with _ | _
        · have F := Lib.hid (KE.out (by simp at e1; simp [mt, hp, e1]))
          go_wp2
          go_roundw
          case rel => exact ⟨k + 1, by omega, by go_num, by rw [F.out]; exact HO.out.alloc _, HB2.out.alloc (by omega) _⟩
          case measure => simp [intOf]; omega
        · rcases e2 : (f == u) with _ | _
          · have F := Lib.hid (KE.out (by simp at e2; simp [mt, hp, e2]))
            go_wp2
            go_roundw
            case rel => exact ⟨k + 1, by omega, by go_num, by rw [F.out]; exact HO.out.alloc _, HB2.out.alloc (by omega) _⟩
            case measure => simp [intOf]; omega
          · have F := Lib.hid (PU.out t (by simp at e1 e2; simp [mt, hp, e1, e2]))
            go_wp2_with (at_builtin; refine push_int rfl (.tmp 33) (.tmp 36) rfl _ _ _ (OwI.alloc (OwI.alloc HO.out _) _) rfl (wr.heap.size + 1) t rfl (by simp [go_sem]) HX.out.2.2 (by omega) (by simp; omega) ?_; intro v9 wv9 o9 g9 p9)
            go_roundw
            case rel => exact ⟨k + 1, by omega, by go_num, by have := o9; rw [F.out.1] at this; rw [F.out.2]; exact this, bel_push (B := w.heap.size + 1) (HB2.out.alloc (by omega) _) (by simp; omega) (OwI.alloc HO.out _).1 (Nat.le_refl _) g9⟩
            case measure => simp [intOf]; omega
      · by_cases hn : x < 0
        · rcases e0 : (x != -9223372036854775808) with _ | _
          · have hx0 : x = -9223372036854775808 := by simpa using e0
            have F := Lib.hid (KE.out (by
              have h1 : wrap64 (-x) = -9223372036854775808 := by rw [hx0]; decide +kernel
              have h2 := HLE.out
              unfold mt
              rw [if_neg hp, if_pos hn, h1, if_neg (fun h => by have := h.1; simp only at this; omega)]))
            go_wp2
            go_roundw
            case rel => exact ⟨k + 1, by omega, by go_num, by rw [F.out]; exact HO.out.alloc _, HB2.out.alloc (by omega) _⟩
            case measure => simp [intOf]; omega
          rcases e1 : (l == wrap64 (-x)) with _ | _
          · have F := Lib.hid (KE.out (by simp at e1; simp [mt, hp, hn, e1]))
            go_wp2
            go_roundw
            case rel => exact ⟨k + 1, by omega, by go_num, by rw [F.out]; exact HO.out.alloc _, HB2.out.alloc (by omega) _⟩
            case measure => simp [intOf]; omega
          · rcases e2 : (t == u) with _ | _
            · have F := Lib.hid (KE.out (by simp at e2; simp [mt, hp, hn, e2]))
              go_wp2
              go_roundw
              case rel => exact ⟨k + 1, by omega, by go_num, by rw [F.out]; exact HO.out.alloc _, HB2.out.alloc (by omega) _⟩
              case measure => simp [intOf]; omega
            · have F := Lib.hid (PU.out f (by simp at e1 e2; simp [mt, hp, hn, e1, e2]))
              go_wp2_with (at_builtin; refine push_int rfl (.tmp 58) (.tmp 61) rfl _ _ _ (OwI.alloc (OwI.alloc HO.out _) _) rfl (wr.heap.size + 1) f rfl (by simp [go_sem]) HX.out.1 (by omega) (by simp; omega) ?_; intro v9 wv9 o9 g9 p9)
              go_roundw
              case rel => exact ⟨k + 1, by omega, by go_num, by have := o9; rw [F.out.1] at this; rw [F.out.2]; exact this, bel_push (B := w.heap.size + 1) (HB2.out.alloc (by omega) _) (by simp; omega) (OwI.alloc HO.out _).1 (Nat.le_refl _) g9⟩
              case measure => simp [intOf]; omega
        · have F := Lib.hid (KE.out (by simp [mt, hp, hn]))
          go_wp2
          go_roundw
          case rel => exact ⟨k + 1, by omega, by go_num, by rw [F.out]; exact HO.out.alloc _, HB2.out.alloc (by omega) _⟩
          case measure => simp [intOf]; omega
    · obtain rfl : k = g.2.2.length := by omega
      clear hown
      rw [List.take_length]
      rw [List.take_length] at HO hcap1
      have hn1 : (stepsL g.2.2 u x).length ≤ 1 := hone
      go_wp2_with fail
      refine (sort1_any _ _ _ HO.out.rd hn1).mono ?_
      rintro e wz ⟨rfl, rfl⟩
      go_wp2_with fail
      refine (compact1_any _ _ _ _ hn1).mono ?_
      rintro e wz ⟨rfl, rfl⟩
      go_wp2
      go_ret
      exact ⟨_, rfl, HO.out.mono (base' := w.heap.size) (by omega), HB3.out⟩
set_option maxHeartbeats 1000000 in
theorem implNextVertex_any (v : Value) (g : GrD) (u x : Int) (w : World) (h : ArgG w v g) (hone : (stepsL g.2.2 u x).length ≤ 1) (hlet : ∀ e ∈ g.2.2, 1 ≤ e.2.1) :
    Calls Try.prog 48 #[v, .int .i64 u, .int .i64 x] w fun e w' => e = .returned (.int .i64 (nextV g.2.2 u x)) ∧ Below w.heap.size w w' := by
  have H := Lib.hid h
  obtain ⟨s, rfl, _, _, ha⟩ := h
  obtain ⟨A, cap, rfl⟩ := ha.form
  obtain ⟨R, hR⟩ : ∃ R, R = nextV g.2.2 u x := ⟨_, rfl⟩
  rw [← hR]
  unfold nextV at hR
  have HR := Lib.hid hR
  clear hR
  go_enter Try.func48, Try.ntmps48
  go_wp2_with fail
  have hb : Below w.heap.size w (w.alloc (Obj.cells #[Value.int IntKind.i64 g.1, Value.int IntKind.i64 g.2.1, .slice A g.2.2.length cap] 36)) := (by repeat (first | exact Below.refl _ _ | (refine Below.setCell ?_ (by first | omega | (simp <;> omega)) _) | (refine bel_drewN ?_ _) | (refine Below.drew ?_) | (refine Below.alloc ?_ (by first | omega | (simp <;> omega)) _)))
  refine (implStepsFrom_any _ g u x _ (H.out.below hb) hone hlet).mono ?_
  rintro e w1 ⟨r, rfl, o1, b1⟩
  have B1 := Lib.hid (hb.trans (b1.mono hb.size))
  generalize stepsL g.2.2 u x = L at o1 HR
  clear hb b1 ha
  obtain ⟨A1, cap1, rfl, hc1, hm1, _, _⟩ := o1.form
  match L, o1, HR with
  | [], o1, HR =>
    have F : Hid (R = -1) := HR
    clear o1
    go_wp2
    go_ret
    exact ⟨ret_int F.out.symm, B1.out⟩
  | y :: L, o1, HR =>
    obtain rfl : R = y := HR.out
    clear HR
    obtain ⟨b, off, rfl, hbl, hc⟩ := o1.rd.at (by simp)
    have c0 := hc 0 (by simp)
    simp only [List.getElem_cons_zero, Nat.add_zero] at c0
    clear o1 hc
    go_wp2
    go_ret
    exact ⟨rfl, B1.out⟩
end Go.Proofs.Ytodkandjcodnjaa
