/- Drawn words. -/
import Derived.Test.YtgoghkboklehnaaDraw
import Derived.Test.YtgoghkboklehnaaEqnM
namespace Go.Proofs.Ytgoghkboklehnaa
set_option maxRecDepth 20000
set_option linter.unusedVariables false
set_option linter.unusedSimpArgs false
open Go.RowKit
theorem OwI.any2 {w : World} {base : Nat} {v : Value} {xs : List Int} (h : OwI w base v xs) : ∃ A m cap, v = .slice A m cap := by
  obtain ⟨A, cap, hv, _⟩ := h.form
  exact ⟨A, _, cap, hv⟩
/-- Letters of a rank. -/
def letR (r : Int) (w : List Int) : Prop := ∀ x ∈ w, x ≠ 0 ∧ -r ≤ x ∧ x ≤ r
theorem letR_redL {r : Int} {w : List Int} (h : letR r w) : letR r (redL [] w) := fun x hx => by
  rcases redL_mem hx with h' | h'
  · cases h'
  · exact h x h'
set_option maxHeartbeats 1000000 in
theorem l2Of_any (p : Nat) (A : Option Addr) (cap : Nat) (cs : List Int) (r m : Int) (w : World) (h : Cur p A cap cs w) (hr1 : 1 ≤ r) (hr3 : r ≤ 3) (hm0 : 0 ≤ m) (hm : m ≤ 100) :
    Calls Try.prog 50 #[.pointer (some ⟨p, 0, none⟩), .int .i64 r, .int .i64 m] w fun e w' => ∃ v xs, e = .returned v ∧ OwI w' w.heap.size v xs ∧ (xs.length ≤ m ∧ letR r xs ∧ redP xs) ∧ Cur p A cap cs w' ∧ Tr p (p + 1) w w' := by
  have H := Lib.hid h
  have hp := h.lt
  clear h
  have HA : Hid (Cur p A cap cs (w.alloc (.cells #[] 3))) := Lib.hid (H.out.below ((Below.refl _ _).alloc (Nat.le_refl _) _))
  have HO : Hid (OwI (w.alloc (.cells #[] 3)) w.heap.size (.slice (some ⟨w.heap.size, 0, none⟩) 0 0) []) := Lib.hid (OwI_lit w [] I64s_nil (by simp) (Nat.le_refl _))
  have HT : Hid (Tr p (p + 1) w (w.alloc (.cells #[] 3))) := Lib.hid ⟨rfl, rfl, rfl, by simp, fun k hk _ => Below.heap_alloc w _ k hk⟩
  have hw1 : IntKind.i64.wrap (m + 1) = m + 1 := by rw [IntKind.wrap_i64]; omega
  go_enter Try.func50, Try.ntmps50
  go_wp2_with fail
  refine (l1Below_any p A cap cs (m + 1) _ HA.out (by omega) (by omega)).mono ?_
  rintro e w1 ⟨n0, rfl, ⟨n1, n2⟩, c1, t1⟩
  have C1 := Lib.hid c1
  have O1 := Lib.hid (HO.out.trP t1 hp)
  have T1 : Hid (Tr p (p + 1) w w1) := Lib.hid (HT.out.trans t1)
  clear c1 t1 HA HO HT
  go_wp2
  go_loopw [7, 8] (fun wv nv wr => ∃ (k : Int) (ws : List Int), nv = .int .i64 k ∧ 0 ≤ k ∧ k + ws.length ≤ m ∧ letR r ws ∧ OwI wr w.heap.size wv ws ∧ Cur p A cap cs wr ∧ Tr p (p + 1) w wr)
    (fun _ nv _ => (intOf nv).toNat)
  case atStart => exact ⟨n0, [], rfl, n1, by simp; omega, fun x hx => (by cases hx), O1.out, C1.out, T1.out⟩
  case round =>
    obtain ⟨k, ws, rfl, hk0, hkm, hlet, hO, hC, hT⟩ := hrel
    have HO := Lib.hid hO
    have HC := Lib.hid hC
    have HT := Lib.hid hT
    have HLT := Lib.hid hlet
    have hsz := hT.size
    obtain ⟨Aw, cw, rfl, _⟩ := hO.form
    clear hO hC hT hlet
    by_cases hlt : 0 < k
    · go_wp2_with (first
        | (go_at_call 30; (with_reducible refine (l1Below_any p A cap cs r _ HC.out (by omega) (by omega)).mono ?_); rintro e w2 ⟨x, rfl, ⟨x0, x1⟩, c2, t2⟩; have C2 := Lib.hid c2; have O2 := Lib.hid (HO.out.trP t2 hp); have T2 := Lib.hid (HT.out.trans t2); clear c2 t2)
        | (go_at_call 47; (with_reducible refine (l1Once_any p A cap cs 2 _ C2.out (by omega) (by omega)).mono ?_); rintro e w3 ⟨bb, rfl, c3, t3⟩; have C3 := Lib.hid c3; have O3 := Lib.hid (O2.out.trP t3 hp); have T3 := Lib.hid (T2.out.trans t3); have hs3 := T3.out.size; clear c3 t3; have hwx : IntKind.i64.wrap (1 + x) = 1 + x := (by rw [IntKind.wrap_i64]; omega); have hwn : IntKind.i64.wrap (-(1 + x)) = -(1 + x) := (by rw [IntKind.wrap_i64]; omega); have HX1 : Hid (I64 (1 + x)) := Lib.hid ⟨by omega, by omega⟩; have HX2 : Hid (I64 (-(1 + x))) := Lib.hid ⟨by omega, by omega⟩)
        | ((at_builtin; refine push_int rfl (.tmp 27) (.tmp 29) rfl _ _ _ (OwI.alloc O3.out _) rfl _ _ rfl (cell_new1 _ _ _) HX1.out (by first | omega | (simp <;> omega)) (by first | omega | (simp <;> omega)) ?_; intro v4 wv4 o4 g4 p4); have G4 := Lib.hid g4; have O4 := Lib.hid o4; obtain ⟨A4, m4, c4, rfl⟩ := o4.any2; clear o4 g4 p4)
        | ((at_builtin; refine push_int rfl (.tmp 27) (.tmp 29) rfl _ _ _ (OwI.alloc O3.out _) rfl _ _ rfl (cell_new1 _ _ _) HX2.out (by first | omega | (simp <;> omega)) (by first | omega | (simp <;> omega)) ?_; intro v4 wv4 o4 g4 p4); have G4 := Lib.hid g4; have O4 := Lib.hid o4; obtain ⟨A4, m4, c4, rfl⟩ := o4.any2; clear o4 g4 p4))
      all_goals (
        have C4 := Lib.hid ((C3.out.below ((Below.refl _ _).alloc (Nat.le_refl _) _)).new H.out G4.out (fun b hb => (O3.out.1.lt b hb).1))
        have T4 := Lib.hid ((T3.out.bel2 ((Below.refl _ _).alloc (Nat.le_refl _) _)).grow2 G4.out (fun b hb => (O3.out.1.lt b hb).1))
        have hwk : IntKind.i64.wrap (k - 1) = k - 1 := by rw [IntKind.wrap_i64]; omega
        go_roundw
        case rel =>
          refine ⟨k - 1, _, by go_num, by omega, by simp; omega, fun y hy => ?_, O4.out, C4.out, T4.out⟩
          rcases List.mem_append.1 hy with hy | hy
          · exact HLT.out y hy
          · rw [List.mem_singleton] at hy; subst hy; omega
        case measure => (simp [intOf]; omega))
    · have HGL : Hid (redP (redL [] ws)) := Lib.hid (redL_red redP_nil)
      have hlr : (redL [] ws).length ≤ m := by have := redL_len [] ws; simp at this; omega
      have hlw : ws.length ≤ 1073741824 := by omega
      go_wp2_with (go_at_call 42; (with_reducible refine (specReduceLetters_any _ ws _ HO.out.rd hlw).mono ?_); rintro e w5 ⟨r5, rfl, o5, b5⟩; have O5 := Lib.hid o5; have B5 := Lib.hid b5; obtain ⟨A5, m5, c5, rfl⟩ := o5.any2; clear o5 b5)
      exact bodyPost_ret (v := .slice A5 m5 c5) (by simp [results, Try.results50, go_sem]) rfl ⟨_, _, rfl, O5.out.mono hsz, ⟨hlr, letR_redL HLT.out, HGL.out⟩, HC.out.below B5.out, HT.out.bel2 B5.out⟩
end Go.Proofs.Ytgoghkboklehnaa
