/- The program's IsIndependent. -/
import Derived.Test.YtodkandjcodnjaaCompI
namespace Go.Proofs.Ytodkandjcodnjaa
set_option maxRecDepth 20000
set_option linter.unusedVariables false
set_option linter.unusedSimpArgs false
open Go.RowKit

set_option maxHeartbeats 600000 in
theorem implIsIndependent_any (va vb : Value) (a b : GrD) (w : World) (ha : ArgG w va a) (hb : ArgG w vb b) :
    Calls Try.prog 15 #[va, vb] w fun e w' => e = .returned (.bool (indB a b)) ∧ Below w.heap.size w w' := by
  have HGA := Lib.hid ha
  have HGB := Lib.hid hb
  have HR0 : Hid ((coreB a && coreB b && decide (a.1 = b.1)) = false → indB a b = false) := Lib.hid fun h => by unfold indB; rw [h, Bool.and_false]
  have HR1 : Hid (coreB a = true → coreB b = true → a.1 = b.1 → indB a b = allN (compR a b)) := Lib.hid fun h1 h2 h3 => by unfold indB; rw [h1, h2, h3]; simp
  have hll := compR_len (a := a) (b := b)
  have HOD := Lib.hid (fun v v' W h h' => implComponentRanks_any v v' a b W h h')
  generalize indB a b = CR at *
  generalize compR a b = L at *
  obtain ⟨Aa, capa, rfl⟩ : ∃ A' cap, va = .agg #[.int .i64 a.1, .int .i64 a.2.1, .slice A' a.2.2.length cap] := by
    obtain ⟨s, hv, _, _, ha⟩ := HGA.out
    obtain ⟨A', cap, rfl⟩ := ha.form
    exact ⟨A', cap, hv⟩
  obtain ⟨Ab, capb, rfl⟩ : ∃ A' cap, vb = .agg #[.int .i64 b.1, .int .i64 b.2.1, .slice A' b.2.2.length cap] := by
    obtain ⟨s, hv, _, _, ha⟩ := HGB.out
    obtain ⟨A', cap, rfl⟩ := ha.form
    exact ⟨A', cap, hv⟩
  clear ha hb
  go_enter Try.func15, Try.ntmps15
  go_wp2_with fail
  have bx : Below w.heap.size w (((w.alloc (Obj.cells #[Value.int IntKind.i64 a.1, Value.int IntKind.i64 a.2.1, .slice Aa a.2.2.length capa] 36)).alloc (Obj.cells #[Value.int IntKind.i64 b.1, Value.int IntKind.i64 b.2.1, .slice Ab b.2.2.length capb] 36))) := (by repeat (first | exact Below.refl _ _ | (refine Below.setCell ?_ (by first | omega | (simp <;> omega)) _) | (refine bel_drewN ?_ _) | (refine Below.drew ?_) | (refine Below.alloc ?_ (by first | omega | (simp <;> omega)) _)))
  obtain ⟨W0, hW0⟩ : ∃ W, W = ((w.alloc (Obj.cells #[Value.int IntKind.i64 a.1, Value.int IntKind.i64 a.2.1, .slice Aa a.2.2.length capa] 36)).alloc (Obj.cells #[Value.int IntKind.i64 b.1, Value.int IntKind.i64 b.2.1, .slice Ab b.2.2.length capb] 36)) := ⟨_, rfl⟩
  rw [← hW0] at bx ⊢
  have hsW : W0.heap.size = w.heap.size + 1 + 1 := by rw [hW0]; simp
  have A0 : Hid (W0.cell? ⟨w.heap.size, 0, none⟩ = some (.int .i64 a.1)) := Lib.hid (by rw [hW0]; simp [go_sem])
  have A1 : Hid (W0.cell? ⟨w.heap.size, 1, none⟩ = some (.int .i64 a.2.1)) := Lib.hid (by rw [hW0]; simp [go_sem])
  have A2 : Hid (W0.cell? ⟨w.heap.size, 2, none⟩ = some (.slice Aa a.2.2.length capa)) := Lib.hid (by rw [hW0]; simp [go_sem])
  have B0 : Hid (W0.cell? ⟨w.heap.size + 1, 0, none⟩ = some (.int .i64 b.1)) := Lib.hid (by rw [hW0]; simp [go_sem])
  have B1 : Hid (W0.cell? ⟨w.heap.size + 1, 1, none⟩ = some (.int .i64 b.2.1)) := Lib.hid (by rw [hW0]; simp [go_sem])
  have B2 : Hid (W0.cell? ⟨w.heap.size + 1, 2, none⟩ = some (.slice Ab b.2.2.length capb)) := Lib.hid (by rw [hW0]; simp [go_sem])
  clear hW0
  have hl0 : w.heap.size < W0.heap.size := by omega
  have hl1 : w.heap.size + 1 < W0.heap.size := by omega
  have BX := Lib.hid bx
  have HSW := Lib.hid hsW
  have HAA : Hid (∀ W, Below W0.heap.size W0 W → ArgG W (.agg #[.int .i64 a.1, .int .i64 a.2.1, .slice Aa a.2.2.length capa]) a) := Lib.hid fun W hb => HGA.out.below (BX.out.trans (hb.mono (by omega)))
  have HAB : Hid (∀ W, Below W0.heap.size W0 W → ArgG W (.agg #[.int .i64 b.1, .int .i64 b.2.1, .slice Ab b.2.2.length capb]) b) := Lib.hid fun W hb => HGB.out.below (BX.out.trans (hb.mono (by omega)))
  clear bx hsW
  refine (implIsCore_any _ a W0 (HAA.out _ (Below.refl _ _))).mono ?_
  rintro e w1 ⟨rfl, b1⟩
  have HB1 := Lib.hid b1
  have q3 := (b1.cell (p := ⟨w.heap.size + 1, 0, none⟩) hl1).trans B0.out
  have q4 := (b1.cell (p := ⟨w.heap.size + 1, 1, none⟩) hl1).trans B1.out
  have q5 := (b1.cell (p := ⟨w.heap.size + 1, 2, none⟩) hl1).trans B2.out
  have q0 := (b1.cell (p := ⟨w.heap.size, 0, none⟩) hl0).trans A0.out
  clear b1
  rcases e1 : coreB a with _ | _
  · have HR : Hid (CR = false) := Lib.hid (HR0.out (by rw [e1]; rfl))
    clear e1
    go_wp2
    exact bodyPost_ret (v := .bool false) (by simp [results, Try.results15]) rfl ⟨by rw [HR.out], BX.out.trans (HB1.out.mono (by omega))⟩
  go_wp2_with fail
  refine (implIsCore_any _ b w1 (HAB.out _ HB1.out)).mono ?_
  rintro e w2 ⟨rfl, b2⟩
  have HB2 := Lib.hid (HB1.out.trans (b2.mono HB1.out.size))
  clear b2 q0 q3 q4 q5
  have q0 := (HB2.out.cell (p := ⟨w.heap.size, 0, none⟩) hl0).trans A0.out
  have q1 := (HB2.out.cell (p := ⟨w.heap.size, 1, none⟩) hl0).trans A1.out
  have q3 := (HB2.out.cell (p := ⟨w.heap.size + 1, 0, none⟩) hl1).trans B0.out
  have q4 := (HB2.out.cell (p := ⟨w.heap.size + 1, 1, none⟩) hl1).trans B1.out
  rcases e2 : coreB b with _ | _
  · have HR : Hid (CR = false) := Lib.hid (HR0.out (by rw [e1, e2]; rfl))
    clear e1 e2
    go_wp2
    exact bodyPost_ret (v := .bool false) (by simp [results, Try.results15]) rfl ⟨by rw [HR.out], BX.out.trans (HB2.out.mono (by omega))⟩
  rcases e3 : (a.1 != b.1) with _ | _
  rotate_left
  · have HR : Hid (CR = false) := Lib.hid (HR0.out (by simp at e3; simp [e3]))
    clear e1 e2
    go_wp2
    exact bodyPost_ret (v := .bool false) (by simp [results, Try.results15]) rfl ⟨by rw [HR.out], BX.out.trans (HB2.out.mono (by omega))⟩
  have hab : a.1 = b.1 := by simpa using e3
  have HR := Lib.hid (HR1.out e1 e2 hab)
  have q2 := (HB2.out.cell (p := ⟨w.heap.size, 2, none⟩) hl0).trans A2.out
  have q5 := (HB2.out.cell (p := ⟨w.heap.size + 1, 2, none⟩) hl1).trans B2.out
  clear e1 e2 hab
  go_wp2_with fail
  refine (HOD.out _ _ w2 (HAA.out _ HB2.out) (HAB.out _ HB2.out)).mono ?_
  rintro e w3 ⟨s3, rfl, o3, b3⟩
  have HB3 := Lib.hid (HB2.out.trans (b3.mono HB2.out.size))
  obtain ⟨Al, capl, rfl, hcl, hml, _⟩ := OwI.form o3
  have O1 := Lib.hid o3.rd
  clear b3 o3 q0 q1 q2 q3 q4 q5
  go_wp2
  go_loopw [26] (fun i wr => ∃ k : Nat, k ≤ L.length ∧ i = .int .i64 k ∧ allN (L.take k) = true ∧ Below w3.heap.size w3 wr) (fun i _ => L.length - (intOf i).toNat)
  case atStart => exact ⟨0, Nat.zero_le _, rfl, rfl, Below.refl _ _⟩
  case round =>
    obtain ⟨k, hk, rfl, hal, hbel⟩ := hrel
    have HAL := Lib.hid hal
    have HB := Lib.hid (HB3.out.trans (hbel.mono HB3.out.size))
    clear hal
    by_cases hlt : k < L.length
    · obtain ⟨bl, offl, rfl, hbl, hcc⟩ := (O1.out.below hbel).at (by omega)
      have c0 := hcc k hlt
      have ST := Lib.hid (allN_step hlt HAL.out)
      have HIT := Lib.hid (allN_hit hlt)
      generalize L[k] = x at *
      clear hcc
      by_cases hx : 0 < x
      · have F : Hid (CR = false) := Lib.hid (by rw [HR.out, HIT.out hx])
        go_wp2
        exact bodyPost_ret (v := .bool false) (by simp [results, Try.results15]) rfl ⟨by rw [F.out], BX.out.trans (HB.out.mono (by omega))⟩
      · have F := Lib.hid (ST.out hx)
        go_wp2
        go_roundw
        case rel => exact ⟨k + 1, by omega, by go_num, F.out, hbel⟩
        case measure => simp [intOf]; omega
    · obtain rfl : k = L.length := by omega
      rw [List.take_length] at HAL
      have F : Hid (CR = true) := Lib.hid (by rw [HR.out, HAL.out])
      clear hbel
      go_wp2
      exact bodyPost_ret (v := .bool true) (by simp [results, Try.results15]) rfl ⟨by rw [F.out], BX.out.trans (HB.out.mono (by omega))⟩
end Go.Proofs.Ytodkandjcodnjaa
