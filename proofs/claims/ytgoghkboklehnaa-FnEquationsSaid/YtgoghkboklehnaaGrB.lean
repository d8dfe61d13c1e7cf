/- Which graphs are valid: IsGraph of the reference and of the program. -/
import Derived.Test.YtgoghkboklehnaaGrA
import Derived.Test.YtgoghkboklehnaaQuiC
namespace Go.Proofs.Ytgoghkboklehnaa
set_option maxRecDepth 20000
set_option linter.unusedVariables false
set_option linter.unusedSimpArgs false
open Go.RowKit
set_option maxHeartbeats 2000000 in
theorem specIsGraph_any (v : Value) (g : GrD) (w : World) (h : ArgG w v g) :
    Calls Try.prog 69 #[v] w fun e w' => e = .returned (.bool (grB g)) ∧ Below w.heap.size w w' := by
  obtain ⟨s, rfl, _, _, ha⟩ := h
  have H := Lib.hid ha
  obtain ⟨A, cap, rfl, hcap, hm, _⟩ := ha
  unfold maxLen at hm
  go_enter Try.func69, Try.ntmps69
  go_wp2
  have hb : Below w.heap.size w (w.alloc (Obj.cells #[Value.int IntKind.i64 g.1, Value.int IntKind.i64 g.2.1, .slice A g.2.2.length cap] 56)) := (by repeat (first | exact Below.refl _ _ | (refine Below.setCell ?_ (by first | omega | (simp <;> omega)) _) | (refine bel_drewN ?_ _) | (refine Below.drew ?_) | (refine Below.alloc ?_ (by first | omega | (simp <;> omega)) _)))
  have k0 : (w.alloc (Obj.cells #[Value.int IntKind.i64 g.1, Value.int IntKind.i64 g.2.1, .slice A g.2.2.length cap] 56)).cell? ⟨w.heap.size, 0, none⟩ = some (.int .i64 g.1) := by simp [go_sem]
  have k1 : (w.alloc (Obj.cells #[Value.int IntKind.i64 g.1, Value.int IntKind.i64 g.2.1, .slice A g.2.2.length cap] 56)).cell? ⟨w.heap.size, 1, none⟩ = some (.int .i64 g.2.1) := by simp [go_sem]
  have k2 : (w.alloc (Obj.cells #[Value.int IntKind.i64 g.1, Value.int IntKind.i64 g.2.1, .slice A g.2.2.length cap] 56)).cell? ⟨w.heap.size, 2, none⟩ = some (.slice A g.2.2.length cap) := by simp [go_sem]
  have hs0 : w.heap.size < (w.alloc (Obj.cells #[Value.int IntKind.i64 g.1, Value.int IntKind.i64 g.2.1, .slice A g.2.2.length cap] 56)).heap.size := by simp
  generalize w.alloc (Obj.cells #[Value.int IntKind.i64 g.1, Value.int IntKind.i64 g.2.1, .slice A g.2.2.length cap] 56) = w1 at hb k0 k1 k2 hs0 ⊢
  have HB := Lib.hid hb
  have K0 := Lib.hid k0
  have K1 := Lib.hid k1
  have K2 := Lib.hid k2
  clear hb
  clear k0 k1 k2
  go_loopw [3] (fun i wr => ∃ k : Nat, k ≤ g.2.2.length ∧ i = .int .i64 k ∧ (∀ j, j < k → okE g j = true) ∧ Below w1.heap.size w1 wr) (fun i _ => g.2.2.length - (intOf i).toNat)
  case atStart => exact ⟨0, Nat.zero_le _, rfl, fun j hj => absurd hj (by omega), Below.refl _ _⟩
  case round =>
    obtain ⟨k, hk, rfl, hall, hbel⟩ := hrel
    have HA := Lib.hid hall
    have HB2 := Lib.hid hbel
    have HB3 := Lib.hid (HB.out.trans (hbel.mono HB.out.size))
    have hsz := hbel.size
    have p0 := (hbel.cell (p := ⟨w.heap.size, 0, none⟩) hs0).trans K0.out
    have p1 := (hbel.cell (p := ⟨w.heap.size, 1, none⟩) hs0).trans K1.out
    have p2 := (hbel.cell (p := ⟨w.heap.size, 2, none⟩) hs0).trans K2.out
    have hws : w.heap.size < wr.heap.size := by omega
    by_cases hlt : k < g.2.2.length
    · obtain ⟨b, off, rfl, hbl, c0, c1, c2, _⟩ := (H.out.below HB3.out).at hlt
      have ST : Hid (okE g k = true → ∀ j, j < k + 1 → okE g j = true) := Lib.hid fun F j hj => by
        rcases Nat.lt_or_eq_of_le (Nat.le_of_lt_succ hj) with hj | rfl
        · exact HA.out j hj
        · exact F
      have FA : Hid (okE g k = false → grB g = false) := Lib.hid (grB_false k hlt)
      clear hall hbel
      by_cases h0 : 0 < k
      · obtain ⟨j, rfl⟩ : ∃ j, k = j + 1 := ⟨k - 1, by omega⟩
        obtain ⟨b2, off2, hA2, _, d0, d1, d2, _⟩ := (H.out.below HB3.out).at (k := j) (by omega)
        obtain ⟨rfl, rfl⟩ : b = b2 ∧ off = off2 := by simpa using hA2
        have HZ : Hid (okE g (j + 1) = (edgeOk g.1 g.2.1 g.2.2[j + 1] && !decide (0 ≤ cmpE g.2.2[j] g.2.2[j + 1]))) := Lib.hid (okE_pos h0 hlt)
        have i0 : (0 : Int) ≤ (j : Int) := by omega
        have i1 : (j : Int) < (g.2.2.length : Int) := by omega
        have i2 : (j : Int) + 1 < (g.2.2.length : Int) := by omega
        clear hA2 h0
        generalize g.2.2[j] = y at d0 d1 d2 HZ
        generalize g.2.2[j + 1] = x at c0 c1 c2 HZ
        have hE := fun w => l4Edge_any g.1 g.2.1 (some ⟨b, off, none⟩) g.2.2.length cap x w
        rcases e1 : edgeOk g.1 g.2.1 x with _ | _
        · have F : Hid (okE g (j + 1) = false) := Lib.hid (by rw [HZ.out, e1]; rfl)
          simp only [e1] at hE
          have HE := Lib.hid hE
          clear hE
          go_wp2_with fail
          have f0 := BelW.cell p0 (show w.heap.size < wr.heap.size by omega)
          have f1 := BelW.cell p1 (show w.heap.size < wr.heap.size by omega)
          have f2 := BelW.cell p2 (show w.heap.size < wr.heap.size by omega)
          have f3 := BelW.cell c0 (show b < wr.heap.size by omega)
          have f4 := BelW.cell c1 (show b < wr.heap.size by omega)
          have f5 := BelW.cell c2 (show b < wr.heap.size by omega)
          have f6 := BelW.cell d0 (show b < wr.heap.size by omega)
          have f7 := BelW.cell d1 (show b < wr.heap.size by omega)
          have f8 := BelW.cell d2 (show b < wr.heap.size by omega)
          (refine wp_region_quiet_bel (by kernel_rfl) (by kernel_rfl) ?_; (repeat (go_big_quiet_step (first | (go_at_call 70; exact Calls.bel_of (HE.out _))))); refine wpQuiet_nil ?_; intro wq hw'; obtain ⟨pq, hw''⟩ := hw'; have bq := pq.h; rw [← hw''] at bq; clear hw'' pq)
          clear f0 f1 f2 f3 f4 f5 f6 f7 f8
          go_wp2
          go_ret
          exact ⟨ret_bool (FA.out F.out).symm, HB3.out.trans (bq.mono (by omega))⟩
        · simp only [e1] at hE
          have HE := Lib.hid hE
          clear hE
          rcases e2 : decide (0 ≤ cmpE y x) with _ | _
          · have F : Hid (okE g (j + 1) = true) := Lib.hid (by rw [HZ.out, e1, e2]; rfl)
            go_wp2_with fail
            have f0 := BelW.cell p0 (show w.heap.size < wr.heap.size by omega)
            have f1 := BelW.cell p1 (show w.heap.size < wr.heap.size by omega)
            have f2 := BelW.cell p2 (show w.heap.size < wr.heap.size by omega)
            have f3 := BelW.cell c0 (show b < wr.heap.size by omega)
            have f4 := BelW.cell c1 (show b < wr.heap.size by omega)
            have f5 := BelW.cell c2 (show b < wr.heap.size by omega)
            have f6 := BelW.cell d0 (show b < wr.heap.size by omega)
            have f7 := BelW.cell d1 (show b < wr.heap.size by omega)
            have f8 := BelW.cell d2 (show b < wr.heap.size by omega)
            (refine wp_region_quiet_bel (by kernel_rfl) (by kernel_rfl) ?_; (repeat (go_big_quiet_step (first | (go_at_call 70; exact Calls.bel_of (HE.out _)) | (go_at_call 73; exact Calls.bel_of (specCompareEdges_any y x _))))); refine wpQuiet_nil ?_; intro wq hw'; obtain ⟨pq, hw''⟩ := hw'; have bq := pq.h; rw [← hw''] at bq; clear hw'' pq)
            clear f0 f1 f2 f3 f4 f5 f6 f7 f8
            go_wp2
            go_roundw
            case rel => exact ⟨j + 1 + 1, by omega, by go_num, ST.out F.out, HB2.out.trans (bq.mono (by omega))⟩
            case measure => simp [intOf]; omega
          · have F : Hid (okE g (j + 1) = false) := Lib.hid (by rw [HZ.out, e1, e2]; rfl)
            go_wp2_with fail
            have f0 := BelW.cell p0 (show w.heap.size < wr.heap.size by omega)
            have f1 := BelW.cell p1 (show w.heap.size < wr.heap.size by omega)
            have f2 := BelW.cell p2 (show w.heap.size < wr.heap.size by omega)
            have f3 := BelW.cell c0 (show b < wr.heap.size by omega)
            have f4 := BelW.cell c1 (show b < wr.heap.size by omega)
            have f5 := BelW.cell c2 (show b < wr.heap.size by omega)
            have f6 := BelW.cell d0 (show b < wr.heap.size by omega)
            have f7 := BelW.cell d1 (show b < wr.heap.size by omega)
            have f8 := BelW.cell d2 (show b < wr.heap.size by omega)
            (refine wp_region_quiet_bel (by kernel_rfl) (by kernel_rfl) ?_; (repeat (go_big_quiet_step (first | (go_at_call 70; exact Calls.bel_of (HE.out _)) | (go_at_call 73; exact Calls.bel_of (specCompareEdges_any y x _))))); refine wpQuiet_nil ?_; intro wq hw'; obtain ⟨pq, hw''⟩ := hw'; have bq := pq.h; rw [← hw''] at bq; clear hw'' pq)
            clear f0 f1 f2 f3 f4 f5 f6 f7 f8
            go_wp2
            go_ret
            exact ⟨ret_bool (FA.out F.out).symm, HB3.out.trans (bq.mono (by omega))⟩
      · obtain rfl : k = 0 := by omega
        have HZ := Lib.hid (okE_zero hlt)
        generalize g.2.2[0] = x at c0 c1 c2 HZ
        simp only [Nat.zero_mul, Nat.add_zero] at c0 c1 c2
        have hE := fun w => l4Edge_any g.1 g.2.1 (some ⟨b, off, none⟩) g.2.2.length cap x w
        rcases e1 : edgeOk g.1 g.2.1 x with _ | _
        · have F : Hid (okE g 0 = false) := Lib.hid (by rw [HZ.out, e1])
          simp only [e1] at hE
          have HE := Lib.hid hE
          clear hE
          go_wp2_with fail
          have f0 := BelW.cell p0 (show w.heap.size < wr.heap.size by omega)
          have f1 := BelW.cell p1 (show w.heap.size < wr.heap.size by omega)
          have f2 := BelW.cell p2 (show w.heap.size < wr.heap.size by omega)
          have f3 := BelW.cell c0 (show b < wr.heap.size by omega)
          have f4 := BelW.cell c1 (show b < wr.heap.size by omega)
          have f5 := BelW.cell c2 (show b < wr.heap.size by omega)
          (refine wp_region_quiet_bel (by kernel_rfl) (by kernel_rfl) ?_; (repeat (go_big_quiet_step (first | (go_at_call 70; exact Calls.bel_of (HE.out _))))); refine wpQuiet_nil ?_; intro wq hw'; obtain ⟨pq, hw''⟩ := hw'; have bq := pq.h; rw [← hw''] at bq; clear hw'' pq)
          clear f0 f1 f2 f3 f4 f5
          go_wp2
          go_ret
          exact ⟨ret_bool (FA.out F.out).symm, HB3.out.trans (bq.mono (by omega))⟩
        · have F : Hid (okE g 0 = true) := Lib.hid (by rw [HZ.out, e1])
          simp only [e1] at hE
          have HE := Lib.hid hE
          clear hE
          go_wp2_with fail
          have f0 := BelW.cell p0 (show w.heap.size < wr.heap.size by omega)
          have f1 := BelW.cell p1 (show w.heap.size < wr.heap.size by omega)
          have f2 := BelW.cell p2 (show w.heap.size < wr.heap.size by omega)
          have f3 := BelW.cell c0 (show b < wr.heap.size by omega)
          have f4 := BelW.cell c1 (show b < wr.heap.size by omega)
          have f5 := BelW.cell c2 (show b < wr.heap.size by omega)
          (refine wp_region_quiet_bel (by kernel_rfl) (by kernel_rfl) ?_; (repeat (go_big_quiet_step (first | (go_at_call 70; exact Calls.bel_of (HE.out _))))); refine wpQuiet_nil ?_; intro wq hw'; obtain ⟨pq, hw''⟩ := hw'; have bq := pq.h; rw [← hw''] at bq; clear hw'' pq)
          clear f0 f1 f2 f3 f4 f5
          go_wp2
          go_roundw
          case rel => exact ⟨1, by omega, by go_num, ST.out F.out, HB2.out.trans (bq.mono (by omega))⟩
          case measure => simp [intOf]; omega
    · obtain rfl : k = g.2.2.length := by omega
      have F := Lib.hid (grB_eq HA.out)
      clear hall hbel
      rcases e1 : inB g.1 1 3 with _ | _
      · go_wp2_with (go_at_call 33; refine (l1In_any _ _ _ _).mono ?_; rintro e w' ⟨rfl, rfl⟩)
        go_ret
        exact ⟨ret_bool (by rw [F.out, e1]; rfl), HB3.out⟩
      · rcases e2 : inB g.2.1 1 40 with _ | _
        · go_wp2_with (go_at_call 33; refine (l1In_any _ _ _ _).mono ?_; rintro e w' ⟨rfl, rfl⟩)
          go_ret
          exact ⟨ret_bool (by rw [F.out, e1, e2]; rfl), HB3.out⟩
        · by_cases h3 : g.2.2.length ≤ 120
          · go_wp2_with (go_at_call 33; refine (l1In_any _ _ _ _).mono ?_; rintro e w' ⟨rfl, rfl⟩)
            go_ret
            exact ⟨ret_bool (by rw [F.out, e1, e2]; simp; omega), HB3.out⟩
          · go_wp2_with (go_at_call 33; refine (l1In_any _ _ _ _).mono ?_; rintro e w' ⟨rfl, rfl⟩)
            go_ret
            exact ⟨ret_bool (by rw [F.out, e1, e2]; simp; omega), HB3.out⟩
end Go.Proofs.Ytgoghkboklehnaa
