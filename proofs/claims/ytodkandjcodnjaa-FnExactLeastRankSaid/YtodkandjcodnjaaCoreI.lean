/- The program's IsCore, RankOf and LeastRank. -/
import Derived.Test.YtodkandjcodnjaaCanI
import Derived.Test.YtodkandjcodnjaaTrim
import Derived.Test.YtodkandjcodnjaaRankS
namespace Go.Proofs.Ytodkandjcodnjaa
set_option maxRecDepth 20000
set_option linter.unusedVariables false
set_option linter.unusedSimpArgs false
open Go.RowKit

set_option maxHeartbeats 1000000 in
theorem implIsCore_any (v : Value) (g : GrD) (w : World) (h : ArgG w v g) :
    Calls Try.prog 31 #[v] w fun e w' => e = .returned (.bool (coreB g)) ∧ Below w.heap.size w w' := by
  have HG := Lib.hid h
  obtain ⟨s, rfl, hi1, hi2, ha⟩ := h
  obtain ⟨A, cap, rfl⟩ := ha.form
  have HC : Hid (coreB g = (foldB g && decide (leafV g.2.2 g.2.1.toNat < 0) && decide (canG g = g))) := Lib.hid rfl
  generalize coreB g = cb at *
  clear ha
  go_enter Try.func31, Try.ntmps31
  go_wp2_with fail
  have bx : Below w.heap.size w (w.alloc (Obj.cells #[Value.int IntKind.i64 g.1, Value.int IntKind.i64 g.2.1, .slice A g.2.2.length cap] 36)) := (by repeat (first | exact Below.refl _ _ | (refine Below.setCell ?_ (by first | omega | (simp <;> omega)) _) | (refine bel_drewN ?_ _) | (refine Below.drew ?_) | (refine Below.alloc ?_ (by first | omega | (simp <;> omega)) _)))
  have l0 : (w.alloc (Obj.cells #[Value.int IntKind.i64 g.1, Value.int IntKind.i64 g.2.1, .slice A g.2.2.length cap] 36)).cell? ⟨w.heap.size, 0, none⟩ = some (.int .i64 g.1) := by simp [go_sem]
  have l1 : (w.alloc (Obj.cells #[Value.int IntKind.i64 g.1, Value.int IntKind.i64 g.2.1, .slice A g.2.2.length cap] 36)).cell? ⟨w.heap.size, 1, none⟩ = some (.int .i64 g.2.1) := by simp [go_sem]
  have l2 : (w.alloc (Obj.cells #[Value.int IntKind.i64 g.1, Value.int IntKind.i64 g.2.1, .slice A g.2.2.length cap] 36)).cell? ⟨w.heap.size, 2, none⟩ = some (.slice A g.2.2.length cap) := by simp [go_sem]
  have sA : w.heap.size < (w.alloc (Obj.cells #[Value.int IntKind.i64 g.1, Value.int IntKind.i64 g.2.1, .slice A g.2.2.length cap] 36)).heap.size := by simp
  generalize w.alloc (Obj.cells #[Value.int IntKind.i64 g.1, Value.int IntKind.i64 g.2.1, .slice A g.2.2.length cap] 36) = W at bx l0 l1 l2 sA ⊢
  have BX := Lib.hid bx
  have HA : Hid (∀ w', Below W.heap.size W w' → ArgG w' (.agg #[.int .i64 g.1, .int .i64 g.2.1, .slice A g.2.2.length cap]) g) := Lib.hid fun w' hb => HG.out.below (BX.out.trans (hb.mono (by omega)))
  clear bx
  refine (implIsFolded_any _ g W (HA.out _ (Below.refl _ _))).mono ?_
  rintro e w1 ⟨rfl, b1⟩
  have BW := Lib.hid b1
  have q0 := (b1.cell (p := ⟨w.heap.size, 0, none⟩) sA).trans l0
  have q1 := (b1.cell (p := ⟨w.heap.size, 1, none⟩) sA).trans l1
  have q2 := (b1.cell (p := ⟨w.heap.size, 2, none⟩) sA).trans l2
  have L0 := Lib.hid l0
  have L1 := Lib.hid l1
  have L2 := Lib.hid l2
  clear b1 l0 l1 l2
  rcases e1 : foldB g with _ | _
  · have HR : Hid (cb = false) := Lib.hid (by rw [HC.out, e1]; rfl)
    clear e1
    go_wp2
    exact bodyPost_ret (v := .bool false) (by simp [results, Try.results31]) rfl ⟨by rw [HR.out], BX.out.trans (BW.out.mono (Nat.le_of_lt sA))⟩
  · have HF := Lib.hid e1
    have hg := (foldB_parts e1).1
    have HGR := Lib.hid hg
    have HTS := Lib.hid (trimG_size hg)
    go_wp2_with fail
    refine (trimGraph_any _ g w1 (HA.out _ BW.out) HGR.out).mono ?_
    rintro e w2 ⟨rt, lt, rfl, ot, ol, b2⟩
    have s1 := BW.out.size
    have B2 := Lib.hid (BW.out.trans (b2.mono s1))
    have s2 := B2.out.size
    generalize trimG g = T at *
    obtain ⟨⟨t0, t1, t2⟩, tl⟩ := T
    obtain ⟨st, rfl, _, _, oe⟩ := ot
    obtain ⟨At, capt, rfl, _⟩ := OwE.form oe
    simp only at HTS ⊢
    have k0 := (B2.out.cell (p := ⟨w.heap.size, 0, none⟩) sA).trans L0.out
    have k1 := (B2.out.cell (p := ⟨w.heap.size, 1, none⟩) sA).trans L1.out
    have k2 := (B2.out.cell (p := ⟨w.heap.size, 2, none⟩) sA).trans L2.out
    have hsA2 : w.heap.size < w2.heap.size := by omega
    clear b2 ol oe q0 q1 q2 hg e1
    go_wp2
    have b3 : Below w2.heap.size w2 (w2.alloc (Obj.cells #[Value.int IntKind.i64 t0, Value.int IntKind.i64 t1, .slice At t2.length capt] 36)) := (Below.refl _ _).alloc (Nat.le_refl _) _
    have m1 : (w2.alloc (Obj.cells #[Value.int IntKind.i64 t0, Value.int IntKind.i64 t1, .slice At t2.length capt] 36)).cell? ⟨w2.heap.size, 1, none⟩ = some (.int .i64 t1) := by simp [go_sem]
    have s3 : w2.heap.size < (w2.alloc (Obj.cells #[Value.int IntKind.i64 t0, Value.int IntKind.i64 t1, .slice At t2.length capt] 36)).heap.size := by simp
    generalize w2.alloc (Obj.cells #[Value.int IntKind.i64 t0, Value.int IntKind.i64 t1, .slice At t2.length capt] 36) = W3 at b3 m1 s3 ⊢
    have p0 := (b3.cell (p := ⟨w.heap.size, 0, none⟩) hsA2).trans k0
    have p1 := (b3.cell (p := ⟨w.heap.size, 1, none⟩) hsA2).trans k1
    have p2 := (b3.cell (p := ⟨w.heap.size, 2, none⟩) hsA2).trans k2
    have B3 := Lib.hid (B2.out.trans (b3.mono s2))
    have hsA3 : w.heap.size < W3.heap.size := by omega
    have P0 := Lib.hid p0
    have P1 := Lib.hid p1
    have P2 := Lib.hid p2
    have M1 := Lib.hid m1
    clear k0 k1 k2 b3
    rcases hq : (t1 == g.2.1) with _ | _
    · have HR : Hid (cb = false) := Lib.hid (by
        have h1 := HTS.out
        have h2 : decide (t1 = g.2.1) = false := by rw [decide_eq_false_iff_not]; exact beq_eq_false_iff_ne.1 hq
        rw [h2] at h1
        rw [HC.out, ← h1]
        simp)
      have f1 := BelW.cell p1 hsA3
      have f2 := BelW.cell m1 s3
      have f3 := BelW.cell p0 hsA3
      have f4 := BelW.cell p2 hsA3
      (refine wp_region_quiet_bel (by kernel_rfl) (by kernel_rfl) ?_; (repeat (go_big_quiet_step (fail))); refine wpQuiet_nil ?_; intro wq hw'; obtain ⟨pq, hw''⟩ := hw'; have bq := pq.h; rw [← hw''] at bq; clear hw'' pq)
      go_wp2
      exact bodyPost_ret (v := .bool false) (by simp [results, Try.results31]) rfl ⟨by rw [HR.out], BX.out.trans ((B3.out.trans (bq.mono (by omega))).mono (Nat.le_of_lt sA))⟩
    · have HR : Hid (cb = decide (canG g = g)) := Lib.hid (by
        have h1 := HTS.out
        have h2 : decide (t1 = g.2.1) = true := by rw [decide_eq_true_iff]; exact eq_of_beq hq
        rw [h2] at h1
        rw [HC.out, ← h1, HF.out]
        simp)
      go_region_held3 (fun w' => w'.cell? ⟨w.heap.size, 0, none⟩ = some (.int .i64 g.1) ∧ w'.cell? ⟨w.heap.size, 1, none⟩ = some (.int .i64 g.2.1) ∧ w'.cell? ⟨w.heap.size, 2, none⟩ = some (.slice A g.2.2.length cap) ∧ w'.cell? ⟨w2.heap.size, 1, none⟩ = some (.int .i64 t1))
        (first | exact ⟨k0, k1, k2, k3⟩ | go_keep)
        (first
          | (go_at_call 43; refine (canonicalGraph_any _ g _ (HA.out _ B3.out.drew) HF.out).mono ?_; rintro e' w4 ⟨r4, rfl, o4, b4⟩; have B4 := Lib.hid ((Below.refl W3.heap.size W3).drew.trans b4); have O4 := Lib.hid o4; have k0 := (B4.out.cell (p := ⟨w.heap.size, 0, none⟩) hsA3).trans P0.out; have k1 := (B4.out.cell (p := ⟨w.heap.size, 1, none⟩) hsA3).trans P1.out; have k2 := (B4.out.cell (p := ⟨w.heap.size, 2, none⟩) hsA3).trans P2.out; have k3 := (B4.out.cell (p := ⟨w2.heap.size, 1, none⟩) s3).trans M1.out; clear b4 o4)
          | (go_at_call 42; refine (implEqualGraphs_any _ _ (canG g) g _ O4.out.arg (HA.out _ (B3.out.trans (B4.out.mono B3.out.size)))).mono ?_; rintro e' w5 ⟨rfl, b5⟩; have B5 := Lib.hid (B4.out.trans (b5.mono B4.out.size)); have k0 := (B5.out.cell (p := ⟨w.heap.size, 0, none⟩) hsA3).trans P0.out; have k1 := (B5.out.cell (p := ⟨w.heap.size, 1, none⟩) hsA3).trans P1.out; have k2 := (B5.out.cell (p := ⟨w.heap.size, 2, none⟩) hsA3).trans P2.out; have k3 := (B5.out.cell (p := ⟨w2.heap.size, 1, none⟩) s3).trans M1.out; clear b5))
      go_wp2
      exact bodyPost_ret (v := .bool (decide (canG g = g))) (by simp [results, Try.results31]) rfl ⟨by rw [HR.out], BX.out.trans ((B3.out.trans (B5.out.mono (by omega))).mono (Nat.le_of_lt sA))⟩
end Go.Proofs.Ytodkandjcodnjaa
