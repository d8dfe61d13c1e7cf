/- The program's IsCore, RankOf and LeastRank. The program's CanonicalOrder and CanonicalGraph, of a folded graph. -/
import Derived.Test.YtfadnkjlilhneaaGreatTree
import Derived.Test.YtfadnkjlilhneaaGreatPart
import Derived.Test.YtfadnkjlilhneaaGreatCanG
import Derived.Test.YtfadnkjlilhneaaGreatTrim
import Derived.Test.YtfadnkjlilhneaaGreatRankS
namespace Go.Proofs.YtfadnkjlilhneaaGreat
set_option maxRecDepth 20000
set_option linter.unusedVariables false
set_option linter.unusedSimpArgs false
open Go.RowKit

set_option maxHeartbeats 1000000 in
theorem canonicalOrder_any (v : Value) (g : GrD) (w : World) (h : ArgG w v g) (hf : foldB g = true) :
  Calls Tryz.prog 104 #[v] w fun e w' => ∃ r, e = .returned r ∧ OwI w' w.heap.size r (canO g) ∧ Below w.heap.size w w' := by
 have HG := Lib.hid h
 have HF := Lib.hid hf
 obtain ⟨s, rfl, hi1, hi2, ha⟩ := h
 clear hf ha
 go_enter Tryz.func104, Tryz.ntmps104
 go_wp2_with fail
 have bx : Below w.heap.size w (w.alloc (Obj.cells #[Value.int IntKind.i64 g.1, Value.int IntKind.i64 g.2.1, s] 31)) := (by repeat (first | exact Below.refl _ _ | (refine Below.setCell ?_ (by first | omega | (simp <;> omega)) _) | (refine bel_drewN ?_ _) | (refine Below.drew ?_) | (refine Below.alloc ?_ (by first | omega | (simp <;> omega)) _)))
 have l0 : (w.alloc (Obj.cells #[Value.int IntKind.i64 g.1, Value.int IntKind.i64 g.2.1, s] 31)).cell? ⟨w.heap.size, 0, none⟩ = some (.int .i64 g.1) := by simp [go_sem]
 have l1 : (w.alloc (Obj.cells #[Value.int IntKind.i64 g.1, Value.int IntKind.i64 g.2.1, s] 31)).cell? ⟨w.heap.size, 1, none⟩ = some (.int .i64 g.2.1) := by simp [go_sem]
 have l2 : (w.alloc (Obj.cells #[Value.int IntKind.i64 g.1, Value.int IntKind.i64 g.2.1, s] 31)).cell? ⟨w.heap.size, 2, none⟩ = some s := by simp [go_sem]
 have sA : w.heap.size < (w.alloc (Obj.cells #[Value.int IntKind.i64 g.1, Value.int IntKind.i64 g.2.1, s] 31)).heap.size := by simp
 generalize w.alloc (Obj.cells #[Value.int IntKind.i64 g.1, Value.int IntKind.i64 g.2.1, s] 31) = W at bx l0 l1 l2 sA ⊢
 have hif := implIsFolded_any _ g W (HG.out.below bx)
 rw [HF.out] at hif
 have HIF := Lib.hid hif
 have BX := Lib.hid bx
 clear hif bx
 refine HIF.out.mono ?_
 rintro e w1 ⟨rfl, b1⟩
 have q0 := (b1.cell (p := ⟨w.heap.size, 0, none⟩) sA).trans l0
 have q1 := (b1.cell (p := ⟨w.heap.size, 1, none⟩) sA).trans l1
 have q2 := (b1.cell (p := ⟨w.heap.size, 2, none⟩) sA).trans l2
 have BB : Hid (Below w.heap.size w w1) := Lib.hid (BX.out.trans (b1.mono BX.out.size))
 clear b1 HIF l0 l1 l2
 go_wp2_with fail
 refine (tree_any _ g w1 (HG.out.below BB.out) HF.out).mono ?_
 rintro e w2 ⟨r2, s2, rfl, o2, b2⟩
 have O2 := Lib.hid (o2.mono (BB.out.size))
 have B2 := Lib.hid (BB.out.trans (b2.mono BB.out.size))
 clear o2 b2 q0 q1 q2
 go_wp2
 exact bodyPost_ret (v := r2) (by simp [results, Tryz.results104]) rfl ⟨_, rfl, O2.out, B2.out⟩
set_option maxHeartbeats 1000000 in
theorem canonicalGraph_any (v : Value) (g : GrD) (w : World) (h : ArgG w v g) (hf : foldB g = true) :
  Calls Tryz.prog 65 #[v] w fun e w' => ∃ r, e = .returned r ∧ OwG w' w.heap.size r (canG g) ∧ Below w.heap.size w w' := by
 have HG := Lib.hid h
 have HF := Lib.hid hf
 obtain ⟨hg, _⟩ := foldB_parts hf
 have HGR := Lib.hid hg
 have HOK := Lib.hid (canO_ok hg)
 have HCG : Hid (canG g = rnG g (canO g)) := Lib.hid rfl
 generalize canG g = cg at *
 obtain ⟨s, rfl, hi1, hi2, ha⟩ := h
 obtain ⟨A, cap, rfl⟩ := ha.form
 clear hf hg ha
 go_enter Tryz.func65, Tryz.ntmps65
 go_wp2_with fail
 have bx : Below w.heap.size w ((w.alloc (Obj.cells #[Value.int IntKind.i64 g.1, Value.int IntKind.i64 g.2.1, .slice A g.2.2.length cap] 31)).alloc (Obj.cells #[Value.int IntKind.i64 0, Value.int IntKind.i64 0, .slice none 0 0] 31)) := (by repeat (first | exact Below.refl _ _ | (refine Below.setCell ?_ (by first | omega | (simp <;> omega)) _) | (refine bel_drewN ?_ _) | (refine Below.drew ?_) | (refine Below.alloc ?_ (by first | omega | (simp <;> omega)) _)))
 obtain ⟨W0, hW0⟩ : ∃ W, W = (w.alloc (Obj.cells #[Value.int IntKind.i64 g.1, Value.int IntKind.i64 g.2.1, .slice A g.2.2.length cap] 31)).alloc (Obj.cells #[Value.int IntKind.i64 0, Value.int IntKind.i64 0, .slice none 0 0] 31) := ⟨_, rfl⟩
 rw [← hW0] at bx ⊢
 have hsW : W0.heap.size = w.heap.size + 1 + 1 := by rw [hW0]; simp
 have B0 : W0.cell? ⟨w.heap.size, 0, none⟩ = some (.int .i64 g.1) := by rw [hW0]; simp [go_sem]
 have B1 : W0.cell? ⟨w.heap.size, 1, none⟩ = some (.int .i64 g.2.1) := by rw [hW0]; simp [go_sem]
 have B2 : W0.cell? ⟨w.heap.size, 2, none⟩ = some (.slice A g.2.2.length cap) := by rw [hW0]; simp [go_sem]
 have R0 : Hid (W0.cell? ⟨w.heap.size + 1, 0, none⟩ = some (.int .i64 0)) := Lib.hid (by rw [hW0]; simp [go_sem])
 have R1 : Hid (W0.cell? ⟨w.heap.size + 1, 1, none⟩ = some (.int .i64 0)) := Lib.hid (by rw [hW0]; simp [go_sem])
 have R2 : Hid (W0.cell? ⟨w.heap.size + 1, 2, none⟩ = some (.slice none 0 0)) := Lib.hid (by rw [hW0]; simp [go_sem])
 have RF : Hid (∀ j, W0.frozen? ⟨w.heap.size + 1, j, none⟩ = false) := Lib.hid fun j => by rw [hW0]; simp [go_sem]
 clear hW0
 have HSW := Lib.hid hsW
 have hl0 : w.heap.size < W0.heap.size := by omega
 have hl1 : w.heap.size + 1 < W0.heap.size := by omega
 clear hsW
 have BX := Lib.hid bx
 have HA : Hid (∀ w', Below W0.heap.size W0 w' → ArgG w' (.agg #[.int .i64 g.1, .int .i64 g.2.1, .slice A g.2.2.length cap]) g) := Lib.hid fun w' hb => HG.out.below (BX.out.trans (hb.mono (by omega)))
 have hif := implIsFolded_any _ g W0 (HA.out _ (Below.refl _ _))
 rw [HF.out] at hif
 have HIF := Lib.hid hif
 clear hif bx
 refine HIF.out.mono ?_
 rintro e w1 ⟨rfl, b1⟩
 have q0 := (b1.cell (p := ⟨w.heap.size, 0, none⟩) hl0).trans B0
 have q1 := (b1.cell (p := ⟨w.heap.size, 1, none⟩) hl0).trans B1
 have q2 := (b1.cell (p := ⟨w.heap.size, 2, none⟩) hl0).trans B2
 have BB := Lib.hid b1
 have C0 := Lib.hid B0
 have C1 := Lib.hid B1
 have C2 := Lib.hid B2
 clear b1 HIF B0 B1 B2
 go_wp2_with fail
 go_region_held3 (fun w' => w'.cell? ⟨w.heap.size, 0, none⟩ = some (.int .i64 g.1) ∧ w'.cell? ⟨w.heap.size, 1, none⟩ = some (.int .i64 g.2.1) ∧ w'.cell? ⟨w.heap.size, 2, none⟩ = some (.slice A g.2.2.length cap))
  (first | exact ⟨k0, k1, k2⟩ | go_keep)
  (first
   | (go_at_call 104; refine (canonicalOrder_any _ g _ (HA.out _ BB.out.drew) HF.out).mono ?_; rintro e' w2 ⟨r2, rfl, o2, b2⟩; have O2 := Lib.hid o2; have B2 := Lib.hid (BB.out.drew.trans (b2.mono BB.out.size)); have k0 := (B2.out.cell (p := ⟨w.heap.size, 0, none⟩) hl0).trans C0.out; have k1 := (B2.out.cell (p := ⟨w.heap.size, 1, none⟩) hl0).trans C1.out; have k2 := (B2.out.cell (p := ⟨w.heap.size, 2, none⟩) hl0).trans C2.out; clear o2 b2 q0 q1 q2)
   | (go_at_call 102; refine (part_any _ _ g (canO g) _ (HA.out _ B2.out) O2.out.rd HGR.out HOK.out).mono ?_; rintro e' w3 ⟨r3, rfl, o3, b3⟩; have s2 := B2.out.size; have B3 := Lib.hid (B2.out.trans (b3.mono s2)); obtain ⟨s3, rfl, i1, i2, oe3⟩ := o3; obtain ⟨A3, cap3, rfl, _⟩ := OwE.form oe3; have OE3 := Lib.hid (oe3.mono s2); have I1 := Lib.hid i1; have I2 := Lib.hid i2; have k0 := (B3.out.cell (p := ⟨w.heap.size, 0, none⟩) hl0).trans C0.out; have k1 := (B3.out.cell (p := ⟨w.heap.size, 1, none⟩) hl0).trans C1.out; have k2 := (B3.out.cell (p := ⟨w.heap.size, 2, none⟩) hl0).trans C2.out; have rr0 := (B3.out.cell (p := ⟨w.heap.size + 1, 0, none⟩) hl1).trans R0.out; have rr1 := (B3.out.cell (p := ⟨w.heap.size + 1, 1, none⟩) hl1).trans R1.out; have rr2 := (B3.out.cell (p := ⟨w.heap.size + 1, 2, none⟩) hl1).trans R2.out; have rf0 := (B3.out.frozen (p := ⟨w.heap.size + 1, 0, none⟩) hl1).trans (RF.out 0); have rf1 := (B3.out.frozen (p := ⟨w.heap.size + 1, 1, none⟩) hl1).trans (RF.out 1); have rf2 := (B3.out.frozen (p := ⟨w.heap.size + 1, 2, none⟩) hl1).trans (RF.out 2); clear b3 oe3 i1 i2))
 obtain ⟨c0, c1, c2⟩ := set3_cells w3 (w.heap.size + 1) (.int .i64 (rnG g (canO g)).1) (.int .i64 (rnG g (canO g)).2.1) (.slice A3 (rnG g (canO g)).2.2.length cap3) rr0 rr1 rr2
 have HB3 : Hid (Below w.heap.size w w3) := Lib.hid (BX.out.trans (B3.out.mono BX.out.size))
 have bw : Below w.heap.size w (((w3.setCell ⟨w.heap.size + 1, 0, none⟩ (.int .i64 (rnG g (canO g)).1)).setCell ⟨w.heap.size + 1, 1, none⟩ (.int .i64 (rnG g (canO g)).2.1)).setCell ⟨w.heap.size + 1, 2, none⟩ (.slice A3 (rnG g (canO g)).2.2.length cap3)) := (by repeat (first | exact Below.refl _ _ | (refine Below.setCell ?_ (by first | omega | (simp <;> omega)) _) | (refine bel_drewN ?_ _) | (refine Below.drew ?_) | (refine Below.alloc ?_ (by first | omega | (simp <;> omega)) _) | (refine Below.trans ?_ (Below.mono (Hid.out HB3) (by first | omega | (simp <;> omega))))))
 have ow : OwE (((w3.setCell ⟨w.heap.size + 1, 0, none⟩ (.int .i64 (rnG g (canO g)).1)).setCell ⟨w.heap.size + 1, 1, none⟩ (.int .i64 (rnG g (canO g)).2.1)).setCell ⟨w.heap.size + 1, 2, none⟩ (.slice A3 (rnG g (canO g)).2.2.length cap3)) W0.heap.size (.slice A3 (rnG g (canO g)).2.2.length cap3) (rnG g (canO g)).2.2 :=
  ((OE3.out.far (p := ⟨w.heap.size + 1, 0, none⟩) hl1 _).far (p := ⟨w.heap.size + 1, 1, none⟩) hl1 _).far (p := ⟨w.heap.size + 1, 2, none⟩) hl1 _
 generalize ((w3.setCell ⟨w.heap.size + 1, 0, none⟩ (.int .i64 (rnG g (canO g)).1)).setCell ⟨w.heap.size + 1, 1, none⟩ (.int .i64 (rnG g (canO g)).2.1)).setCell ⟨w.heap.size + 1, 2, none⟩ (.slice A3 (rnG g (canO g)).2.2.length cap3) = wf at *
 go_wp2
 refine bodyPost_ret (v := .agg #[.int .i64 (rnG g (canO g)).1, .int .i64 (rnG g (canO g)).2.1, .slice A3 (rnG g (canO g)).2.2.length cap3]) (by simp [results, Tryz.results65, go_sem, c0, c1, c2]) rfl ⟨_, rfl, ?_, bw⟩
 rw [HCG.out]
 exact ⟨_, rfl, I1.out, I2.out, ow.mono (by omega)⟩
set_option maxHeartbeats 1000000 in
theorem implIsCore_any (v : Value) (g : GrD) (w : World) (h : ArgG w v g) :
  Calls Tryz.prog 33 #[v] w fun e w' => e = .returned (.bool (coreB g)) ∧ Below w.heap.size w w' := by
 have HG := Lib.hid h
 obtain ⟨s, rfl, hi1, hi2, ha⟩ := h
 obtain ⟨A, cap, rfl⟩ := ha.form
 have HC : Hid (coreB g = (foldB g && decide (leafV g.2.2 g.2.1.toNat < 0) && decide (canG g = g))) := Lib.hid rfl
 generalize coreB g = cb at *
 clear ha
 go_enter Tryz.func33, Tryz.ntmps33
 go_wp2_with fail
 have bx : Below w.heap.size w (w.alloc (Obj.cells #[Value.int IntKind.i64 g.1, Value.int IntKind.i64 g.2.1, .slice A g.2.2.length cap] 31)) := (by repeat (first | exact Below.refl _ _ | (refine Below.setCell ?_ (by first | omega | (simp <;> omega)) _) | (refine bel_drewN ?_ _) | (refine Below.drew ?_) | (refine Below.alloc ?_ (by first | omega | (simp <;> omega)) _)))
 have l0 : (w.alloc (Obj.cells #[Value.int IntKind.i64 g.1, Value.int IntKind.i64 g.2.1, .slice A g.2.2.length cap] 31)).cell? ⟨w.heap.size, 0, none⟩ = some (.int .i64 g.1) := by simp [go_sem]
 have l1 : (w.alloc (Obj.cells #[Value.int IntKind.i64 g.1, Value.int IntKind.i64 g.2.1, .slice A g.2.2.length cap] 31)).cell? ⟨w.heap.size, 1, none⟩ = some (.int .i64 g.2.1) := by simp [go_sem]
 have l2 : (w.alloc (Obj.cells #[Value.int IntKind.i64 g.1, Value.int IntKind.i64 g.2.1, .slice A g.2.2.length cap] 31)).cell? ⟨w.heap.size, 2, none⟩ = some (.slice A g.2.2.length cap) := by simp [go_sem]
 have sA : w.heap.size < (w.alloc (Obj.cells #[Value.int IntKind.i64 g.1, Value.int IntKind.i64 g.2.1, .slice A g.2.2.length cap] 31)).heap.size := by simp
 generalize w.alloc (Obj.cells #[Value.int IntKind.i64 g.1, Value.int IntKind.i64 g.2.1, .slice A g.2.2.length cap] 31) = W at bx l0 l1 l2 sA ⊢
 have BX := Lib.hid bx
 have HA : Hid (∀ w', Below W.heap.size W w' → ArgG w' (.agg #[.int .i64 g.1, .int .i64 g.2.1, .slice A g.2.2.length cap]) g) := Lib.hid fun w' hb => HG.out.below (BX.out.trans (hb.mono (by omega)))
 clear bx
 refine (implIsFolded_any _ g W (HA.out _ (Below.refl _ _))).mono ?_
 rintro e w1 ⟨rfl, b1⟩
 have BW := Lib.hid b1
 have q0 := (b1.cell (p := ⟨w.heap.size, 0, none⟩) sA).trans l0
 have q1 := (b1.cell (p := ⟨w.heap.size, 1, none⟩) sA).trans l1
 have q2 := (b1.cell (p := ⟨w.heap.size, 2, none⟩) sA).trans l2
 have L0 := Lib.hid l0
 have L1 := Lib.hid l1
 have L2 := Lib.hid l2
 clear b1 l0 l1 l2
 rcases e1 : foldB g with _ | _
 ·have HR : Hid (cb = false) := Lib.hid (by rw [HC.out, e1]; rfl)
  clear e1
  go_wp2
  exact bodyPost_ret (v := .bool false) (by simp [results, Tryz.results33]) rfl ⟨by rw [HR.out], BX.out.trans (BW.out.mono (Nat.le_of_lt sA))⟩
 ·have HF := Lib.hid e1
  have hg := (foldB_parts e1).1
  have HGR := Lib.hid hg
  have HTS := Lib.hid (trimG_size hg)
  go_wp2_with fail
  refine (trimGraph_any _ g w1 (HA.out _ BW.out) HGR.out).mono ?_
  rintro e w2 ⟨rt, lt, rfl, ot, ol, b2⟩
  have s1 := BW.out.size
  have B2 := Lib.hid (BW.out.trans (b2.mono s1))
  have s2 := B2.out.size
  generalize trimG g = T at *
  obtain ⟨⟨t0, t1, t2⟩, tl⟩ := T
  obtain ⟨st, rfl, _, _, oe⟩ := ot
  obtain ⟨At, capt, rfl, _⟩ := OwE.form oe
  simp only at HTS ⊢
  have k0 := (B2.out.cell (p := ⟨w.heap.size, 0, none⟩) sA).trans L0.out
  have k1 := (B2.out.cell (p := ⟨w.heap.size, 1, none⟩) sA).trans L1.out
  have k2 := (B2.out.cell (p := ⟨w.heap.size, 2, none⟩) sA).trans L2.out
  have hsA2 : w.heap.size < w2.heap.size := by omega
  clear b2 ol oe q0 q1 q2 hg e1
  go_wp2
  have b3 : Below w2.heap.size w2 (w2.alloc (Obj.cells #[Value.int IntKind.i64 t0, Value.int IntKind.i64 t1, .slice At t2.length capt] 31)) := (Below.refl _ _).alloc (Nat.le_refl _) _
  have m1 : (w2.alloc (Obj.cells #[Value.int IntKind.i64 t0, Value.int IntKind.i64 t1, .slice At t2.length capt] 31)).cell? ⟨w2.heap.size, 1, none⟩ = some (.int .i64 t1) := by simp [go_sem]
  have s3 : w2.heap.size < (w2.alloc (Obj.cells #[Value.int IntKind.i64 t0, Value.int IntKind.i64 t1, .slice At t2.length capt] 31)).heap.size := by simp
  generalize w2.alloc (Obj.cells #[Value.int IntKind.i64 t0, Value.int IntKind.i64 t1, .slice At t2.length capt] 31) = W3 at b3 m1 s3 ⊢
  have p0 := (b3.cell (p := ⟨w.heap.size, 0, none⟩) hsA2).trans k0
  have p1 := (b3.cell (p := ⟨w.heap.size, 1, none⟩) hsA2).trans k1
  have p2 := (b3.cell (p := ⟨w.heap.size, 2, none⟩) hsA2).trans k2
  have B3 := Lib.hid (B2.out.trans (b3.mono s2))
  have hsA3 : w.heap.size < W3.heap.size := by omega
  have P0 := Lib.hid p0
  have P1 := Lib.hid p1
  have P2 := Lib.hid p2
  have M1 := Lib.hid m1
  clear k0 k1 k2 b3
  rcases hq : (t1 == g.2.1) with _ | _
  ·have HR : Hid (cb = false) := Lib.hid (by
    have h1 := HTS.out
    have h2 : decide (t1 = g.2.1) = false := by rw [decide_eq_false_iff_not]; exact beq_eq_false_iff_ne.1 hq
    rw [h2] at h1
    rw [HC.out, ← h1]
    simp)
   have f1 := BelW.cell p1 hsA3
   have f2 := BelW.cell m1 s3
   have f3 := BelW.cell p0 hsA3
   have f4 := BelW.cell p2 hsA3
   (refine wp_region_quiet_bel (by kernel_rfl) (by kernel_rfl) ?_; (repeat (go_big_quiet_step (fail))); refine wpQuiet_nil ?_; intro wq hw'; obtain ⟨pq, hw''⟩ := hw'; have bq := pq.h; rw [← hw''] at bq; clear hw'' pq)
   go_wp2
   exact bodyPost_ret (v := .bool false) (by simp [results, Tryz.results33]) rfl ⟨by rw [HR.out], BX.out.trans ((B3.out.trans (bq.mono (by omega))).mono (Nat.le_of_lt sA))⟩
  ·have HR : Hid (cb = decide (canG g = g)) := Lib.hid (by
    have h1 := HTS.out
    have h2 : decide (t1 = g.2.1) = true := by rw [decide_eq_true_iff]; exact eq_of_beq hq
    rw [h2] at h1
    rw [HC.out, ← h1, HF.out]
    simp)
   go_region_held3 (fun w' => w'.cell? ⟨w.heap.size, 0, none⟩ = some (.int .i64 g.1) ∧ w'.cell? ⟨w.heap.size, 1, none⟩ = some (.int .i64 g.2.1) ∧ w'.cell? ⟨w.heap.size, 2, none⟩ = some (.slice A g.2.2.length cap) ∧ w'.cell? ⟨w2.heap.size, 1, none⟩ = some (.int .i64 t1))
    (first | exact ⟨k0, k1, k2, k3⟩ | go_keep)
    (first
     | (go_at_call 65; refine (canonicalGraph_any _ g _ (HA.out _ B3.out.drew) HF.out).mono ?_; rintro e' w4 ⟨r4, rfl, o4, b4⟩; have B4 := Lib.hid ((Below.refl W3.heap.size W3).drew.trans b4); have O4 := Lib.hid o4; have k0 := (B4.out.cell (p := ⟨w.heap.size, 0, none⟩) hsA3).trans P0.out; have k1 := (B4.out.cell (p := ⟨w.heap.size, 1, none⟩) hsA3).trans P1.out; have k2 := (B4.out.cell (p := ⟨w.heap.size, 2, none⟩) hsA3).trans P2.out; have k3 := (B4.out.cell (p := ⟨w2.heap.size, 1, none⟩) s3).trans M1.out; clear b4 o4)
     | (go_at_call 64; refine (implEqualGraphs_any _ _ (canG g) g _ O4.out.arg (HA.out _ (B3.out.trans (B4.out.mono B3.out.size)))).mono ?_; rintro e' w5 ⟨rfl, b5⟩; have B5 := Lib.hid (B4.out.trans (b5.mono B4.out.size)); have k0 := (B5.out.cell (p := ⟨w.heap.size, 0, none⟩) hsA3).trans P0.out; have k1 := (B5.out.cell (p := ⟨w.heap.size, 1, none⟩) hsA3).trans P1.out; have k2 := (B5.out.cell (p := ⟨w.heap.size, 2, none⟩) hsA3).trans P2.out; have k3 := (B5.out.cell (p := ⟨w2.heap.size, 1, none⟩) s3).trans M1.out; clear b5))
   go_wp2
   exact bodyPost_ret (v := .bool (decide (canG g = g))) (by simp [results, Tryz.results33]) rfl ⟨by rw [HR.out], BX.out.trans ((B3.out.trans (B5.out.mono (by omega))).mono (Nat.le_of_lt sA))⟩
end Go.Proofs.YtfadnkjlilhneaaGreat
