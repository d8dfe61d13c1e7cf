/- The reference's IsSubgroup, RankOf, LeastRank. The reference's IsCore. -/
import Derived.Test.YtfadnkjlilhneaaGreatCanG
import Derived.Test.YtfadnkjlilhneaaGreatGrA
import Derived.Test.YtfadnkjlilhneaaGreatGrS
namespace Go.Proofs.YtfadnkjlilhneaaGreat
set_option maxRecDepth 20000
set_option linter.unusedVariables false
set_option linter.unusedSimpArgs false
open Go.RowKit

def coreB (g : GrD) : Bool := foldB g && decide (leafV g.2.2 g.2.1.toNat < 0) && decide (canG g = g)
set_option maxHeartbeats 1000000 in
theorem specIsCore_any (v : Value) (g : GrD) (w : World) (h : ArgG w v g) :
  Calls Tryz.prog 51 #[v] w fun e w' => e = .returned (.bool (coreB g)) ∧ Below w.heap.size w w' := by
 have HG := Lib.hid h
 obtain ⟨s, rfl, hi1, hi2, ha⟩ := h
 have HC : Hid (coreB g = (foldB g && decide (leafV g.2.2 g.2.1.toNat < 0) && decide (canG g = g))) := Lib.hid rfl
 generalize coreB g = cb at *
 clear ha
 go_enter Tryz.func51, Tryz.ntmps51
 go_wp2_with fail
 have bx : Below w.heap.size w (w.alloc (Obj.cells #[Value.int IntKind.i64 g.1, Value.int IntKind.i64 g.2.1, s] 31)) := (by repeat (first | exact Below.refl _ _ | (refine Below.setCell ?_ (by first | omega | (simp <;> omega)) _) | (refine bel_drewN ?_ _) | (refine Below.drew ?_) | (refine Below.alloc ?_ (by first | omega | (simp <;> omega)) _)))
 have l0 : (w.alloc (Obj.cells #[Value.int IntKind.i64 g.1, Value.int IntKind.i64 g.2.1, s] 31)).cell? ⟨w.heap.size, 0, none⟩ = some (.int .i64 g.1) := by simp [go_sem]
 have l1 : (w.alloc (Obj.cells #[Value.int IntKind.i64 g.1, Value.int IntKind.i64 g.2.1, s] 31)).cell? ⟨w.heap.size, 1, none⟩ = some (.int .i64 g.2.1) := by simp [go_sem]
 have l2 : (w.alloc (Obj.cells #[Value.int IntKind.i64 g.1, Value.int IntKind.i64 g.2.1, s] 31)).cell? ⟨w.heap.size, 2, none⟩ = some s := by simp [go_sem]
 have sA : w.heap.size < (w.alloc (Obj.cells #[Value.int IntKind.i64 g.1, Value.int IntKind.i64 g.2.1, s] 31)).heap.size := by simp
 generalize w.alloc (Obj.cells #[Value.int IntKind.i64 g.1, Value.int IntKind.i64 g.2.1, s] 31) = W at bx l0 l1 l2 sA ⊢
 have BX := Lib.hid bx
 have HA : Hid (∀ w', Below W.heap.size W w' → ArgG w' (.agg #[.int .i64 g.1, .int .i64 g.2.1, s]) g) := Lib.hid fun w' hb => HG.out.below (BX.out.trans (hb.mono (by omega)))
 clear bx
 have hif := fun w' hb => specIsFolded_any _ g w' (HA.out w' hb)
 rcases e1 : foldB g with _ | _
 ·have HF := Lib.hid e1
  have HR : Hid (cb = false) := Lib.hid (by rw [HC.out, e1]; rfl)
  simp only [e1] at hif
  have HIF := Lib.hid hif
  clear e1 hif
  have f0 := BelW.cell l0 sA
  have f1 := BelW.cell l1 sA
  have f2 := BelW.cell l2 sA
  (refine wp_region_quiet_bel (by kernel_rfl) (by kernel_rfl) ?_; (repeat (go_big_quiet_step (first | (go_at_call 56; exact Calls.bel_of (HIF.out _ (BelW.h _)))))); refine wpQuiet_nil ?_; intro wq hw'; obtain ⟨pq, hw''⟩ := hw'; have bq := pq.h; rw [← hw''] at bq; clear hw'' pq)
  go_wp2
  exact bodyPost_ret (v := .bool false) (by simp [results, Tryz.results51]) rfl ⟨by rw [HR.out], BX.out.trans (bq.mono (Nat.le_of_lt sA))⟩
 ·have HF := Lib.hid e1
  have hg := (foldB_parts e1).1
  simp only [e1] at hif
  have HIF := Lib.hid hif
  clear hif
  have HGR := Lib.hid hg
  have HLV : Hid (leafV g.2.2 g.2.1.toNat = leafV g.2.2 g.2.1.toNat) := Lib.hid rfl
  have L8 := Lib.hid (fun w' hb => l8Leaf_any _ g w' (HA.out w' hb) HGR.out)
  generalize leafV g.2.2 g.2.1.toNat = lv at *
  clear hg
  by_cases hl : lv < 0
  ·have HR : Hid (cb = decide (canG g = g)) := Lib.hid (by rw [HC.out, e1]; simp [hl])
   clear e1
   go_region_held3 (fun w' => w'.cell? ⟨w.heap.size, 0, none⟩ = some (.int .i64 g.1) ∧ w'.cell? ⟨w.heap.size, 1, none⟩ = some (.int .i64 g.2.1) ∧ w'.cell? ⟨w.heap.size, 2, none⟩ = some s)
    (first | go_keep | exact ⟨q0, q1, q2⟩)
    (first
     | (go_at_call 56; refine (specIsFolded_any _ g _ (HA.out _ (Below.refl _ _).drew)).mono ?_; rintro e' w1 ⟨rfl, b1⟩; rw [HF.out]; have B1 := Lib.hid ((Below.refl _ W).drew.trans b1); have q0 := (B1.out.cell (p := ⟨w.heap.size, 0, none⟩) sA).trans l0; have q1 := (B1.out.cell (p := ⟨w.heap.size, 1, none⟩) sA).trans l1; have q2 := (B1.out.cell (p := ⟨w.heap.size, 2, none⟩) sA).trans l2; clear b1)
     | (go_at_call 91; refine (L8.out _ B1.out).mono ?_; rintro e' w2 ⟨rfl, b2⟩; have B2 := Lib.hid (B1.out.trans (b2.mono B1.out.size)); have q0 := (B2.out.cell (p := ⟨w.heap.size, 0, none⟩) sA).trans l0; have q1 := (B2.out.cell (p := ⟨w.heap.size, 1, none⟩) sA).trans l1; have q2 := (B2.out.cell (p := ⟨w.heap.size, 2, none⟩) sA).trans l2; clear b2)
     | (go_at_call 93; refine (specCanonicalGraph_any _ g _ (HA.out _ B2.out) HF.out).mono ?_; rintro e' w3 ⟨r3, rfl, o3, b3⟩; have B3 := Lib.hid (B2.out.trans (b3.mono B2.out.size)); have O3 := Lib.hid o3; have q0 := (B3.out.cell (p := ⟨w.heap.size, 0, none⟩) sA).trans l0; have q1 := (B3.out.cell (p := ⟨w.heap.size, 1, none⟩) sA).trans l1; have q2 := (B3.out.cell (p := ⟨w.heap.size, 2, none⟩) sA).trans l2; clear b3 o3)
     | (go_at_call 92; refine (specEqualGraphs_any _ _ (canG g) g _ O3.out.arg (HA.out _ B3.out)).mono ?_; rintro e' w4 ⟨rfl, b4⟩; have B4 := Lib.hid (B3.out.trans (b4.mono B3.out.size)); have q0 := (B4.out.cell (p := ⟨w.heap.size, 0, none⟩) sA).trans l0; have q1 := (B4.out.cell (p := ⟨w.heap.size, 1, none⟩) sA).trans l1; have q2 := (B4.out.cell (p := ⟨w.heap.size, 2, none⟩) sA).trans l2; clear b4))
   go_wp2
   exact bodyPost_ret (v := .bool (decide (canG g = g))) (by simp [results, Tryz.results51]) rfl ⟨by rw [HR.out], BX.out.trans (B4.out.mono (Nat.le_of_lt sA))⟩
  ·have HR : Hid (cb = false) := Lib.hid (by rw [HC.out, e1]; simp [hl])
   clear e1
   have f0 := BelW.cell l0 sA
   have f1 := BelW.cell l1 sA
   have f2 := BelW.cell l2 sA
   (refine wp_region_quiet_bel (by kernel_rfl) (by kernel_rfl) ?_; (repeat (go_big_quiet_step (first | (go_at_call 56; exact Calls.bel_of (HIF.out _ (BelW.h _))) | (go_at_call 91; exact Calls.bel_of (L8.out _ (BelW.h _)))))); refine wpQuiet_nil ?_; intro wq hw'; obtain ⟨pq, hw''⟩ := hw'; have bq := pq.h; rw [← hw''] at bq; clear hw'' pq)
   go_wp2
   exact bodyPost_ret (v := .bool false) (by simp [results, Tryz.results51]) rfl ⟨by rw [HR.out], BX.out.trans (bq.mono (Nat.le_of_lt sA))⟩
theorem coreB_grB {g : GrD} (h : coreB g = true) : grB g = true := by
 unfold coreB at h
 simp only [Bool.and_eq_true] at h
 exact (foldB_parts h.1.1).1
set_option maxHeartbeats 1000000 in
theorem specIsSubgroup_any (v : Value) (g : GrD) (w : World) (h : ArgG w v g) :
  Calls Tryz.prog 24 #[v] w fun e w' => e = .returned (.bool (coreB g)) ∧ Below w.heap.size w w' := by
 have HG := Lib.hid h
 obtain ⟨s, rfl, hi1, hi2, ha⟩ := h
 clear ha
 go_enter Tryz.func24, Tryz.ntmps24
 go_wp2_with fail
 have bx : Below w.heap.size w (w.alloc (Obj.cells #[Value.int IntKind.i64 g.1, Value.int IntKind.i64 g.2.1, s] 31)) := (by repeat (first | exact Below.refl _ _ | (refine Below.setCell ?_ (by first | omega | (simp <;> omega)) _) | (refine bel_drewN ?_ _) | (refine Below.drew ?_) | (refine Below.alloc ?_ (by first | omega | (simp <;> omega)) _)))
 refine (specIsCore_any _ g _ (HG.out.below bx)).mono ?_
 rintro e w1 ⟨rfl, b1⟩
 have b2 := bx.trans (b1.mono bx.size)
 go_wp2
 exact bodyPost_ret (v := .bool (coreB g)) (by simp [results, Tryz.results24]) rfl ⟨rfl, b2⟩
end Go.Proofs.YtfadnkjlilhneaaGreat
