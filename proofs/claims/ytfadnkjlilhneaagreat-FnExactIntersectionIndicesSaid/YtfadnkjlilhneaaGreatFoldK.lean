/- The program's FoldOnce, FoldAll, CoreGraph. -/
import Derived.Test.YtfadnkjlilhneaaGreatMerI
namespace Go.Proofs.YtfadnkjlilhneaaGreat
set_option maxRecDepth 20000
set_option linter.unusedVariables false
set_option linter.unusedSimpArgs false
open Go.RowKit

def sLen : Value → Nat
 | .slice _ n _ => n
 | _ => 0
set_option maxHeartbeats 1000000 in
theorem implFoldOnce_any (v : Value) (g : GrD) (w : World) (h : ArgG w v g) (hg : grB g = true) :
  Calls Tryz.prog 141 #[v] w fun e w' => ∃ r, e = .returned (.tuple #[r, .agg #[.int .i64 (firF g).1.1, .int .i64 (firF g).1.2], .bool (firF g).2]) ∧ OwG w' w.heap.size r (onceG g) ∧ Below w.heap.size w w' := by
 have HG := Lib.hid h
 have HGR := Lib.hid hg
 have HFK := Lib.hid fun f (hf : f ∈ foL g.2.2) => foL_ok hg hf
 have h120 := (grB_parts hg).2.2.1
 obtain ⟨s, rfl, hi1, hi2, ha⟩ := h
 obtain ⟨A, cap, rfl⟩ := ha.form
 obtain ⟨g1, N, es⟩ := g
 simp only at *
 clear ha hg
 go_enter Tryz.func141, Tryz.ntmps141
 have bx : Below w.heap.size w (((w.alloc (Obj.cells #[Value.int IntKind.i64 g1, Value.int IntKind.i64 N, .slice A es.length cap] 31)).alloc (Obj.cells #[Value.int IntKind.i64 0, Value.int IntKind.i64 0, .slice none 0 0] 31)).alloc (Obj.cells #[Value.int IntKind.i64 0, Value.int IntKind.i64 0] 128)) := (by repeat (first | exact Below.refl _ _ | (refine Below.setCell ?_ (by first | omega | (simp <;> omega)) _) | (refine bel_drewN ?_ _) | (refine Below.drew ?_) | (refine Below.alloc ?_ (by first | omega | (simp <;> omega)) _)))
 go_wp2_with fail
 obtain ⟨W, hW⟩ : ∃ W, W = (((w.alloc (Obj.cells #[Value.int IntKind.i64 g1, Value.int IntKind.i64 N, .slice A es.length cap] 31)).alloc (Obj.cells #[Value.int IntKind.i64 0, Value.int IntKind.i64 0, .slice none 0 0] 31)).alloc (Obj.cells #[Value.int IntKind.i64 0, Value.int IntKind.i64 0] 128)) := ⟨_, rfl⟩
 rw [← hW] at bx ⊢
 have hsW : W.heap.size = w.heap.size + 3 := by rw [hW]; simp
 have L0 : Hid (W.cell? ⟨w.heap.size, 0, none⟩ = some (.int .i64 g1)) := Lib.hid (by rw [hW]; simp [go_sem])
 have L1 : Hid (W.cell? ⟨w.heap.size, 1, none⟩ = some (.int .i64 N)) := Lib.hid (by rw [hW]; simp [go_sem])
 have L2 : Hid (W.cell? ⟨w.heap.size, 2, none⟩ = some (.slice A es.length cap)) := Lib.hid (by rw [hW]; simp [go_sem])
 have R0 : Hid (W.cell? ⟨w.heap.size + 1, 0, none⟩ = some (.int .i64 0)) := Lib.hid (by rw [hW]; simp [go_sem])
 have R1 : Hid (W.cell? ⟨w.heap.size + 1, 1, none⟩ = some (.int .i64 0)) := Lib.hid (by rw [hW]; simp [go_sem])
 have R2 : Hid (W.cell? ⟨w.heap.size + 1, 2, none⟩ = some (.slice none 0 0)) := Lib.hid (by rw [hW]; simp [go_sem])
 have S0 : Hid (W.cell? ⟨w.heap.size + 1 + 1, 0, none⟩ = some (.int .i64 0)) := Lib.hid (by rw [hW]; simp [go_sem])
 have S1 : Hid (W.cell? ⟨w.heap.size + 1 + 1, 1, none⟩ = some (.int .i64 0)) := Lib.hid (by rw [hW]; simp [go_sem])
 have RF : Hid (∀ j, W.frozen? ⟨w.heap.size + 1, j, none⟩ = false) := Lib.hid fun j => by rw [hW]; simp [go_sem]
 have SF : Hid (∀ j, W.frozen? ⟨w.heap.size + 1 + 1, j, none⟩ = false) := Lib.hid fun j => by rw [hW]; simp [go_sem]
 have BX := Lib.hid bx
 have HA : Hid (∀ w', Below W.heap.size W w' → ArgG w' (.agg #[.int .i64 g1, .int .i64 N, .slice A es.length cap]) (g1, N, es)) := Lib.hid fun w' hb => HG.out.below (BX.out.trans (hb.mono BX.out.size))
 have HCL : Hid (∀ w', Below W.heap.size W w' → w'.cell? ⟨w.heap.size, 0, none⟩ = some (.int .i64 g1) ∧ w'.cell? ⟨w.heap.size, 1, none⟩ = some (.int .i64 N) ∧ w'.cell? ⟨w.heap.size, 2, none⟩ = some (.slice A es.length cap)) := Lib.hid fun w' hb =>
  ⟨(hb.cell (p := ⟨w.heap.size, 0, none⟩) (by show w.heap.size < _; omega)).trans L0.out, (hb.cell (p := ⟨w.heap.size, 1, none⟩) (by show w.heap.size < _; omega)).trans L1.out, (hb.cell (p := ⟨w.heap.size, 2, none⟩) (by show w.heap.size < _; omega)).trans L2.out⟩
 have HCR : Hid (∀ w', Below W.heap.size W w' → w'.cell? ⟨w.heap.size + 1, 0, none⟩ = some (.int .i64 0) ∧ w'.cell? ⟨w.heap.size + 1, 1, none⟩ = some (.int .i64 0) ∧ w'.cell? ⟨w.heap.size + 1, 2, none⟩ = some (.slice none 0 0) ∧ w'.cell? ⟨w.heap.size + 1 + 1, 0, none⟩ = some (.int .i64 0) ∧ w'.cell? ⟨w.heap.size + 1 + 1, 1, none⟩ = some (.int .i64 0) ∧ (∀ j, w'.frozen? ⟨w.heap.size + 1, j, none⟩ = false) ∧ (∀ j, w'.frozen? ⟨w.heap.size + 1 + 1, j, none⟩ = false)) := Lib.hid fun w' hb =>
  ⟨(hb.cell (p := ⟨w.heap.size + 1, 0, none⟩) (by show w.heap.size + 1 < _; omega)).trans R0.out, (hb.cell (p := ⟨w.heap.size + 1, 1, none⟩) (by show w.heap.size + 1 < _; omega)).trans R1.out, (hb.cell (p := ⟨w.heap.size + 1, 2, none⟩) (by show w.heap.size + 1 < _; omega)).trans R2.out, (hb.cell (p := ⟨w.heap.size + 1 + 1, 0, none⟩) (by show w.heap.size + 1 + 1 < _; omega)).trans S0.out, (hb.cell (p := ⟨w.heap.size + 1 + 1, 1, none⟩) (by show w.heap.size + 1 + 1 < _; omega)).trans S1.out, fun j => (hb.frozen (p := ⟨w.heap.size + 1, j, none⟩) (by show w.heap.size + 1 < _; omega)).trans (RF.out j), fun j => (hb.frozen (p := ⟨w.heap.size + 1 + 1, j, none⟩) (by show w.heap.size + 1 + 1 < _; omega)).trans (SF.out j)⟩
 clear hW bx L0 L1 L2 R0 R1 R2 S0 S1 RF SF
 refine (implFirstFold_any _ (g1, N, es) W (HA.out _ (Below.refl _ _))).mono ?_
 rintro e w1 ⟨rfl, b1⟩
 have B1 := Lib.hid b1
 have hs1 := b1.size
 clear b1
 rcases ef : foL es with _ | ⟨f, l⟩
 ·have F : Hid (firF (g1, N, es) = ((0, 0), false)) := Lib.hid (by unfold firF; rw [if_pos HGR.out]; simp only [ef])
  have FO : Hid (onceG (g1, N, es) = (g1, N, es)) := Lib.hid (by unfold onceG; simp only [ef])
  clear ef
  rw [F.out]
  simp only
  have bA : Below w1.heap.size w1 (w1.alloc (Obj.cells #[Value.int IntKind.i64 0, Value.int IntKind.i64 0] 128)) := (Below.refl _ _).alloc (Nat.le_refl _) _
  have BA := Lib.hid (B1.out.trans (bA.mono hs1))
  obtain ⟨q0, q1, q2⟩ := HCL.out _ BA.out
  go_wp2_with fail
  refine (copyGraph_any _ (g1, N, es) _ (HA.out _ BA.out) (by simp only; omega)).mono ?_
  rintro e w2 ⟨r, rfl, o2, b2⟩
  have B2 := Lib.hid (BA.out.trans (b2.mono BA.out.size))
  have O2 := Lib.hid o2
  obtain ⟨s2, rfl, _, _, oe2⟩ := o2
  obtain ⟨A2, c2, rfl, _⟩ := oe2.form
  have OE2 := Lib.hid oe2
  have hsA := BA.out.size
  obtain ⟨r0, r1, r2, s0, s1, rf, sf⟩ := HCR.out w2 B2.out
  have rf0 := rf 0
  have rf1 := rf 1
  have rf2 := rf 2
  have sf0 := sf 0
  have sf1 := sf 1
  have HBF := Lib.hid (BX.out.trans (B2.out.mono BX.out.size))
  clear b2 oe2 rf sf q0 q1 q2 bA
  go_wp2
  obtain ⟨c0, c1, c2'⟩ := cells3F (.int .i64 g1) (.int .i64 N) (.slice A2 es.length c2) r0 r1 r2
  have hne1 : w.heap.size + 1 ≠ w.heap.size + 1 + 1 := by omega
  have hne2 : w.heap.size + 1 + 1 ≠ w.heap.size + 1 := by omega
  have d0 := setc_other (o' := 1) (u := .int .i64 0) hne1 (setc_other (o' := 0) (u := .int .i64 0) hne1 c0)
  have d1 := setc_other (o' := 1) (u := .int .i64 0) hne1 (setc_other (o' := 0) (u := .int .i64 0) hne1 c1)
  have d2 := setc_other (o' := 1) (u := .int .i64 0) hne1 (setc_other (o' := 0) (u := .int .i64 0) hne1 c2')
  obtain ⟨e0, e1⟩ := cells2 (.int .i64 0) (.int .i64 0) (setc_other (o' := 2) (u := .slice A2 es.length c2) hne2 (setc_other (o' := 1) (u := .int .i64 N) hne2 (setc_other (o' := 0) (u := .int .i64 g1) hne2 s0))) (setc_other (o' := 2) (u := .slice A2 es.length c2) hne2 (setc_other (o' := 1) (u := .int .i64 N) hne2 (setc_other (o' := 0) (u := .int .i64 g1) hne2 s1)))
  have bw : Below w.heap.size w (((((w2.setCell ⟨w.heap.size + 1, 0, none⟩ (.int .i64 g1)).setCell ⟨w.heap.size + 1, 1, none⟩ (.int .i64 N)).setCell ⟨w.heap.size + 1, 2, none⟩ (.slice A2 es.length c2)).setCell ⟨w.heap.size + 1 + 1, 0, none⟩ (.int .i64 0)).setCell ⟨w.heap.size + 1 + 1, 1, none⟩ (.int .i64 0)) := (((((HBF.out.setCell (by simp <;> omega) _).setCell (by simp <;> omega) _).setCell (by simp <;> omega) _).setCell (by simp <;> omega) _).setCell (by simp <;> omega) _)
  have ow : OwE (((((w2.setCell ⟨w.heap.size + 1, 0, none⟩ (.int .i64 g1)).setCell ⟨w.heap.size + 1, 1, none⟩ (.int .i64 N)).setCell ⟨w.heap.size + 1, 2, none⟩ (.slice A2 es.length c2)).setCell ⟨w.heap.size + 1 + 1, 0, none⟩ (.int .i64 0)).setCell ⟨w.heap.size + 1 + 1, 1, none⟩ (.int .i64 0)) _ (.slice A2 es.length c2) es := (((((OE2.out.far (by show w.heap.size + 1 < _; omega) _).far (by show w.heap.size + 1 < _; omega) _).far (by show w.heap.size + 1 < _; omega) _).far (by show w.heap.size + 1 + 1 < _; omega) _).far (by show w.heap.size + 1 + 1 < _; omega) _)
  generalize (((((w2.setCell ⟨w.heap.size + 1, 0, none⟩ (.int .i64 g1)).setCell ⟨w.heap.size + 1, 1, none⟩ (.int .i64 N)).setCell ⟨w.heap.size + 1, 2, none⟩ (.slice A2 es.length c2)).setCell ⟨w.heap.size + 1 + 1, 0, none⟩ (.int .i64 0)).setCell ⟨w.heap.size + 1 + 1, 1, none⟩ (.int .i64 0)) = wf at *
  rw [FO.out, F.out]
  exact bodyPost_ret (v := .tuple #[.agg #[.int .i64 g1, .int .i64 N, .slice A2 es.length c2], .agg #[.int .i64 0, .int .i64 0], .bool false]) (by simp [results, Tryz.results141, go_sem, d0, d1, d2, e0, e1]) rfl ⟨_, rfl, ⟨.slice A2 es.length c2, rfl, hi1, hi2, ow.mono (by omega)⟩, bw⟩
 ·have F : Hid (firF (g1, N, es) = (f, true)) := Lib.hid (by unfold firF; rw [if_pos HGR.out]; simp only [ef])
  have FO : Hid (onceG (g1, N, es) = merG (g1, N, es) f) := Lib.hid (by unfold onceG; simp only [ef])
  have hfk := HFK.out f (by rw [ef]; simp)
  clear ef
  rw [F.out]
  obtain ⟨fa, fb⟩ := f
  simp only
  have bA : Below w1.heap.size w1 (w1.alloc (Obj.cells #[Value.int IntKind.i64 fa, Value.int IntKind.i64 fb] 128)) := (Below.refl _ _).alloc (Nat.le_refl _) _
  have BA := Lib.hid (B1.out.trans (bA.mono hs1))
  obtain ⟨q0, q1, q2⟩ := HCL.out _ BA.out
  go_wp2_with fail
  obtain ⟨WA, hWA⟩ : ∃ W, W = w1.alloc (Obj.cells #[Value.int IntKind.i64 fa, Value.int IntKind.i64 fb] 128) := ⟨_, rfl⟩
  have k0 : Hid (WA.cell? ⟨w1.heap.size, 0, none⟩ = some (.int .i64 fa)) := Lib.hid (by rw [hWA]; simp [go_sem])
  have k1 : Hid (WA.cell? ⟨w1.heap.size, 1, none⟩ = some (.int .i64 fb)) := Lib.hid (by rw [hWA]; simp [go_sem])
  have hsA : WA.heap.size = w1.heap.size + 1 := by rw [hWA]; simp
  rw [← hWA] at BA q0 q1 q2 ⊢
  clear hWA bA
  refine (implMergeVertices_any _ (g1, N, es) (fa, fb) WA (HA.out _ BA.out) HGR.out hfk).mono ?_
  rintro e w2 ⟨r, rfl, o2, b2⟩
  have B2 := Lib.hid (BA.out.trans (b2.mono BA.out.size))
  have hs2 := b2.size
  obtain ⟨s2, rfl, hj1, hj2, oe2⟩ := o2
  obtain ⟨A2, c2, rfl, _⟩ := oe2.form
  have OE2 := Lib.hid oe2
  have l0 := (b2.cell (p := ⟨w1.heap.size, 0, none⟩) (by show w1.heap.size < _; omega)).trans k0.out
  have l1 := (b2.cell (p := ⟨w1.heap.size, 1, none⟩) (by show w1.heap.size < _; omega)).trans k1.out
  clear b2 oe2 q0 q1 q2
  generalize hmg : merG (g1, N, es) (fa, fb) = M at *
  obtain ⟨m1, m2, ms⟩ := M
  simp only at hj1 hj2
  have HMG := Lib.hid hmg
  clear hmg
  go_wp2_with fail
  have bB : Below w2.heap.size w2 (w2.alloc (Obj.cells #[Value.int IntKind.i64 m1, Value.int IntKind.i64 m2, .slice A2 ms.length c2] 31)) := (Below.refl _ _).alloc (Nat.le_refl _) _
  obtain ⟨WB, hWB⟩ : ∃ W, W = w2.alloc (Obj.cells #[Value.int IntKind.i64 m1, Value.int IntKind.i64 m2, .slice A2 ms.length c2] 31) := ⟨_, rfl⟩
  have x0 : WB.cell? ⟨w2.heap.size, 0, none⟩ = some (.int .i64 m1) := by rw [hWB]; simp [go_sem]
  have x1 : WB.cell? ⟨w2.heap.size, 1, none⟩ = some (.int .i64 m2) := by rw [hWB]; simp [go_sem]
  have x2 : WB.cell? ⟨w2.heap.size, 2, none⟩ = some (.slice A2 ms.length c2) := by rw [hWB]; simp [go_sem]
  have hsB : WB.heap.size = w2.heap.size + 1 := by rw [hWB]; simp
  rw [← hWB] at bB ⊢
  clear hWB
  have y0 := (bB.cell (p := ⟨w1.heap.size, 0, none⟩) (by show w1.heap.size < _; omega)).trans l0
  have y1 := (bB.cell (p := ⟨w1.heap.size, 1, none⟩) (by show w1.heap.size < _; omega)).trans l1
  have BB := Lib.hid (B2.out.trans (bB.mono B2.out.size))
  have OEB := Lib.hid (OE2.out.below bB)
  obtain ⟨r0, r1, r2, s0, s1, rf, sf⟩ := HCR.out WB BB.out
  have rf0 := rf 0
  have rf1 := rf 1
  have rf2 := rf 2
  have sf0 := sf 0
  have sf1 := sf 1
  have hne1 : w.heap.size + 1 ≠ w2.heap.size := by omega
  have hne2 : w.heap.size + 1 + 1 ≠ w2.heap.size := by omega
  have hne3 : w.heap.size + 1 ≠ w1.heap.size := by omega
  have hne4 : w.heap.size + 1 + 1 ≠ w1.heap.size := by omega
  have HBF := Lib.hid (BX.out.trans (BB.out.mono BX.out.size))
  clear rf sf l0 l1 bB
  go_region_held3 (fun w' => w'.cell? ⟨w2.heap.size, 0, none⟩ = some (.int .i64 m1) ∧ w'.cell? ⟨w2.heap.size, 1, none⟩ = some (.int .i64 m2) ∧ w'.cell? ⟨w2.heap.size, 2, none⟩ = some (.slice A2 ms.length c2) ∧ w'.cell? ⟨w1.heap.size, 0, none⟩ = some (.int .i64 fa) ∧ w'.cell? ⟨w1.heap.size, 1, none⟩ = some (.int .i64 fb))
   (first | go_keep | (simp [go_sem, *]; done))
   (fail)
  go_wp2
  obtain ⟨c0, c1, c2'⟩ := cells3F (.int .i64 m1) (.int .i64 m2) (.slice A2 ms.length c2) r0 r1 r2
  have hnf1 : w.heap.size + 1 ≠ w.heap.size + 1 + 1 := by omega
  have hnf2 : w.heap.size + 1 + 1 ≠ w.heap.size + 1 := by omega
  have d0 := setc_other (o' := 1) (u := .int .i64 fb) hnf1 (setc_other (o' := 0) (u := .int .i64 fa) hnf1 c0)
  have d1 := setc_other (o' := 1) (u := .int .i64 fb) hnf1 (setc_other (o' := 0) (u := .int .i64 fa) hnf1 c1)
  have d2 := setc_other (o' := 1) (u := .int .i64 fb) hnf1 (setc_other (o' := 0) (u := .int .i64 fa) hnf1 c2')
  obtain ⟨e0, e1⟩ := cells2 (.int .i64 fa) (.int .i64 fb) (setc_other (o' := 2) (u := .slice A2 ms.length c2) hnf2 (setc_other (o' := 1) (u := .int .i64 m2) hnf2 (setc_other (o' := 0) (u := .int .i64 m1) hnf2 s0))) (setc_other (o' := 2) (u := .slice A2 ms.length c2) hnf2 (setc_other (o' := 1) (u := .int .i64 m2) hnf2 (setc_other (o' := 0) (u := .int .i64 m1) hnf2 s1)))
  have bw : Below w.heap.size w (((((WB.setCell ⟨w.heap.size + 1, 0, none⟩ (.int .i64 m1)).setCell ⟨w.heap.size + 1, 1, none⟩ (.int .i64 m2)).setCell ⟨w.heap.size + 1, 2, none⟩ (.slice A2 ms.length c2)).setCell ⟨w.heap.size + 1 + 1, 0, none⟩ (.int .i64 fa)).setCell ⟨w.heap.size + 1 + 1, 1, none⟩ (.int .i64 fb)).drew := (((((HBF.out.setCell (by simp <;> omega) _).setCell (by simp <;> omega) _).setCell (by simp <;> omega) _).setCell (by simp <;> omega) _).setCell (by simp <;> omega) _).drew
  have ow : OwE (((((WB.setCell ⟨w.heap.size + 1, 0, none⟩ (.int .i64 m1)).setCell ⟨w.heap.size + 1, 1, none⟩ (.int .i64 m2)).setCell ⟨w.heap.size + 1, 2, none⟩ (.slice A2 ms.length c2)).setCell ⟨w.heap.size + 1 + 1, 0, none⟩ (.int .i64 fa)).setCell ⟨w.heap.size + 1 + 1, 1, none⟩ (.int .i64 fb)).drew _ (.slice A2 ms.length c2) ms := (((((OEB.out.far (by show w.heap.size + 1 < _; omega) _).far (by show w.heap.size + 1 < _; omega) _).far (by show w.heap.size + 1 < _; omega) _).far (by show w.heap.size + 1 + 1 < _; omega) _).far (by show w.heap.size + 1 + 1 < _; omega) _).drew
  generalize (((((WB.setCell ⟨w.heap.size + 1, 0, none⟩ (.int .i64 m1)).setCell ⟨w.heap.size + 1, 1, none⟩ (.int .i64 m2)).setCell ⟨w.heap.size + 1, 2, none⟩ (.slice A2 ms.length c2)).setCell ⟨w.heap.size + 1 + 1, 0, none⟩ (.int .i64 fa)).setCell ⟨w.heap.size + 1 + 1, 1, none⟩ (.int .i64 fb)) = wf at *
  have d0' : wf.drew.cell? ⟨w.heap.size + 1, 0, none⟩ = some (.int .i64 m1) := d0
  have d1' : wf.drew.cell? ⟨w.heap.size + 1, 1, none⟩ = some (.int .i64 m2) := d1
  have d2' : wf.drew.cell? ⟨w.heap.size + 1, 2, none⟩ = some (.slice A2 ms.length c2) := d2
  have e0' : wf.drew.cell? ⟨w.heap.size + 1 + 1, 0, none⟩ = some (.int .i64 fa) := e0
  have e1' : wf.drew.cell? ⟨w.heap.size + 1 + 1, 1, none⟩ = some (.int .i64 fb) := e1
  generalize wf.drew = wg at *
  rw [FO.out, F.out]
  exact bodyPost_ret (v := .tuple #[.agg #[.int .i64 m1, .int .i64 m2, .slice A2 ms.length c2], .agg #[.int .i64 fa, .int .i64 fb], .bool true]) (by simp [results, Tryz.results141, go_sem, d0', d1', d2', e0', e1']) rfl ⟨_, rfl, ⟨.slice A2 ms.length c2, rfl, hj1, hj2, ow.mono (by omega)⟩, bw⟩
set_option maxHeartbeats 4000000 in
theorem implFoldAll_any (v : Value) (g : GrD) (w : World) (h : ArgG w v g) (hg : grB g = true) :
  Calls Tryz.prog 123 #[v] w fun e w' => ∃ r o, e = .returned (.tuple #[r, o]) ∧ OwG w' w.heap.size r (folA g) ∧ Below w.heap.size w w' := by
 have HG := Lib.hid h
 have HGR := Lib.hid hg
 obtain ⟨h13, h40, h120, _⟩ := grB_parts hg
 obtain ⟨s, rfl, hi1, hi2, ha⟩ := h
 obtain ⟨A, cap, rfl⟩ := ha.form
 obtain ⟨g1, N, es⟩ := g
 simp only at *
 clear ha hg
 go_enter Tryz.func123, Tryz.ntmps123
 have bx : Below w.heap.size w ((w.alloc (Obj.cells #[Value.int IntKind.i64 g1, Value.int IntKind.i64 N, .slice A es.length cap] 31)).alloc (Obj.cells #[Value.int IntKind.i64 0, Value.int IntKind.i64 0, .slice none 0 0] 31)) := (by repeat (first | exact Below.refl _ _ | (refine Below.setCell ?_ (by first | omega | (simp <;> omega)) _) | (refine bel_drewN ?_ _) | (refine Below.drew ?_) | (refine Below.alloc ?_ (by first | omega | (simp <;> omega)) _)))
 go_wp2_with fail
 obtain ⟨W, hW⟩ : ∃ W, W = ((w.alloc (Obj.cells #[Value.int IntKind.i64 g1, Value.int IntKind.i64 N, .slice A es.length cap] 31)).alloc (Obj.cells #[Value.int IntKind.i64 0, Value.int IntKind.i64 0, .slice none 0 0] 31)) := ⟨_, rfl⟩
 rw [← hW] at bx ⊢
 have hsW : W.heap.size = w.heap.size + 2 := by rw [hW]; simp
 have R0 : Hid (W.cell? ⟨w.heap.size + 1, 0, none⟩ = some (.int .i64 0)) := Lib.hid (by rw [hW]; simp [go_sem])
 have R1 : Hid (W.cell? ⟨w.heap.size + 1, 1, none⟩ = some (.int .i64 0)) := Lib.hid (by rw [hW]; simp [go_sem])
 have R2 : Hid (W.cell? ⟨w.heap.size + 1, 2, none⟩ = some (.slice none 0 0)) := Lib.hid (by rw [hW]; simp [go_sem])
 have RF : Hid (∀ j, W.frozen? ⟨w.heap.size + 1, j, none⟩ = false) := Lib.hid fun j => by rw [hW]; simp [go_sem]
 have BX := Lib.hid bx
 clear hW bx
 refine (copyGraph_any _ (g1, N, es) W (HG.out.below BX.out) (by simp only; omega)).mono ?_
 rintro e w1 ⟨r, rfl, o1, b1⟩
 have B1 := Lib.hid b1
 have hs1 := b1.size
 obtain ⟨s1, rfl, _, _, oe1⟩ := o1
 obtain ⟨A1, c1, rfl, _⟩ := oe1.form
 simp only at *
 have OE1 := Lib.hid oe1
 clear b1 oe1
 have HOU : Hid (OwFo ((w1.alloc (Obj.cells #[Value.int IntKind.i64 g1, Value.int IntKind.i64 N, .slice A1 es.length c1] 31)).alloc (.cells #[] 128)) (w1.heap.size + 1) (.slice (some ⟨w1.heap.size + 1, 0, none⟩) 0 0) []) := Lib.hid (by
  have := OwFo_lit (base := w1.heap.size + 1) (w1.alloc (Obj.cells #[Value.int IntKind.i64 g1, Value.int IntKind.i64 N, .slice A1 es.length c1] 31)) (by simp)
  simpa using this)
 have bX : Below w1.heap.size w1 ((w1.alloc (Obj.cells #[Value.int IntKind.i64 g1, Value.int IntKind.i64 N, .slice A1 es.length c1] 31)).alloc (.cells #[] 128)) := (by repeat (first | exact Below.refl _ _ | (refine Below.setCell ?_ (by first | omega | (simp <;> omega)) _) | (refine bel_drewN ?_ _) | (refine Below.drew ?_) | (refine Below.alloc ?_ (by first | omega | (simp <;> omega)) _)))
 go_wp2
 obtain ⟨W2, hW2⟩ : ∃ W, W = (w1.alloc (Obj.cells #[Value.int IntKind.i64 g1, Value.int IntKind.i64 N, .slice A1 es.length c1] 31)).alloc (.cells #[] 128) := ⟨_, rfl⟩
 rw [← hW2] at bX HOU ⊢
 have hsW2 : W2.heap.size = w1.heap.size + 2 := by rw [hW2]; simp
 have X0 : Hid (W2.cell? ⟨w1.heap.size, 0, none⟩ = some (.int .i64 g1)) := Lib.hid (by rw [hW2]; simp [go_sem])
 have X1 : Hid (W2.cell? ⟨w1.heap.size, 1, none⟩ = some (.int .i64 N)) := Lib.hid (by rw [hW2]; simp [go_sem])
 have X2 : Hid (W2.cell? ⟨w1.heap.size, 2, none⟩ = some (.slice A1 es.length c1)) := Lib.hid (by rw [hW2]; simp [go_sem])
 have XF : Hid (∀ j, W2.frozen? ⟨w1.heap.size, j, none⟩ = false) := Lib.hid fun j => by rw [hW2]; simp [go_sem]
 have BX2 := Lib.hid bX
 have OEX : Hid (OwE W2 (w.heap.size + 2) (.slice A1 es.length c1) es) := Lib.hid ((OE1.out.below bX).mono (by omega))
 have HNX : Hid (∀ b, (Value.slice A1 es.length c1).ownBlock = some b → b ≠ w1.heap.size) := Lib.hid fun b hb => by have := (OE1.out.1.lt b hb).2; omega
 clear hW2 bX OE1
 go_loopw [5] (fun out wr => ∃ (k : Nat) (gk : GrD) (A2 : Option Addr) (c2 : Nat) (lo : List FoD), k ≤ 40 ∧ (∃ Ao co, out = .slice Ao lo.length co) ∧ lo.length = k ∧ grB gk = true ∧ folA gk = folA (g1, N, es) ∧ gk.2.1 + k ≤ N ∧ wr.cell? ⟨w1.heap.size, 0, none⟩ = some (.int .i64 gk.1) ∧ wr.cell? ⟨w1.heap.size, 1, none⟩ = some (.int .i64 gk.2.1) ∧ wr.cell? ⟨w1.heap.size, 2, none⟩ = some (.slice A2 gk.2.2.length c2) ∧
   (∀ j, wr.frozen? ⟨w1.heap.size, j, none⟩ = false) ∧ OwE wr (w.heap.size + 2) (.slice A2 gk.2.2.length c2) gk.2.2 ∧ (∀ b, (Value.slice A2 gk.2.2.length c2).ownBlock = some b → b ≠ w1.heap.size) ∧ OwFo wr (w1.heap.size + 1) out lo ∧ Below w1.heap.size w1 wr ∧ w1.heap.size < wr.heap.size) (fun o _ => 40 - sLen o)
 case atStart => exact ⟨0, (g1, N, es), A1, c1, [], Nat.zero_le _, ⟨_, _, rfl⟩, rfl, HGR.out, rfl, by simp, X0.out, X1.out, X2.out, XF.out, OEX.out, HNX.out, HOU.out, BX2.out, by omega⟩
 case round =>
  obtain ⟨k, gk, A2, c2, lo, hk, ⟨Ao, co, rfl⟩, hlo, hgk, hfa, hsz, hx0, hx1, hx2, hxf, hoe, hnx, hof, hbr, hxr⟩ := hrel
  obtain ⟨k13, k40, k120, _⟩ := grB_parts hgk
  have HGK := Lib.hid hgk
  have HFA := Lib.hid hfa
  have HOE := Lib.hid hoe
  have HNX2 := Lib.hid hnx
  have HOF := Lib.hid hof
  have HBR := Lib.hid hbr
  have B4 := Lib.hid (B1.out.trans (hbr.mono hs1))
  have HAK : Hid (ArgG wr (.agg #[.int .i64 gk.1, .int .i64 gk.2.1, .slice A2 gk.2.2.length c2]) gk) := Lib.hid ⟨_, rfl, (by unfold I64; omega), (by unfold I64; omega), hoe.arg⟩
  obtain ⟨wk, rfl⟩ : ∃ wk : World, wk = wr := ⟨_, rfl⟩
  clear hgk hfa hoe hnx hof hbr
  have hk40 : k < 40 := by omega
  go_wp2_with fail
  refine (implFoldOnce_any _ gk wk HAK.out HGK.out).mono ?_
  rintro e w5 ⟨r, rfl, o5, b5⟩
  have hs5 := b5.size
  have B5 := Lib.hid (HBR.out.trans (b5.mono (by omega)))
  have z0 := (b5.cell (p := ⟨w1.heap.size, 0, none⟩) hxr).trans hx0
  have z1 := (b5.cell (p := ⟨w1.heap.size, 1, none⟩) hxr).trans hx1
  have z2 := (b5.cell (p := ⟨w1.heap.size, 2, none⟩) hxr).trans hx2
  have ZF : Hid (∀ j, w5.frozen? ⟨w1.heap.size, j, none⟩ = false) := Lib.hid fun j => (b5.frozen (p := ⟨w1.heap.size, j, none⟩) hxr).trans (hxf j)
  have HOE5 := Lib.hid (HOE.out.below b5)
  have HOF5 := Lib.hid (HOF.out.below b5)
  clear hx0 hx1 hx2 hxf b5
  rcases ef : foL gk.2.2 with _ | ⟨f, l⟩
  ·have F : Hid (firF gk = ((0, 0), false)) := Lib.hid (by unfold firF; rw [if_pos HGK.out]; simp only [ef])
   have FO : Hid (onceG gk = gk) := Lib.hid (by unfold onceG; simp only [ef])
   have FAG : Hid (folA (g1, N, es) = gk) := Lib.hid (by rw [← HFA.out]; exact folA_nil ef)
   clear ef
   rw [FO.out] at o5
   rw [F.out]
   simp only
   obtain ⟨s5, rfl, hj1, hj2, oe5⟩ := o5
   obtain ⟨A5, c5, rfl, _⟩ := oe5.form
   have bY : Below w5.heap.size w5 ((w5.alloc (Obj.cells #[Value.int IntKind.i64 gk.1, Value.int IntKind.i64 gk.2.1, .slice A5 gk.2.2.length c5] 31)).alloc (Obj.cells #[Value.int IntKind.i64 0, Value.int IntKind.i64 0] 128)) := (by repeat (first | exact Below.refl _ _ | (refine Below.setCell ?_ (by first | omega | (simp <;> omega)) _) | (refine bel_drewN ?_ _) | (refine Below.drew ?_) | (refine Below.alloc ?_ (by first | omega | (simp <;> omega)) _)))
   obtain ⟨WY, hWY⟩ : ∃ W, W = (w5.alloc (Obj.cells #[Value.int IntKind.i64 gk.1, Value.int IntKind.i64 gk.2.1, .slice A5 gk.2.2.length c5] 31)).alloc (Obj.cells #[Value.int IntKind.i64 0, Value.int IntKind.i64 0] 128) := ⟨_, rfl⟩
   rw [← hWY] at bY
   have BY := Lib.hid (B5.out.trans (bY.mono (by omega)))
   have BYW := Lib.hid (B1.out.trans (BY.out.mono hs1))
   have y0 := (bY.cell (p := ⟨w1.heap.size, 0, none⟩) (by show w1.heap.size < _; omega)).trans z0
   have y1 := (bY.cell (p := ⟨w1.heap.size, 1, none⟩) (by show w1.heap.size < _; omega)).trans z1
   have y2 := (bY.cell (p := ⟨w1.heap.size, 2, none⟩) (by show w1.heap.size < _; omega)).trans z2
   have r0 := (BYW.out.cell (p := ⟨w.heap.size + 1, 0, none⟩) (by show w.heap.size + 1 < _; omega)).trans R0.out
   have r1 := (BYW.out.cell (p := ⟨w.heap.size + 1, 1, none⟩) (by show w.heap.size + 1 < _; omega)).trans R1.out
   have r2 := (BYW.out.cell (p := ⟨w.heap.size + 1, 2, none⟩) (by show w.heap.size + 1 < _; omega)).trans R2.out
   have rf0 := (BYW.out.frozen (p := ⟨w.heap.size + 1, 0, none⟩) (by show w.heap.size + 1 < _; omega)).trans (RF.out 0)
   have rf1 := (BYW.out.frozen (p := ⟨w.heap.size + 1, 1, none⟩) (by show w.heap.size + 1 < _; omega)).trans (RF.out 1)
   have rf2 := (BYW.out.frozen (p := ⟨w.heap.size + 1, 2, none⟩) (by show w.heap.size + 1 < _; omega)).trans (RF.out 2)
   have hne1 : w.heap.size + 1 ≠ w1.heap.size := by omega
   have HBF := Lib.hid (BX.out.trans (BYW.out.mono BX.out.size))
   have OEY := Lib.hid (HOE5.out.below bY)
   rw [hWY] at y0 y1 y2 r0 r1 r2 rf0 rf1 rf2
   clear z0 z1 z2 oe5 bY
   go_wp2
   rw [← hWY] at y0 y1 y2 r0 r1 r2 rf0 rf1 rf2 ⊢
   obtain ⟨e0, e1, e2⟩ := cells3F (.int .i64 gk.1) (.int .i64 gk.2.1) (.slice A2 gk.2.2.length c2) r0 r1 r2
   have bw : Below w.heap.size w (((WY.setCell ⟨w.heap.size + 1, 0, none⟩ (.int .i64 gk.1)).setCell ⟨w.heap.size + 1, 1, none⟩ (.int .i64 gk.2.1)).setCell ⟨w.heap.size + 1, 2, none⟩ (.slice A2 gk.2.2.length c2)) := (((HBF.out.setCell (by simp <;> omega) _).setCell (by simp <;> omega) _).setCell (by simp <;> omega) _)
   have ow : OwE (((WY.setCell ⟨w.heap.size + 1, 0, none⟩ (.int .i64 gk.1)).setCell ⟨w.heap.size + 1, 1, none⟩ (.int .i64 gk.2.1)).setCell ⟨w.heap.size + 1, 2, none⟩ (.slice A2 gk.2.2.length c2)) (w.heap.size + 2) (.slice A2 gk.2.2.length c2) gk.2.2 := ((OEY.out.far (by show w.heap.size + 1 < _; omega) _).far (by show w.heap.size + 1 < _; omega) _).far (by show w.heap.size + 1 < _; omega) _
   generalize (((WY.setCell ⟨w.heap.size + 1, 0, none⟩ (.int .i64 gk.1)).setCell ⟨w.heap.size + 1, 1, none⟩ (.int .i64 gk.2.1)).setCell ⟨w.heap.size + 1, 2, none⟩ (.slice A2 gk.2.2.length c2)) = wf at *
   rw [FAG.out]
   exact bodyPost_ret (v := .tuple #[.agg #[.int .i64 gk.1, .int .i64 gk.2.1, .slice A2 gk.2.2.length c2], .slice Ao lo.length co]) (by simp [results, Tryz.results123, go_sem, e0, e1, e2]) rfl ⟨_, _, rfl, ⟨.slice A2 gk.2.2.length c2, rfl, hj1, hj2, ow.mono (by omega)⟩, bw⟩
  ·have F : Hid (firF gk = (f, true)) := Lib.hid (by unfold firF; rw [if_pos HGK.out]; simp only [ef])
   have FO : Hid (onceG gk = merG gk f) := Lib.hid (by unfold onceG; simp only [ef])
   have hfk := foL_ok HGK.out (f := f) (by rw [ef]; simp)
   have HGM := Lib.hid (grB_merG HGK.out hfk)
   have HFM := Lib.hid ((once_folA HGK.out ef).trans HFA.out)
   have hm2 : (merG gk f).2.1 = gk.2.1 - 1 := rfl
   clear ef
   rw [FO.out] at o5
   rw [F.out]
   obtain ⟨fa, fb⟩ := f
   simp only
   generalize merG gk (fa, fb) = M at *
   obtain ⟨m1, m2, ms⟩ := M
   simp only at hm2
   obtain ⟨s5, rfl, hj1, hj2, oe5⟩ := o5
   obtain ⟨A5, c5, rfl, _⟩ := oe5.form
   simp only at hj1 hj2 oe5
   have HM2 := Lib.hid hm2
   clear hm2
   have bY : Below w5.heap.size w5 ((w5.alloc (Obj.cells #[Value.int IntKind.i64 m1, Value.int IntKind.i64 m2, .slice A5 ms.length c5] 31)).alloc (Obj.cells #[Value.int IntKind.i64 fa, Value.int IntKind.i64 fb] 128)) := (by repeat (first | exact Below.refl _ _ | (refine Below.setCell ?_ (by first | omega | (simp <;> omega)) _) | (refine bel_drewN ?_ _) | (refine Below.drew ?_) | (refine Below.alloc ?_ (by first | omega | (simp <;> omega)) _)))
   obtain ⟨WY, hWY⟩ : ∃ W, W = (w5.alloc (Obj.cells #[Value.int IntKind.i64 m1, Value.int IntKind.i64 m2, .slice A5 ms.length c5] 31)).alloc (Obj.cells #[Value.int IntKind.i64 fa, Value.int IntKind.i64 fb] 128) := ⟨_, rfl⟩
   have a0 : WY.cell? ⟨w5.heap.size, 0, none⟩ = some (.int .i64 m1) := by rw [hWY]; simp [go_sem]
   have a1 : WY.cell? ⟨w5.heap.size, 1, none⟩ = some (.int .i64 m2) := by rw [hWY]; simp [go_sem]
   have a2 : WY.cell? ⟨w5.heap.size, 2, none⟩ = some (.slice A5 ms.length c5) := by rw [hWY]; simp [go_sem]
   have a3 : WY.cell? ⟨w5.heap.size + 1, 0, none⟩ = some (.int .i64 fa) := by rw [hWY]; simp [go_sem]
   have a4 : WY.cell? ⟨w5.heap.size + 1, 1, none⟩ = some (.int .i64 fb) := by rw [hWY]; simp [go_sem]
   have hsY : WY.heap.size = w5.heap.size + 2 := by rw [hWY]; simp
   rw [← hWY] at bY
   have BY := Lib.hid (B5.out.trans (bY.mono (by omega)))
   have y0 := (bY.cell (p := ⟨w1.heap.size, 0, none⟩) (by show w1.heap.size < _; omega)).trans z0
   have y1 := (bY.cell (p := ⟨w1.heap.size, 1, none⟩) (by show w1.heap.size < _; omega)).trans z1
   have y2 := (bY.cell (p := ⟨w1.heap.size, 2, none⟩) (by show w1.heap.size < _; omega)).trans z2
   have YF : Hid (∀ j, WY.frozen? ⟨w1.heap.size, j, none⟩ = false) := Lib.hid fun j => (bY.frozen (p := ⟨w1.heap.size, j, none⟩) (by show w1.heap.size < _; omega)).trans (ZF.out j)
   have yf0 := YF.out 0
   have yf1 := YF.out 1
   have yf2 := YF.out 2
   have OEM := Lib.hid (oe5.below bY)
   have OFY := Lib.hid (HOF5.out.below bY)
   obtain ⟨e0, e1, e2⟩ := cells3F (.int .i64 m1) (.int .i64 m2) (.slice A5 ms.length c5) y0 y1 y2
   have e3 := setc_other (b' := w1.heap.size) (o' := 2) (u := .slice A5 ms.length c5) (show w5.heap.size + 1 ≠ w1.heap.size by omega) (setc_other (b' := w1.heap.size) (o' := 1) (u := .int .i64 m2) (show w5.heap.size + 1 ≠ w1.heap.size by omega) (setc_other (b' := w1.heap.size) (o' := 0) (u := .int .i64 m1) (show w5.heap.size + 1 ≠ w1.heap.size by omega) a3))
   have e4 := setc_other (b' := w1.heap.size) (o' := 2) (u := .slice A5 ms.length c5) (show w5.heap.size + 1 ≠ w1.heap.size by omega) (setc_other (b' := w1.heap.size) (o' := 1) (u := .int .i64 m2) (show w5.heap.size + 1 ≠ w1.heap.size by omega) (setc_other (b' := w1.heap.size) (o' := 0) (u := .int .i64 m1) (show w5.heap.size + 1 ≠ w1.heap.size by omega) a4))
   have BS : Hid (Below w1.heap.size w1 (((WY.setCell ⟨w1.heap.size, 0, none⟩ (.int .i64 m1)).setCell ⟨w1.heap.size, 1, none⟩ (.int .i64 m2)).setCell ⟨w1.heap.size, 2, none⟩ (.slice A5 ms.length c5))) := Lib.hid (((BY.out.setCell (Nat.le_refl _) _).setCell (Nat.le_refl _) _).setCell (Nat.le_refl _) _)
   have OES : Hid (OwE (((WY.setCell ⟨w1.heap.size, 0, none⟩ (.int .i64 m1)).setCell ⟨w1.heap.size, 1, none⟩ (.int .i64 m2)).setCell ⟨w1.heap.size, 2, none⟩ (.slice A5 ms.length c5)) wk.heap.size (.slice A5 ms.length c5) ms) := Lib.hid (((OEM.out.far (by show w1.heap.size < _; omega) _).far (by show w1.heap.size < _; omega) _).far (by show w1.heap.size < _; omega) _)
   have OFS : Hid (OwFo (((WY.setCell ⟨w1.heap.size, 0, none⟩ (.int .i64 m1)).setCell ⟨w1.heap.size, 1, none⟩ (.int .i64 m2)).setCell ⟨w1.heap.size, 2, none⟩ (.slice A5 ms.length c5)) (w1.heap.size + 1) (.slice Ao lo.length co) lo) := Lib.hid (ownsRow_setCell_below (ownsRow_setCell_below (ownsRow_setCell_below OFY.out (by show w1.heap.size < _; omega) _) (by show w1.heap.size < _; omega) _) (by show w1.heap.size < _; omega) _)
   have ESF : Hid (∀ j, ((((WY.setCell ⟨w1.heap.size, 0, none⟩ (.int .i64 m1)).setCell ⟨w1.heap.size, 1, none⟩ (.int .i64 m2)).setCell ⟨w1.heap.size, 2, none⟩ (.slice A5 ms.length c5))).frozen? ⟨w1.heap.size, j, none⟩ = false) := Lib.hid fun j => by rw [World.frozen?_setCell, World.frozen?_setCell, World.frozen?_setCell]; exact YF.out j
   have hsS : ((((WY.setCell ⟨w1.heap.size, 0, none⟩ (.int .i64 m1)).setCell ⟨w1.heap.size, 1, none⟩ (.int .i64 m2)).setCell ⟨w1.heap.size, 2, none⟩ (.slice A5 ms.length c5))).heap.size = WY.heap.size := by simp
   clear z0 z1 z2 oe5 bY
   have E0 := Lib.hid e0
   have E1 := Lib.hid e1
   have E2 := Lib.hid e2
   have E3 := Lib.hid e3
   have E4 := Lib.hid e4
   have HSS := Lib.hid hsS
   clear e0 e1 e2 a3 a4 hsS
   rw [hWY] at y0 y1 y2 yf0 yf1 yf2 a0 a1 a2 e3 e4
   have HWY := Lib.hid hWY
   clear hWY
   have hw5x : w1.heap.size ≠ w5.heap.size := by omega
   have hw5y : w1.heap.size ≠ w5.heap.size + 1 := by omega
   go_wp2_with (at_builtin; rw [← HWY.out]; refine push_fold rfl (.tmp 23) (.tmp 25) rfl (w1.heap.size + 1) _ lo (OFS.out.alloc _) rfl _ (fa, fb) rfl (fo_litN _ _ (by simp <;> omega) _ _ _) (by omega) (by simp <;> omega) ?_; intro v6 w6 o6 g6 p6; have O6 := Lib.hid o6; have G6 := Lib.hid g6; clear o6 g6 p6)
   have e0 := E0.out
   have e1 := E1.out
   have e2 := E2.out
   have bL : Below ((((WY.setCell ⟨w1.heap.size, 0, none⟩ (.int .i64 m1)).setCell ⟨w1.heap.size, 1, none⟩ (.int .i64 m2)).setCell ⟨w1.heap.size, 2, none⟩ (.slice A5 ms.length c5))).heap.size (((WY.setCell ⟨w1.heap.size, 0, none⟩ (.int .i64 m1)).setCell ⟨w1.heap.size, 1, none⟩ (.int .i64 m2)).setCell ⟨w1.heap.size, 2, none⟩ (.slice A5 ms.length c5)) ((((WY.setCell ⟨w1.heap.size, 0, none⟩ (.int .i64 m1)).setCell ⟨w1.heap.size, 1, none⟩ (.int .i64 m2)).setCell ⟨w1.heap.size, 2, none⟩ (.slice A5 ms.length c5)).alloc (Obj.cells #[Value.int IntKind.i64 fa, Value.int IntKind.i64 fb] 128)) := (Below.refl _ _).alloc (Nat.le_refl _) _
   have hxL : w1.heap.size < ((((WY.setCell ⟨w1.heap.size, 0, none⟩ (.int .i64 m1)).setCell ⟨w1.heap.size, 1, none⟩ (.int .i64 m2)).setCell ⟨w1.heap.size, 2, none⟩ (.slice A5 ms.length c5))).heap.size := by simp <;> omega
   have hxG : w1.heap.size < ((((WY.setCell ⟨w1.heap.size, 0, none⟩ (.int .i64 m1)).setCell ⟨w1.heap.size, 1, none⟩ (.int .i64 m2)).setCell ⟨w1.heap.size, 2, none⟩ (.slice A5 ms.length c5)).alloc (Obj.cells #[Value.int IntKind.i64 fa, Value.int IntKind.i64 fb] 128)).heap.size := by simp <;> omega
   have hGO : ∀ c, (Value.slice Ao lo.length co).ownBlock = some c → w1.heap.size + 1 ≤ c ∧ c < wk.heap.size := fun c hc => HOF.out.lt c hc
   have n0 := (grown_cellF (o := 0) G6.out hxG (fun c hc => by have := (hGO c hc).1; omega)).trans ((bL.cell (p := ⟨w1.heap.size, 0, none⟩) hxL).trans e0)
   have n1 := (grown_cellF (o := 1) G6.out hxG (fun c hc => by have := (hGO c hc).1; omega)).trans ((bL.cell (p := ⟨w1.heap.size, 1, none⟩) hxL).trans e1)
   have n2 := (grown_cellF (o := 2) G6.out hxG (fun c hc => by have := (hGO c hc).1; omega)).trans ((bL.cell (p := ⟨w1.heap.size, 2, none⟩) hxL).trans e2)
   have nf : ∀ j, w6.frozen? ⟨w1.heap.size, j, none⟩ = false := fun j => (World.frozen?_of_block (G6.out.block w1.heap.size hxG fun e => by have := (hGO w1.heap.size e.symm).1; omega)).trans ((bL.frozen (p := ⟨w1.heap.size, j, none⟩) hxL).trans (ESF.out j))
   have NE : Hid (OwE w6 (w.heap.size + 2) (.slice A5 ms.length c5) ms) := Lib.hid (OwE.mono (OwE.keep OES.out fun b hb => by
    have hb2 := OES.out.1.lt b hb
    exact (G6.out.block b (by have := bL.size; omega) fun e => by have := (hGO b e.symm).2; omega).trans (bL.block b hb2.2)) (by omega))
   have NX : Hid (∀ b, (Value.slice A5 ms.length c5).ownBlock = some b → b ≠ w1.heap.size) := Lib.hid fun b hb => by have := (OES.out.1.lt b hb).1; omega
   have NB : Hid (Below w1.heap.size w1 w6) := Lib.hid ((BS.out.trans (bL.mono (by omega))).grown G6.out (by omega) (fun c hc => by have := (hGO c hc).1; omega))
   have hs6 := G6.out.size
   have O6F : Hid (∃ Ao co, v6 = .slice Ao (lo ++ [(fa, fb)]).length co) := Lib.hid (by obtain ⟨Ao', co', h, _⟩ := O6.out.form; exact ⟨Ao', co', h⟩)
   go_roundw
   case rel => exact ⟨k + 1, (m1, m2, ms), A5, c5, lo ++ [(fa, fb)], by omega, O6F.out, by rw [List.length_append]; simp only [List.length_singleton]; omega, HGM.out, HFM.out, by have := HM2.out; simp only; omega, n0, n1, n2, nf, NE.out, NX.out, O6.out, NB.out, by omega⟩
   case measure =>
    obtain ⟨Ao', co', h⟩ := O6F.out
    rw [h]
    show 40 - (lo ++ [(fa, fb)]).length < 40 - lo.length
    rw [List.length_append]
    simp only [List.length_singleton]
    omega
set_option maxHeartbeats 1000000 in
theorem implCoreGraph_any (v : Value) (g : GrD) (w : World) (h : ArgG w v g) (hg : grB g = true) :
  Calls Tryz.prog 85 #[v] w fun e w' => ∃ r, e = .returned r ∧ OwG w' w.heap.size r (coreG g) ∧ Below w.heap.size w w' := by
 have HG := Lib.hid h
 have HFA := Lib.hid (folA_ok hg)
 have HFB := Lib.hid (foldB_parts HFA.out).1
 have HTB := Lib.hid (trimG_fold HFA.out)
 have HCG : Hid (coreG g = canG (trimG (folA g)).1) := Lib.hid rfl
 have HFO := Lib.hid (fun W h => implFoldAll_any v g W h hg)
 have HTR := Lib.hid (fun u W h => (trimGraph_any u (folA g) W h HFB.out).mono (R' := fun e w' => ∃ r o, e = .returned (.tuple #[r, o]) ∧ OwG w' W.heap.size r (trimG (folA g)).1 ∧ Below W.heap.size W w') fun e w' ⟨r, l, h1, h2, _, h4⟩ => ⟨r, l, h1, h2, h4⟩)
 have HCA := Lib.hid (fun u W h => canonicalGraph_any u (trimG (folA g)).1 W h HTB.out)
 generalize canG (trimG (folA g)).1 = CG at *
 generalize (trimG (folA g)).1 = TG at *
 generalize folA g = FG at *
 obtain ⟨s, rfl, hi1, hi2, ha⟩ := h
 obtain ⟨A, cap, rfl⟩ := ha.form
 obtain ⟨g1, N, es⟩ := g
 simp only at *
 clear ha hg
 go_enter Tryz.func85, Tryz.ntmps85
 have bx : Below w.heap.size w ((w.alloc (Obj.cells #[Value.int IntKind.i64 g1, Value.int IntKind.i64 N, .slice A es.length cap] 31)).alloc (Obj.cells #[Value.int IntKind.i64 0, Value.int IntKind.i64 0, .slice none 0 0] 31)) := (by repeat (first | exact Below.refl _ _ | (refine Below.setCell ?_ (by first | omega | (simp <;> omega)) _) | (refine bel_drewN ?_ _) | (refine Below.drew ?_) | (refine Below.alloc ?_ (by first | omega | (simp <;> omega)) _)))
 go_wp2_with fail
 obtain ⟨W, hW⟩ : ∃ W, W = ((w.alloc (Obj.cells #[Value.int IntKind.i64 g1, Value.int IntKind.i64 N, .slice A es.length cap] 31)).alloc (Obj.cells #[Value.int IntKind.i64 0, Value.int IntKind.i64 0, .slice none 0 0] 31)) := ⟨_, rfl⟩
 rw [← hW] at bx ⊢
 have hsW : W.heap.size = w.heap.size + 2 := by rw [hW]; simp
 have R0 : Hid (W.cell? ⟨w.heap.size + 1, 0, none⟩ = some (.int .i64 0)) := Lib.hid (by rw [hW]; simp [go_sem])
 have R1 : Hid (W.cell? ⟨w.heap.size + 1, 1, none⟩ = some (.int .i64 0)) := Lib.hid (by rw [hW]; simp [go_sem])
 have R2 : Hid (W.cell? ⟨w.heap.size + 1, 2, none⟩ = some (.slice none 0 0)) := Lib.hid (by rw [hW]; simp [go_sem])
 have RF : Hid (∀ j, W.frozen? ⟨w.heap.size + 1, j, none⟩ = false) := Lib.hid fun j => by rw [hW]; simp [go_sem]
 have BX := Lib.hid bx
 clear hW bx
 refine (HFO.out W (HG.out.below BX.out)).mono ?_
 rintro e w1 ⟨r, o, rfl, o1, b1⟩
 have B1 := Lib.hid b1
 have hs1 := b1.size
 have O1 := Lib.hid o1
 obtain ⟨f1, f2, fs⟩ := FG
 obtain ⟨s1, rfl, _, _, oe1⟩ := o1
 obtain ⟨A1, c1, rfl, _⟩ := oe1.form
 simp only at *
 clear b1 oe1
 have bf : Below w1.heap.size w1 (w1.alloc (Obj.cells #[Value.int IntKind.i64 f1, Value.int IntKind.i64 f2, .slice A1 fs.length c1] 31)) := (Below.refl _ _).alloc (Nat.le_refl _) _
 go_wp2_with fail
 refine (HTR.out _ _ (O1.out.arg.below bf)).mono ?_
 rintro e w3 ⟨r3, o3, rfl, o3', b3⟩
 have hsf := bf.size
 have B3 := Lib.hid (B1.out.trans ((bf.trans (b3.mono hsf)).mono hs1))
 have hs3 := b3.size
 have O3 := Lib.hid o3'
 obtain ⟨t1, t2, ts⟩ := TG
 obtain ⟨s3, rfl, _, _, oe3⟩ := o3'
 obtain ⟨A3, c3, rfl, _⟩ := oe3.form
 simp only at *
 clear b3 oe3 bf
 have bt : Below w3.heap.size w3 (w3.alloc (Obj.cells #[Value.int IntKind.i64 t1, Value.int IntKind.i64 t2, .slice A3 ts.length c3] 31)) := (Below.refl _ _).alloc (Nat.le_refl _) _
 go_wp2_with fail
 refine (HCA.out _ _ (O3.out.arg.below bt)).mono ?_
 rintro e w5 ⟨r5, rfl, o5, b5⟩
 have hst := bt.size
 have hs33 := B3.out.size
 have B5 := Lib.hid (B3.out.trans ((bt.trans (b5.mono hst)).mono hs33))
 have hs5 := B5.out.size
 have hb5 := b5.size
 obtain ⟨c1', c2', cs⟩ := CG
 obtain ⟨s5, rfl, hj1, hj2, oe5⟩ := o5
 obtain ⟨A5, k5, rfl, _⟩ := oe5.form
 simp only at *
 have OE5 := Lib.hid oe5
 have r0 := (B5.out.cell (p := ⟨w.heap.size + 1, 0, none⟩) (by show w.heap.size + 1 < _; omega)).trans R0.out
 have r1 := (B5.out.cell (p := ⟨w.heap.size + 1, 1, none⟩) (by show w.heap.size + 1 < _; omega)).trans R1.out
 have r2 := (B5.out.cell (p := ⟨w.heap.size + 1, 2, none⟩) (by show w.heap.size + 1 < _; omega)).trans R2.out
 have rf0 := (B5.out.frozen (p := ⟨w.heap.size + 1, 0, none⟩) (by show w.heap.size + 1 < _; omega)).trans (RF.out 0)
 have rf1 := (B5.out.frozen (p := ⟨w.heap.size + 1, 1, none⟩) (by show w.heap.size + 1 < _; omega)).trans (RF.out 1)
 have rf2 := (B5.out.frozen (p := ⟨w.heap.size + 1, 2, none⟩) (by show w.heap.size + 1 < _; omega)).trans (RF.out 2)
 have HBF := Lib.hid (BX.out.trans (B5.out.mono BX.out.size))
 clear b5 oe5 bt
 go_wp2
 obtain ⟨e0, e1, e2⟩ := cells3F (.int .i64 c1') (.int .i64 c2') (.slice A5 cs.length k5) r0 r1 r2
 have bw : Below w.heap.size w (((w5.setCell ⟨w.heap.size + 1, 0, none⟩ (.int .i64 c1')).setCell ⟨w.heap.size + 1, 1, none⟩ (.int .i64 c2')).setCell ⟨w.heap.size + 1, 2, none⟩ (.slice A5 cs.length k5)) := (((HBF.out.setCell (by simp <;> omega) _).setCell (by simp <;> omega) _).setCell (by simp <;> omega) _)
 have ow : OwE (((w5.setCell ⟨w.heap.size + 1, 0, none⟩ (.int .i64 c1')).setCell ⟨w.heap.size + 1, 1, none⟩ (.int .i64 c2')).setCell ⟨w.heap.size + 1, 2, none⟩ (.slice A5 cs.length k5)) w.heap.size (.slice A5 cs.length k5) cs := OwE.mono (((OE5.out.far (by show w.heap.size + 1 < _; omega) _).far (by show w.heap.size + 1 < _; omega) _).far (by show w.heap.size + 1 < _; omega) _) (by omega)
 generalize (((w5.setCell ⟨w.heap.size + 1, 0, none⟩ (.int .i64 c1')).setCell ⟨w.heap.size + 1, 1, none⟩ (.int .i64 c2')).setCell ⟨w.heap.size + 1, 2, none⟩ (.slice A5 cs.length k5)) = wf at *
 rw [HCG.out]
 exact bodyPost_ret (v := .agg #[.int .i64 c1', .int .i64 c2', .slice A5 cs.length k5]) (by simp [results, Tryz.results85, go_sem, e0, e1, e2]) rfl ⟨_, rfl, ⟨.slice A5 cs.length k5, rfl, hj1, hj2, ow⟩, bw⟩
end Go.Proofs.YtfadnkjlilhneaaGreat
