/- The reference's CanonicalGraph. -/
import Derived.Test.YtfadnkjlilhneaaGreatRen
import Derived.Test.YtfadnkjlilhneaaGreatCanS
namespace Go.Proofs.YtfadnkjlilhneaaGreat
set_option maxRecDepth 20000
set_option linter.unusedVariables false
set_option linter.unusedSimpArgs false
open Go.RowKit

theorem set3_cells (w : World) (b : Nat) {x0 x1 x2 : Value} (v0 v1 v2 : Value) (h0 : w.cell? ⟨b, 0, none⟩ = some x0) (h1 : w.cell? ⟨b, 1, none⟩ = some x1) (h2 : w.cell? ⟨b, 2, none⟩ = some x2) :
  (((w.setCell ⟨b, 0, none⟩ v0).setCell ⟨b, 1, none⟩ v1).setCell ⟨b, 2, none⟩ v2).cell? ⟨b, 0, none⟩ = some v0 ∧ (((w.setCell ⟨b, 0, none⟩ v0).setCell ⟨b, 1, none⟩ v1).setCell ⟨b, 2, none⟩ v2).cell? ⟨b, 1, none⟩ = some v1 ∧ (((w.setCell ⟨b, 0, none⟩ v0).setCell ⟨b, 1, none⟩ v1).setCell ⟨b, 2, none⟩ v2).cell? ⟨b, 2, none⟩ = some v2 := by
 refine ⟨?_, ?_, ?_⟩
 ·rw [World.cell?_setCell_other _ _ _ _ (by simp), World.cell?_setCell_other _ _ _ _ (by simp), World.cell?_setCell_same _ _ _ h0]
 ·rw [World.cell?_setCell_other _ _ _ _ (by simp)]
  exact World.cell?_setCell_same _ _ _ ((World.cell?_setCell_other _ _ _ _ (by simp)).trans h1)
 ·exact World.cell?_setCell_same _ _ _ ((World.cell?_setCell_other _ _ _ _ (by simp)).trans ((World.cell?_setCell_other _ _ _ _ (by simp)).trans h2))

def canG (g : GrD) : GrD := rnG g (canO g)
set_option maxHeartbeats 1000000 in
theorem specCanonicalGraph_any (v : Value) (g : GrD) (w : World) (h : ArgG w v g) (hf : foldB g = true) :
  Calls Tryz.prog 93 #[v] w fun e w' => ∃ r, e = .returned r ∧ OwG w' w.heap.size r (canG g) ∧ Below w.heap.size w w' := by
 have HG := Lib.hid h
 have HF := Lib.hid hf
 obtain ⟨hg, _⟩ := foldB_parts hf
 have HGR := Lib.hid hg
 have hok := canO_ok hg
 obtain ⟨hr13, hsz40, hl120, _⟩ := grB_parts hg
 have hol1 : 1 ≤ (canO g).length := by
  have := hok.2.2
  cases hc : canO g with
  | nil => rw [hc] at this; cases this
  | cons _ _ => simp
 have hol : (canO g).length ≤ g.2.1.toNat := nodup_len g.2.1.toNat _ hok.1 fun y hy => by have := hok.2.1 y hy; omega
 have HOK := Lib.hid hok
 have HCG : Hid (canG g = rnG g (canO g)) := Lib.hid rfl
 obtain ⟨s, rfl, hi1, hi2, ha⟩ := h
 clear hf hg hok
 generalize hO : canO g = o at *
 have HOE := Lib.hid hO
 clear hO
 obtain ⟨r, n, es⟩ := g
 simp only at hr13 hsz40 hl120 hol hi1 hi2 ha HG ⊢
 obtain ⟨A, cap, rfl, hcap, hm, _⟩ := ha
 unfold maxLen at hm
 have bx : Below w.heap.size w ((w.alloc (Obj.cells #[Value.int IntKind.i64 r, Value.int IntKind.i64 n, .slice A es.length cap] 31)).alloc (Obj.cells #[Value.int IntKind.i64 0, Value.int IntKind.i64 0, .slice none 0 0] 31)) := (by repeat (first | exact Below.refl _ _ | (refine Below.setCell ?_ (by first | omega | (simp <;> omega)) _) | (refine bel_drewN ?_ _) | (refine Below.drew ?_) | (refine Below.alloc ?_ (by first | omega | (simp <;> omega)) _)))
 go_enter Tryz.func93, Tryz.ntmps93
 go_wp2_with fail
 obtain ⟨W0, hW0⟩ : ∃ W, W = (w.alloc (Obj.cells #[Value.int IntKind.i64 r, Value.int IntKind.i64 n, .slice A es.length cap] 31)).alloc (Obj.cells #[Value.int IntKind.i64 0, Value.int IntKind.i64 0, .slice none 0 0] 31) := ⟨_, rfl⟩
 rw [← hW0] at bx ⊢
 have hsW : W0.heap.size = w.heap.size + 2 := by rw [hW0]; simp
 have B0 : Hid (W0.cell? ⟨w.heap.size, 0, none⟩ = some (.int .i64 r)) := Lib.hid (by rw [hW0]; simp [go_sem])
 have B1 : Hid (W0.cell? ⟨w.heap.size, 1, none⟩ = some (.int .i64 n)) := Lib.hid (by rw [hW0]; simp [go_sem])
 have B2 : Hid (W0.cell? ⟨w.heap.size, 2, none⟩ = some (.slice A es.length cap)) := Lib.hid (by rw [hW0]; simp [go_sem])
 have R0 : Hid (W0.cell? ⟨w.heap.size + 1, 0, none⟩ = some (.int .i64 0)) := Lib.hid (by rw [hW0]; simp [go_sem])
 have R1 : Hid (W0.cell? ⟨w.heap.size + 1, 1, none⟩ = some (.int .i64 0)) := Lib.hid (by rw [hW0]; simp [go_sem])
 have R2 : Hid (W0.cell? ⟨w.heap.size + 1, 2, none⟩ = some (.slice none 0 0)) := Lib.hid (by rw [hW0]; simp [go_sem])
 have RF : Hid (∀ j, W0.frozen? ⟨w.heap.size + 1, j, none⟩ = false) := Lib.hid fun j => by rw [hW0]; simp [go_sem]
 clear hW0
 have BX := Lib.hid bx
 refine (specCanonicalOrder_any _ (r, n, es) W0 (HG.out.below bx) HF.out).mono ?_
 rintro e w1 ⟨r1, rfl, o1, b1⟩
 rw [HOE.out] at o1
 have O1 := Lib.hid o1
 have BW1 := Lib.hid b1
 have s1 := b1.size
 obtain ⟨A1, cap1, rfl, hcp1, hmx1, _⟩ := OwI.form o1
 unfold maxLen at hmx1
 have q0 := (b1.cell (p := ⟨w.heap.size, 0, none⟩) (show w.heap.size < W0.heap.size by omega)).trans B0.out
 have q1 := (b1.cell (p := ⟨w.heap.size, 1, none⟩) (show w.heap.size < W0.heap.size by omega)).trans B1.out
 have q2 := (b1.cell (p := ⟨w.heap.size, 2, none⟩) (show w.heap.size < W0.heap.size by omega)).trans B2.out
 have g0 : ((o.length : Int) == 0) = false := by rw [beq_eq_false_iff_ne]; omega
 clear o1 b1 bx
 go_wp2_with fail
 refine (specRenumber_any _ _ (r, n, es) o w1 (HG.out.below (BX.out.trans (BW1.out.mono (by omega)))) O1.out.rd HGR.out HOK.out).mono ?_
 rintro e w2 ⟨r2, rfl, o2, b2⟩
 have BW2 := Lib.hid b2
 have s2 := b2.size
 have O2 := Lib.hid o2
 obtain ⟨sv, rfl, hz1, hz2, hz3⟩ := o2
 obtain ⟨A2, cap2, rfl, hcp2, hmx2, _⟩ := hz3.form
 have rf0 := ((b2.frozen (p := ⟨w.heap.size + 1, 0, none⟩) (show w.heap.size + 1 < w1.heap.size by omega)).trans (BW1.out.frozen (p := ⟨w.heap.size + 1, 0, none⟩) (show w.heap.size + 1 < W0.heap.size by omega))).trans (RF.out 0)
 have rf1 := ((b2.frozen (p := ⟨w.heap.size + 1, 1, none⟩) (show w.heap.size + 1 < w1.heap.size by omega)).trans (BW1.out.frozen (p := ⟨w.heap.size + 1, 1, none⟩) (show w.heap.size + 1 < W0.heap.size by omega))).trans (RF.out 1)
 have rf2 := ((b2.frozen (p := ⟨w.heap.size + 1, 2, none⟩) (show w.heap.size + 1 < w1.heap.size by omega)).trans (BW1.out.frozen (p := ⟨w.heap.size + 1, 2, none⟩) (show w.heap.size + 1 < W0.heap.size by omega))).trans (RF.out 2)
 have rr0 := ((b2.cell (p := ⟨w.heap.size + 1, 0, none⟩) (show w.heap.size + 1 < w1.heap.size by omega)).trans (BW1.out.cell (p := ⟨w.heap.size + 1, 0, none⟩) (show w.heap.size + 1 < W0.heap.size by omega))).trans R0.out
 have rr1 := ((b2.cell (p := ⟨w.heap.size + 1, 1, none⟩) (show w.heap.size + 1 < w1.heap.size by omega)).trans (BW1.out.cell (p := ⟨w.heap.size + 1, 1, none⟩) (show w.heap.size + 1 < W0.heap.size by omega))).trans R1.out
 have rr2 := ((b2.cell (p := ⟨w.heap.size + 1, 2, none⟩) (show w.heap.size + 1 < w1.heap.size by omega)).trans (BW1.out.cell (p := ⟨w.heap.size + 1, 2, none⟩) (show w.heap.size + 1 < W0.heap.size by omega))).trans R2.out
 clear b2 q0 q1 q2 hz3
 generalize rnG (r, n, es) o = D at *
 obtain ⟨dr, dn, de⟩ := D
 simp only at O2 hz1 hz2 hcp2 ⊢
 have hlt : w.heap.size + 1 < w2.heap.size := by omega
 have hA : ∀ ob o', (w2.alloc ob).cell? ⟨w.heap.size + 1, o', none⟩ = w2.cell? ⟨w.heap.size + 1, o', none⟩ := fun ob o' => World.cell?_of_block (Below.heap_alloc w2 ob _ hlt)
 have hAf : ∀ ob o', (w2.alloc ob).frozen? ⟨w.heap.size + 1, o', none⟩ = w2.frozen? ⟨w.heap.size + 1, o', none⟩ := fun ob o' => World.frozen?_of_block (Below.heap_alloc w2 ob _ hlt)
 go_wp2
 obtain ⟨c0, c1, c2⟩ := set3_cells w2 (w.heap.size + 1) (.int .i64 dr) (.int .i64 dn) (.slice A2 de.length cap2) rr0 rr1 rr2
 have BB : Hid (Below w.heap.size w w2) := Lib.hid (BX.out.trans ((BW1.out.mono (by omega)).trans (BW2.out.mono (by omega))))
 have bw : Below w.heap.size w (((w2.setCell ⟨w.heap.size + 1, 0, none⟩ (.int .i64 dr)).setCell ⟨w.heap.size + 1, 1, none⟩ (.int .i64 dn)).setCell ⟨w.heap.size + 1, 2, none⟩ (.slice A2 de.length cap2)) := (by repeat (first | exact Below.refl _ _ | (refine Below.setCell ?_ (by first | omega | (simp <;> omega)) _) | (refine bel_drewN ?_ _) | (refine Below.drew ?_) | (refine Below.alloc ?_ (by first | omega | (simp <;> omega)) _) | (refine Below.trans ?_ (Below.mono (Hid.out BB) (by first | omega | (simp <;> omega))))))
 have ow : OwE (((w2.setCell ⟨w.heap.size + 1, 0, none⟩ (.int .i64 dr)).setCell ⟨w.heap.size + 1, 1, none⟩ (.int .i64 dn)).setCell ⟨w.heap.size + 1, 2, none⟩ (.slice A2 de.length cap2)) w1.heap.size (.slice A2 de.length cap2) de := by
  obtain ⟨sv, e, _, _, ha⟩ := O2.out
  injection e with e
  have e3 : sv = .slice A2 de.length cap2 := by injection e with e; injection e with _ e; injection e with _ e; injection e with e _; exact e.symm
  subst e3
  exact ((ha.far (by show w.heap.size + 1 < _; omega) _).far (by show w.heap.size + 1 < _; omega) _).far (by show w.heap.size + 1 < _; omega) _
 have hsz3 : (((w2.setCell ⟨w.heap.size + 1, 0, none⟩ (.int .i64 dr)).setCell ⟨w.heap.size + 1, 1, none⟩ (.int .i64 dn)).setCell ⟨w.heap.size + 1, 2, none⟩ (.slice A2 de.length cap2)).heap.size = w2.heap.size := by simp
 generalize ((w2.setCell ⟨w.heap.size + 1, 0, none⟩ (.int .i64 dr)).setCell ⟨w.heap.size + 1, 1, none⟩ (.int .i64 dn)).setCell ⟨w.heap.size + 1, 2, none⟩ (.slice A2 de.length cap2) = wf at *
 have ba : ∀ ob, Below wf.heap.size wf (wf.alloc ob) := fun ob => (Below.refl _ _).alloc (Nat.le_refl _) _
 have hA2 : ∀ ob o', (wf.alloc ob).cell? ⟨w.heap.size + 1, o', none⟩ = wf.cell? ⟨w.heap.size + 1, o', none⟩ := fun ob o' => World.cell?_of_block (Below.heap_alloc wf ob (w.heap.size + 1) (show w.heap.size + 1 < wf.heap.size by omega))
 refine bodyPost_ret (v := .agg #[.int .i64 dr, .int .i64 dn, .slice A2 de.length cap2]) (by simp [results, Tryz.results93, go_sem, hA2, c0, c1, c2]) rfl ⟨_, rfl, ?_, bw.trans ((ba _).mono bw.size)⟩
 rw [HCG.out]
 exact ⟨_, rfl, hz1, hz2, (ow.below (ba _)).mono (by omega)⟩
end Go.Proofs.YtfadnkjlilhneaaGreat
