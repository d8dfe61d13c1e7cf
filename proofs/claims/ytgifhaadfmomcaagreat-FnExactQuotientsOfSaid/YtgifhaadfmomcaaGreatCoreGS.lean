/- The reference's CoreGraph. -/
import Derived.Test.YtgifhaadfmomcaaGreatTrimS
import Derived.Test.YtgifhaadfmomcaaGreatCanG
namespace Go.Proofs.YtgifhaadfmomcaaGreat
set_option maxRecDepth 20000
set_option linter.unusedVariables false
set_option linter.unusedSimpArgs false
open Go.RowKit

set_option maxHeartbeats 1000000 in
theorem specCoreGraph_any (v : Value) (g : GrD) (w : World) (h : ArgG w v g) (hg : grB g = true) :
    Calls Tryz.prog 22 #[v] w fun e w' => ∃ r, e = .returned r ∧ OwG w' w.heap.size r (coreG g) ∧ Below w.heap.size w w' := by
  have HG := Lib.hid h
  have HFA := Lib.hid (folA_ok hg)
  have HFB := Lib.hid (foldB_parts HFA.out).1
  have HTB := Lib.hid (trimG_fold HFA.out)
  have HCG : Hid (coreG g = canG (trimG (folA g)).1) := Lib.hid rfl
  have HFO := Lib.hid (fun W h => specFoldAll_any v g W h hg)
  have HTR := Lib.hid (fun u W h => specTrimGraph_any u (folA g) W h HFB.out)
  have HCA := Lib.hid (fun u W h => specCanonicalGraph_any u (trimG (folA g)).1 W h HTB.out)
  generalize canG (trimG (folA g)).1 = CG at *
  generalize (trimG (folA g)).1 = TG at *
  generalize folA g = FG at *
  obtain ⟨s, rfl, hi1, hi2, ha⟩ := h
  obtain ⟨A, cap, rfl⟩ := ha.form
  obtain ⟨g1, N, es⟩ := g
  simp only at *
  clear ha hg
  go_enter Tryz.func22, Tryz.ntmps22
  have bx : Below w.heap.size w ((w.alloc (Obj.cells #[Value.int IntKind.i64 g1, Value.int IntKind.i64 N, .slice A es.length cap] 30)).alloc (Obj.cells #[Value.int IntKind.i64 0, Value.int IntKind.i64 0, .slice none 0 0] 30)) := (by repeat (first | exact Below.refl _ _ | (refine Below.setCell ?_ (by first | omega | (simp <;> omega)) _) | (refine bel_drewN ?_ _) | (refine Below.drew ?_) | (refine Below.alloc ?_ (by first | omega | (simp <;> omega)) _)))
  go_wp2_with fail
  obtain ⟨W, hW⟩ : ∃ W, W = ((w.alloc (Obj.cells #[Value.int IntKind.i64 g1, Value.int IntKind.i64 N, .slice A es.length cap] 30)).alloc (Obj.cells #[Value.int IntKind.i64 0, Value.int IntKind.i64 0, .slice none 0 0] 30)) := ⟨_, rfl⟩
  rw [← hW] at bx ⊢
  have hsW : W.heap.size = w.heap.size + 2 := by rw [hW]; simp
  have R0 : Hid (W.cell? ⟨w.heap.size + 1, 0, none⟩ = some (.int .i64 0)) := Lib.hid (by rw [hW]; simp [go_sem])
  have R1 : Hid (W.cell? ⟨w.heap.size + 1, 1, none⟩ = some (.int .i64 0)) := Lib.hid (by rw [hW]; simp [go_sem])
  have R2 : Hid (W.cell? ⟨w.heap.size + 1, 2, none⟩ = some (.slice none 0 0)) := Lib.hid (by rw [hW]; simp [go_sem])
  have RF : Hid (∀ j, W.frozen? ⟨w.heap.size + 1, j, none⟩ = false) := Lib.hid fun j => by rw [hW]; simp [go_sem]
  have BX := Lib.hid bx
  clear hW bx
  refine (HFO.out W (HG.out.below BX.out)).mono ?_
  rintro e w1 ⟨r, o, rfl, o1, b1⟩
  have B1 := Lib.hid b1
  have hs1 := b1.size
  have O1 := Lib.hid o1
  obtain ⟨f1, f2, fs⟩ := FG
  obtain ⟨s1, rfl, _, _, oe1⟩ := o1
  obtain ⟨A1, c1, rfl, _⟩ := oe1.form
  simp only at *
  clear b1 oe1
  have bf : Below w1.heap.size w1 (w1.alloc (Obj.cells #[Value.int IntKind.i64 f1, Value.int IntKind.i64 f2, .slice A1 fs.length c1] 30)) := (Below.refl _ _).alloc (Nat.le_refl _) _
  go_wp2_with fail
  refine (HTR.out _ _ (O1.out.arg.below bf)).mono ?_
  rintro e w3 ⟨r3, o3, rfl, o3', b3⟩
  have hsf := bf.size
  have B3 := Lib.hid (B1.out.trans ((bf.trans (b3.mono hsf)).mono hs1))
  have hs3 := b3.size
  have O3 := Lib.hid o3'
  obtain ⟨t1, t2, ts⟩ := TG
  obtain ⟨s3, rfl, _, _, oe3⟩ := o3'
  obtain ⟨A3, c3, rfl, _⟩ := oe3.form
  simp only at *
  clear b3 oe3 bf
  have bt : Below w3.heap.size w3 (w3.alloc (Obj.cells #[Value.int IntKind.i64 t1, Value.int IntKind.i64 t2, .slice A3 ts.length c3] 30)) := (Below.refl _ _).alloc (Nat.le_refl _) _
  go_wp2_with fail
  refine (HCA.out _ _ (O3.out.arg.below bt)).mono ?_
  rintro e w5 ⟨r5, rfl, o5, b5⟩
  have hst := bt.size
  have hs33 := B3.out.size
  have B5 := Lib.hid (B3.out.trans ((bt.trans (b5.mono hst)).mono hs33))
  have hs5 := B5.out.size
  have hb5 := b5.size
  obtain ⟨c1', c2', cs⟩ := CG
  obtain ⟨s5, rfl, hj1, hj2, oe5⟩ := o5
  obtain ⟨A5, k5, rfl, _⟩ := oe5.form
  simp only at *
  have OE5 := Lib.hid oe5
  have r0 := (B5.out.cell (p := ⟨w.heap.size + 1, 0, none⟩) (by show w.heap.size + 1 < _; omega)).trans R0.out
  have r1 := (B5.out.cell (p := ⟨w.heap.size + 1, 1, none⟩) (by show w.heap.size + 1 < _; omega)).trans R1.out
  have r2 := (B5.out.cell (p := ⟨w.heap.size + 1, 2, none⟩) (by show w.heap.size + 1 < _; omega)).trans R2.out
  have rf0 := (B5.out.frozen (p := ⟨w.heap.size + 1, 0, none⟩) (by show w.heap.size + 1 < _; omega)).trans (RF.out 0)
  have rf1 := (B5.out.frozen (p := ⟨w.heap.size + 1, 1, none⟩) (by show w.heap.size + 1 < _; omega)).trans (RF.out 1)
  have rf2 := (B5.out.frozen (p := ⟨w.heap.size + 1, 2, none⟩) (by show w.heap.size + 1 < _; omega)).trans (RF.out 2)
  have HBF := Lib.hid (BX.out.trans (B5.out.mono BX.out.size))
  clear b5 oe5 bt
  go_wp2
  obtain ⟨e0, e1, e2⟩ := cells3F (.int .i64 c1') (.int .i64 c2') (.slice A5 cs.length k5) r0 r1 r2
  have bw : Below w.heap.size w (((w5.setCell ⟨w.heap.size + 1, 0, none⟩ (.int .i64 c1')).setCell ⟨w.heap.size + 1, 1, none⟩ (.int .i64 c2')).setCell ⟨w.heap.size + 1, 2, none⟩ (.slice A5 cs.length k5)) := (((HBF.out.setCell (by simp <;> omega) _).setCell (by simp <;> omega) _).setCell (by simp <;> omega) _)
  have ow : OwE (((w5.setCell ⟨w.heap.size + 1, 0, none⟩ (.int .i64 c1')).setCell ⟨w.heap.size + 1, 1, none⟩ (.int .i64 c2')).setCell ⟨w.heap.size + 1, 2, none⟩ (.slice A5 cs.length k5)) w.heap.size (.slice A5 cs.length k5) cs := OwE.mono (((OE5.out.far (by show w.heap.size + 1 < _; omega) _).far (by show w.heap.size + 1 < _; omega) _).far (by show w.heap.size + 1 < _; omega) _) (by omega)
  generalize (((w5.setCell ⟨w.heap.size + 1, 0, none⟩ (.int .i64 c1')).setCell ⟨w.heap.size + 1, 1, none⟩ (.int .i64 c2')).setCell ⟨w.heap.size + 1, 2, none⟩ (.slice A5 cs.length k5)) = wf at *
  rw [HCG.out]
  exact bodyPost_ret (v := .agg #[.int .i64 c1', .int .i64 c2', .slice A5 cs.length k5]) (by simp [results, Tryz.results22, go_sem, e0, e1, e2]) rfl ⟨_, rfl, ⟨.slice A5 cs.length k5, rfl, hj1, hj2, ow⟩, bw⟩
end Go.Proofs.YtgifhaadfmomcaaGreat
