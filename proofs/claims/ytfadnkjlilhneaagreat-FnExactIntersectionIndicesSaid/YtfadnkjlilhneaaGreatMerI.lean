/- The program's MergeVertices. The program's FirstFold, MergeVertices, FoldOnce, FoldAll. -/
import Derived.Test.YtfadnkjlilhneaaGreatFoldI
import Derived.Test.YtfadnkjlilhneaaGreatDup
namespace Go.Proofs.YtfadnkjlilhneaaGreat
set_option maxRecDepth 20000
set_option linter.unusedVariables false
set_option linter.unusedSimpArgs false
open Go.RowKit

set_option maxHeartbeats 1000000 in
theorem implFirstFold_any (v : Value) (g : GrD) (w : World) (h : ArgG w v g) :
  Calls Tryz.prog 157 #[v] w fun e w' => e = .returned (.tuple #[.agg #[.int .i64 (firF g).1.1, .int .i64 (firF g).1.2], .bool (firF g).2]) ∧ Below w.heap.size w w' := by
 have HG := Lib.hid h
 obtain ⟨s, rfl, hi1, hi2, ha⟩ := h
 obtain ⟨A, cap, rfl⟩ := ha.form
 obtain ⟨g1, N, es⟩ := g
 simp only at *
 clear ha
 go_enter Tryz.func157, Tryz.ntmps157
 have bx : Below w.heap.size w ((w.alloc (Obj.cells #[Value.int IntKind.i64 g1, Value.int IntKind.i64 N, .slice A es.length cap] 31)).alloc (Obj.cells #[Value.int IntKind.i64 0, Value.int IntKind.i64 0] 128)) := (by repeat (first | exact Below.refl _ _ | (refine Below.setCell ?_ (by first | omega | (simp <;> omega)) _) | (refine bel_drewN ?_ _) | (refine Below.drew ?_) | (refine Below.alloc ?_ (by first | omega | (simp <;> omega)) _)))
 go_wp2_with fail
 obtain ⟨W, hW⟩ : ∃ W, W = (w.alloc (Obj.cells #[Value.int IntKind.i64 g1, Value.int IntKind.i64 N, .slice A es.length cap] 31)).alloc (Obj.cells #[Value.int IntKind.i64 0, Value.int IntKind.i64 0] 128) := ⟨_, rfl⟩
 rw [← hW] at bx ⊢
 have hsW : W.heap.size = w.heap.size + 2 := by rw [hW]; simp
 have L0 : Hid (W.cell? ⟨w.heap.size, 0, none⟩ = some (.int .i64 g1)) := Lib.hid (by rw [hW]; simp [go_sem])
 have L1 : Hid (W.cell? ⟨w.heap.size, 1, none⟩ = some (.int .i64 N)) := Lib.hid (by rw [hW]; simp [go_sem])
 have L2 : Hid (W.cell? ⟨w.heap.size, 2, none⟩ = some (.slice A es.length cap)) := Lib.hid (by rw [hW]; simp [go_sem])
 have R0 : Hid (W.cell? ⟨w.heap.size + 1, 0, none⟩ = some (.int .i64 0)) := Lib.hid (by rw [hW]; simp [go_sem])
 have R1 : Hid (W.cell? ⟨w.heap.size + 1, 1, none⟩ = some (.int .i64 0)) := Lib.hid (by rw [hW]; simp [go_sem])
 have RF : Hid (∀ j, W.frozen? ⟨w.heap.size + 1, j, none⟩ = false) := Lib.hid fun j => by rw [hW]; simp [go_sem]
 have BX := Lib.hid bx
 have HA : Hid (∀ w', Below W.heap.size W w' → ArgG w' (.agg #[.int .i64 g1, .int .i64 N, .slice A es.length cap]) (g1, N, es)) := Lib.hid fun w' hb => HG.out.below (BX.out.trans (hb.mono BX.out.size))
 clear hW bx
 refine (implIsGraph_any _ (g1, N, es) W (HA.out _ (Below.refl _ _))).mono ?_
 rintro e w1 ⟨rfl, b1⟩
 have B1 := Lib.hid b1
 have hs1 := b1.size
 have q0 := (b1.cell (p := ⟨w.heap.size, 0, none⟩) (by show w.heap.size < _; omega)).trans L0.out
 have q1 := (b1.cell (p := ⟨w.heap.size, 1, none⟩) (by show w.heap.size < _; omega)).trans L1.out
 have q2 := (b1.cell (p := ⟨w.heap.size, 2, none⟩) (by show w.heap.size < _; omega)).trans L2.out
 have r0 := (b1.cell (p := ⟨w.heap.size + 1, 0, none⟩) (by show w.heap.size + 1 < _; omega)).trans R0.out
 have r1 := (b1.cell (p := ⟨w.heap.size + 1, 1, none⟩) (by show w.heap.size + 1 < _; omega)).trans R1.out
 have f0 := (b1.frozen (p := ⟨w.heap.size + 1, 0, none⟩) (by show w.heap.size + 1 < _; omega)).trans (RF.out 0)
 have f1 := (b1.frozen (p := ⟨w.heap.size + 1, 1, none⟩) (by show w.heap.size + 1 < _; omega)).trans (RF.out 1)
 clear b1
 rcases eg : grB (g1, N, es) with _ | _
 ·have F : Hid (firF (g1, N, es) = ((0, 0), false)) := Lib.hid (by unfold firF; rw [eg]; rfl)
  clear eg
  go_wp2
  obtain ⟨c0, c1⟩ := cells2 (.int .i64 0) (.int .i64 0) r0 r1
  rw [F.out]
  have HB : Hid (Below w.heap.size w ((w1.setCell ⟨w.heap.size + 1, 0, none⟩ (.int .i64 0)).setCell ⟨w.heap.size + 1, 1, none⟩ (.int .i64 0))) := Lib.hid (((BX.out.trans (B1.out.mono BX.out.size)).setCell (by simp) _).setCell (by simp) _)
  exact bodyPost_ret (v := .tuple #[.agg #[.int .i64 0, .int .i64 0], .bool false]) (by simp [results, Tryz.results157, go_sem, c0, c1]) rfl ⟨rfl, HB.out⟩
 have HGR := Lib.hid eg
 have h120 := (grB_parts eg).2.2.1
 simp only at h120
 go_wp2_with fail
 refine (implFolds_any _ (g1, N, es) w1 (HA.out _ B1.out) h120).mono ?_
 rintro e w2 ⟨r, rfl, o2, b2⟩
 have O2 := Lib.hid o2
 have B2 := Lib.hid (B1.out.trans (b2.mono hs1))
 have hs2 := b2.size
 have k0 := (b2.cell (p := ⟨w.heap.size + 1, 0, none⟩) (by show w.heap.size + 1 < _; omega)).trans r0
 have k1 := (b2.cell (p := ⟨w.heap.size + 1, 1, none⟩) (by show w.heap.size + 1 < _; omega)).trans r1
 have j0 := (b2.frozen (p := ⟨w.heap.size + 1, 0, none⟩) (by show w.heap.size + 1 < _; omega)).trans f0
 have j1 := (b2.frozen (p := ⟨w.heap.size + 1, 1, none⟩) (by show w.heap.size + 1 < _; omega)).trans f1
 obtain ⟨A2, c2, rfl, h2, _, _, hg2⟩ := o2.form
 clear o2 b2 q0 q1 q2 r0 r1 f0 f1
 rcases ef : foL es with _ | ⟨f, l⟩
 ·have F : Hid (firF (g1, N, es) = ((0, 0), false)) := Lib.hid (by unfold firF; rw [if_pos HGR.out]; simp only [ef])
  simp only [ef, List.length_nil] at *
  go_wp2
  obtain ⟨c0, c1⟩ := cells2 (.int .i64 0) (.int .i64 0) k0 k1
  rw [F.out]
  have HB : Hid (Below w.heap.size w ((w2.setCell ⟨w.heap.size + 1, 0, none⟩ (.int .i64 0)).setCell ⟨w.heap.size + 1, 1, none⟩ (.int .i64 0))) := Lib.hid (((BX.out.trans (B2.out.mono BX.out.size)).setCell (by simp) _).setCell (by simp) _)
  exact bodyPost_ret (v := .tuple #[.agg #[.int .i64 0, .int .i64 0], .bool false]) (by simp [results, Tryz.results157, go_sem, c0, c1]) rfl ⟨rfl, HB.out⟩
 ·have F : Hid (firF (g1, N, es) = (f, true)) := Lib.hid (by unfold firF; rw [if_pos HGR.out]; simp only [ef])
  obtain ⟨g', rfl, _, _⟩ := hg2 (by simp only [ef]; simp)
  have O3 := O2.out
  simp only [ef] at O3
  obtain ⟨p0, p1⟩ := O3.head
  have hne : ¬ ((foL es).length : Int) = 0 := by rw [ef]; simp; omega
  have hpos : (0 : Int) < ((foL es).length : Int) := by omega
  have HEF := Lib.hid ef
  obtain ⟨fa, fb⟩ := f
  simp only at p0 p1
  clear ef O3
  generalize (foL es).length = nn at *
  go_wp2
  obtain ⟨c0, c1⟩ := cells2 (.int .i64 fa) (.int .i64 fb) k0 k1
  rw [F.out]
  have HB : Hid (Below w.heap.size w ((w2.setCell ⟨w.heap.size + 1, 0, none⟩ (.int .i64 fa)).setCell ⟨w.heap.size + 1, 1, none⟩ (.int .i64 fb))) := Lib.hid (((BX.out.trans (B2.out.mono BX.out.size)).setCell (by simp) _).setCell (by simp) _)
  exact bodyPost_ret (v := .tuple #[.agg #[.int .i64 fa, .int .i64 fb], .bool true]) (by simp [results, Tryz.results157, go_sem, c0, c1]) rfl ⟨rfl, HB.out⟩
theorem place_any (v : Int) (f : FoD) (b : Nat) (w : World) (hv : 0 ≤ v ∧ v ≤ 1000) (h0 : w.cell? ⟨b, 0, none⟩ = some (.int .i64 f.1)) (h1 : w.cell? ⟨b, 1, none⟩ = some (.int .i64 f.2)) :
  Calls Tryz.prog 176 #[.int .i64 v, .pointer (some ⟨b, 0, none⟩)] w fun e w' => e = .returned (.int .i64 (plF f v)) ∧ w = w' := by
 obtain ⟨a, d⟩ := f
 simp only at h0 h1 ⊢
 have hw : IntKind.i64.wrap (v - 1) = v - 1 := by rw [IntKind.wrap_i64]; omega
 rcases e1 : (v == d) with _ | _
 ·have h1 : ¬ v = d := by simpa using e1
  rcases e2 : decide (d < v) with _ | _
  ·have h2 : ¬ d < v := by simpa using e2
   go_enter Tryz.func176, Tryz.ntmps176
   go_wp2
   go_ret
   exact ⟨ret_int (by unfold plF; rw [if_neg h1, if_neg (show ¬ d < v by omega)]), rfl⟩
  ·have h2 : d < v := by simpa using e2
   go_enter Tryz.func176, Tryz.ntmps176
   go_wp2
   go_ret
   exact ⟨ret_int (by unfold plF; rw [if_neg h1, if_pos h2]), rfl⟩
 ·have h1 : v = d := by simpa using e1
  go_enter Tryz.func176, Tryz.ntmps176
  go_wp2
  go_ret
  exact ⟨ret_int (by unfold plF; rw [if_pos h1]), rfl⟩
theorem map_step (es : List EdD) (p : EdD → EdD) (k : Nat) (h : k < es.length) : ((es.take k).map p ++ es.drop k).set k (p es[k]) = (es.take (k + 1)).map p ++ es.drop (k + 1) := by
 have hl : ((es.take k).map p).length = k := by rw [List.length_map, List.length_take]; omega
 rw [List.set_append_right _ _ (by omega), hl, Nat.sub_self, List.drop_eq_getElem_cons h, List.set_cons_zero, List.take_succ_eq_append_getElem h, List.map_append]
 simp
set_option maxHeartbeats 2000000 in
theorem implMergeVertices_any (v : Value) (g : GrD) (f : FoD) (w : World) (h : ArgG w v g) (hg : grB g = true) (hf : 0 ≤ f.1 ∧ f.1 < f.2 ∧ f.2 < g.2.1) :
  Calls Tryz.prog 158 #[v, .agg #[.int .i64 f.1, .int .i64 f.2]] w fun e w' => ∃ r, e = .returned (.tuple #[r, .bool true]) ∧ OwG w' w.heap.size r (merG g f) ∧ Below w.heap.size w w' := by
 have HG := Lib.hid h
 have HGR := Lib.hid hg
 obtain ⟨h13, h40, h120, _⟩ := grB_parts hg
 have HED := Lib.hid fun e (he : e ∈ g.2.2) => edge_of_gr hg he
 obtain ⟨s, rfl, hi1, hi2, ha⟩ := h
 obtain ⟨A, cap, rfl⟩ := ha.form
 obtain ⟨g1, N, es⟩ := g
 obtain ⟨fa, fb⟩ := f
 simp only at *
 clear ha hg
 have hN1 : IntKind.i64.wrap (N - 1) = N - 1 := by rw [IntKind.wrap_i64]; omega
 have hc1 : decide (fa < 0) = false := by simp; omega
 have hc2 : decide (fb ≤ fa) = false := by simp; omega
 have hc3 : decide (N ≤ fb) = false := by simp; omega
 have hmf : ∀ (fn : Fn) (first cap : Array Value) (w : World), (Instr.makeFunc fn first cap).run Tryz.prog w = .ok (.func fn first cap) w := fun _ _ _ _ => rfl
 go_enter Tryz.func158, Tryz.ntmps158
 have bx : Below w.heap.size w (((w.alloc (Obj.cells #[Value.int IntKind.i64 g1, Value.int IntKind.i64 N, .slice A es.length cap] 31)).alloc (Obj.cells #[Value.int IntKind.i64 fa, Value.int IntKind.i64 fb] 128)).alloc (Obj.cells #[Value.int IntKind.i64 0, Value.int IntKind.i64 0, .slice none 0 0] 31)) := (by repeat (first | exact Below.refl _ _ | (refine Below.setCell ?_ (by first | omega | (simp <;> omega)) _) | (refine bel_drewN ?_ _) | (refine Below.drew ?_) | (refine Below.alloc ?_ (by first | omega | (simp <;> omega)) _)))
 go_wp2_with fail
 obtain ⟨W, hW⟩ : ∃ W, W = (((w.alloc (Obj.cells #[Value.int IntKind.i64 g1, Value.int IntKind.i64 N, .slice A es.length cap] 31)).alloc (Obj.cells #[Value.int IntKind.i64 fa, Value.int IntKind.i64 fb] 128)).alloc (Obj.cells #[Value.int IntKind.i64 0, Value.int IntKind.i64 0, .slice none 0 0] 31)) := ⟨_, rfl⟩
 rw [← hW] at bx ⊢
 have hsW : W.heap.size = w.heap.size + 3 := by rw [hW]; simp
 have L0 : Hid (W.cell? ⟨w.heap.size, 0, none⟩ = some (.int .i64 g1)) := Lib.hid (by rw [hW]; simp [go_sem])
 have L1 : Hid (W.cell? ⟨w.heap.size, 1, none⟩ = some (.int .i64 N)) := Lib.hid (by rw [hW]; simp [go_sem])
 have L2 : Hid (W.cell? ⟨w.heap.size, 2, none⟩ = some (.slice A es.length cap)) := Lib.hid (by rw [hW]; simp [go_sem])
 have M0 : Hid (W.cell? ⟨w.heap.size + 1, 0, none⟩ = some (.int .i64 fa)) := Lib.hid (by rw [hW]; simp [go_sem])
 have M1 : Hid (W.cell? ⟨w.heap.size + 1, 1, none⟩ = some (.int .i64 fb)) := Lib.hid (by rw [hW]; simp [go_sem])
 have R0 : Hid (W.cell? ⟨w.heap.size + 1 + 1, 0, none⟩ = some (.int .i64 0)) := Lib.hid (by rw [hW]; simp [go_sem])
 have R1 : Hid (W.cell? ⟨w.heap.size + 1 + 1, 1, none⟩ = some (.int .i64 0)) := Lib.hid (by rw [hW]; simp [go_sem])
 have R2 : Hid (W.cell? ⟨w.heap.size + 1 + 1, 2, none⟩ = some (.slice none 0 0)) := Lib.hid (by rw [hW]; simp [go_sem])
 have RF : Hid (∀ j, W.frozen? ⟨w.heap.size + 1 + 1, j, none⟩ = false) := Lib.hid fun j => by rw [hW]; simp [go_sem]
 have BX := Lib.hid bx
 have HA : Hid (∀ w', Below W.heap.size W w' → ArgG w' (.agg #[.int .i64 g1, .int .i64 N, .slice A es.length cap]) (g1, N, es)) := Lib.hid fun w' hb => HG.out.below (BX.out.trans (hb.mono BX.out.size))
 clear hW bx
 refine (copyGraph_any _ (g1, N, es) W (HA.out _ (Below.refl _ _)) (by simp only; omega)).mono ?_
 rintro e w1 ⟨r, rfl, o1, b1⟩
 have B1 := Lib.hid b1
 have hs1 := b1.size
 obtain ⟨s1, rfl, _, _, oe1⟩ := o1
 obtain ⟨A1, c1, rfl, hc1n, hc1m, hA1, _⟩ := oe1.form
 simp only at *
 have OE1 := Lib.hid oe1
 clear b1 oe1
 have bX : Below w1.heap.size w1 (w1.alloc (Obj.cells #[Value.int IntKind.i64 g1, Value.int IntKind.i64 N, .slice A1 es.length c1] 31)) := (Below.refl _ _).alloc (Nat.le_refl _) _
 have BA := Lib.hid (B1.out.trans (bX.mono hs1))
 have HCW : Hid (∀ w', Below W.heap.size W w' → w'.cell? ⟨w.heap.size, 0, none⟩ = some (.int .i64 g1) ∧ w'.cell? ⟨w.heap.size, 1, none⟩ = some (.int .i64 N) ∧ w'.cell? ⟨w.heap.size, 2, none⟩ = some (.slice A es.length cap) ∧ w'.cell? ⟨w.heap.size + 1, 0, none⟩ = some (.int .i64 fa) ∧ w'.cell? ⟨w.heap.size + 1, 1, none⟩ = some (.int .i64 fb)) := Lib.hid fun w' hb2 =>
  ⟨(hb2.cell (p := ⟨w.heap.size, 0, none⟩) (by show w.heap.size < _; omega)).trans L0.out, (hb2.cell (p := ⟨w.heap.size, 1, none⟩) (by show w.heap.size < _; omega)).trans L1.out, (hb2.cell (p := ⟨w.heap.size, 2, none⟩) (by show w.heap.size < _; omega)).trans L2.out, (hb2.cell (p := ⟨w.heap.size + 1, 0, none⟩) (by show w.heap.size + 1 < _; omega)).trans M0.out, (hb2.cell (p := ⟨w.heap.size + 1, 1, none⟩) (by show w.heap.size + 1 < _; omega)).trans M1.out⟩
 obtain ⟨q0, q1, q2, q3, q4⟩ := HCW.out _ BA.out
 go_wp2_with fail
 obtain ⟨W2, hW2⟩ : ∃ W, W = w1.alloc (Obj.cells #[Value.int IntKind.i64 g1, Value.int IntKind.i64 N, .slice A1 es.length c1] 31) := ⟨_, rfl⟩
 have X0 : Hid (W2.cell? ⟨w1.heap.size, 0, none⟩ = some (.int .i64 g1)) := Lib.hid (by rw [hW2]; simp [go_sem])
 have X1 : Hid (W2.cell? ⟨w1.heap.size, 1, none⟩ = some (.int .i64 N)) := Lib.hid (by rw [hW2]; simp [go_sem])
 have X2 : Hid (W2.cell? ⟨w1.heap.size, 2, none⟩ = some (.slice A1 es.length c1)) := Lib.hid (by rw [hW2]; simp [go_sem])
 have XF : Hid (∀ j, W2.frozen? ⟨w1.heap.size, j, none⟩ = false) := Lib.hid fun j => by rw [hW2]; simp [go_sem]
 have hsW2 : W2.heap.size = w1.heap.size + 1 := by rw [hW2]; simp
 rw [← hW2] at bX BA ⊢
 clear hW2 q0 q1 q2 q3 q4
 have hgi := implIsGraph_any _ (g1, N, es) W2 (HA.out _ BA.out)
 rw [HGR.out] at hgi
 refine hgi.mono ?_
 rintro e w3 ⟨rfl, b3⟩
 have hs3 := b3.size
 have B3 := Lib.hid (BA.out.trans (b3.mono BA.out.size))
 obtain ⟨q0, q1, q2, q3, q4⟩ := HCW.out _ B3.out
 have x0 := (b3.cell (p := ⟨w1.heap.size, 0, none⟩) (by show w1.heap.size < _; omega)).trans X0.out
 have x1 := (b3.cell (p := ⟨w1.heap.size, 1, none⟩) (by show w1.heap.size < _; omega)).trans X1.out
 have x2 := (b3.cell (p := ⟨w1.heap.size, 2, none⟩) (by show w1.heap.size < _; omega)).trans X2.out
 have XF3 : Hid (∀ j, w3.frozen? ⟨w1.heap.size, j, none⟩ = false) := Lib.hid fun j => (b3.frozen (p := ⟨w1.heap.size, j, none⟩) (by show w1.heap.size < _; omega)).trans (XF.out j)
 have OE3 := Lib.hid ((OE1.out.below bX).below b3)
 clear b3 hgi bX
 have XX0 := Lib.hid x0
 have XX1 := Lib.hid x1
 have XX2 := Lib.hid x2
 have HOB : Hid (∀ b, (Value.slice A1 es.length c1).ownBlock = some b → W.heap.size ≤ b ∧ b < w1.heap.size) := Lib.hid fun b hb => OE1.out.1.lt b hb
 go_wp2
 have hne0 : ∀ b, (Value.slice A1 es.length c1).ownBlock = some b → b < w3.heap.size ∧ b ≠ w1.heap.size := fun b hb => by have := HOB.out b hb; omega
 have HNE := Lib.hid hne0
 clear hne0 q0 q1 q2 q3 q4 x0 x1 x2
 go_loopw [39] (fun i wr => ∃ k : Nat, k ≤ es.length ∧ i = .int .i64 k ∧ OwE wr W.heap.size (.slice A1 es.length c1) ((es.take k).map (plE (fa, fb)) ++ es.drop k) ∧ w3.grownBy wr (Value.slice A1 es.length c1).ownBlock) (fun i _ => es.length - (intOf i).toNat)
 case atStart => exact ⟨0, Nat.zero_le _, rfl, OE3.out, World.grownBy.refl _ _⟩
 case round =>
  obtain ⟨k, hk, rfl, how, hgr⟩ := hrel
  have HOW := Lib.hid how
  have HGW := Lib.hid hgr
  obtain ⟨wk, rfl⟩ : ∃ wk : World, wk = wr := ⟨_, rfl⟩
  have hsk := hgr.size
  clear how hgr
  have HCK : Hid (∀ b o, b < w3.heap.size → (∀ c, (Value.slice A1 es.length c1).ownBlock = some c → c ≠ b) → wk.cell? ⟨b, o, none⟩ = w3.cell? ⟨b, o, none⟩) := Lib.hid fun b o hb hne => grown_cellF HGW.out hb hne
  obtain ⟨q0, q1, q2, q3, q4⟩ := HCW.out _ B3.out
  have hWs : ∀ b, b < W.heap.size → ∀ c, (Value.slice A1 es.length c1).ownBlock = some c → c ≠ b := fun b hb c hc => by have := (HOB.out c hc).1; omega
  have y3 := (HCK.out (w.heap.size + 1) 0 (by omega) (hWs _ (by omega))).trans q3
  have y4 := (HCK.out (w.heap.size + 1) 1 (by omega) (hWs _ (by omega))).trans q4
  have yx := (HCK.out w1.heap.size 2 (by omega) (fun c hc => (HNE.out c hc).2)).trans XX2.out
  clear q0 q1 q2 q3 q4 hWs hmf
  by_cases hlt : k < es.length
  ·have hlen : ((es.take k).map (plE (fa, fb)) ++ es.drop k).length = es.length := by rw [List.length_append, List.length_map, List.length_take, List.length_drop]; omega
   obtain ⟨_, _, hv, _, _, _, hgl⟩ := HOW.out.form
   injection hv with hv1 hv2 hv3
   clear hv2 hv3
   obtain ⟨gl, hA, _, hglt⟩ := hgl (by omega)
   rw [← hv1] at hA
   subst hA
   obtain ⟨c0, c1', c2⟩ := HOW.out.cellAt k (by omega)
   have hgk : ((es.take k).map (plE (fa, fb)) ++ es.drop k)[k]'(by omega) = es[k] := by
    rw [List.getElem_append_right (by rw [List.length_map, List.length_take]; omega)]
    simp only [List.length_map, List.length_take, List.getElem_drop]
    congr 1
    omega
   rw [hgk] at c0 c1' c2
   have hed := HED.out es[k] (List.getElem_mem hlt)
   have HST : Hid (((es.take k).map (plE (fa, fb)) ++ es.drop k).set k (plE (fa, fb) es[k]) = (es.take (k + 1)).map (plE (fa, fb)) ++ es.drop (k + 1)) := Lib.hid (map_step es (plE (fa, fb)) k hlt)
   have HFR := Lib.hid HOW.out.free
   have hkI : (k : Int) < (es.length : Int) := by omega
   have HPE : Hid (plE (fa, fb) es[k] = (plF (fa, fb) es[k].1, es[k].2.1, plF (fa, fb) es[k].2.2)) := Lib.hid rfl
   have HP1 := Lib.hid (plF_range (f := (fa, fb)) (n := N) (v := es[k].1) hf hed.1)
   have HP2 := Lib.hid (plF_range (f := (fa, fb)) (n := N) (v := es[k].2.2) hf hed.2.2)
   have HLN := Lib.hid hlen
   clear hgk hlen hv1 hgl
   generalize es[k] = d at *
   obtain ⟨a, l, c⟩ := d
   simp only at c0 c1' c2 hed
   have bE : Below wk.heap.size wk (wk.alloc (Obj.cells #[Value.int IntKind.i64 a, Value.int IntKind.i64 l, Value.int IntKind.i64 c] 54)) := (Below.refl _ _).alloc (Nat.le_refl _) _
   go_wp2_with fail
   obtain ⟨WE, hWE⟩ : ∃ W, W = wk.alloc (Obj.cells #[Value.int IntKind.i64 a, Value.int IntKind.i64 l, Value.int IntKind.i64 c] 54) := ⟨_, rfl⟩
   have l0 : WE.cell? ⟨wk.heap.size, 0, none⟩ = some (.int .i64 a) := by rw [hWE]; simp [go_sem]
   have l1 : WE.cell? ⟨wk.heap.size, 1, none⟩ = some (.int .i64 l) := by rw [hWE]; simp [go_sem]
   have l2 : WE.cell? ⟨wk.heap.size, 2, none⟩ = some (.int .i64 c) := by rw [hWE]; simp [go_sem]
   have hsE : WE.heap.size = wk.heap.size + 1 := by rw [hWE]; simp
   rw [← hWE] at bE ⊢
   clear hWE
   have z3 := (bE.cell (p := ⟨w.heap.size + 1, 0, none⟩) (by show w.heap.size + 1 < _; omega)).trans y3
   have z4 := (bE.cell (p := ⟨w.heap.size + 1, 1, none⟩) (by show w.heap.size + 1 < _; omega)).trans y4
   have zx := (bE.cell (p := ⟨w1.heap.size, 2, none⟩) (by show w1.heap.size < _; omega)).trans yx
   have zc0 := (bE.cell (p := ⟨gl, k * 3, none⟩) hglt).trans c0
   have zc1 := (bE.cell (p := ⟨gl, k * 3 + 1, none⟩) hglt).trans c1'
   have zc2 := (bE.cell (p := ⟨gl, k * 3 + 2, none⟩) hglt).trans c2
   have BE := Lib.hid bE
   clear bE y3 y4 yx c0 c1' c2
   have f0 := BelW.cell l0 (by omega)
   have f1 := BelW.cell l1 (by omega)
   have f2 := BelW.cell l2 (by omega)
   have f3 := BelW.cell z3 (by omega)
   have f4 := BelW.cell z4 (by omega)
   have f5 := BelW.cell zx (by omega)
   have HN : Hid (∀ x : Int, 0 ≤ x ∧ x ≤ 1000 → ∀ p : BelW WE, Calls Tryz.prog 176 #[.int .i64 x, .pointer (some ⟨w.heap.size + 1, 0, none⟩)] p.W fun e w' => e = .returned (.int .i64 (plF (fa, fb) x)) ∧ p.W = w') := Lib.hid fun x hx p => place_any x (fa, fb) (w.heap.size + 1) p.W hx (f3 p) (f4 p)
   have hda : 0 ≤ a ∧ a ≤ 1000 := by omega
   have hdc : 0 ≤ c ∧ c ≤ 1000 := by omega
   (refine wp_region_quiet_last 15 (by kernel_rfl) (by rfl) (by kernel_rfl) (by kernel_rfl) ?_; dsimp only [dumL, lastL]; (repeat (go_big_quiet_step ((go_at_call 176; exact Calls.bel_same (HN.out _ (by assumption) _))))); refine wpQuiet_nil ?_; intro wq hw'; obtain ⟨pq, hw''⟩ := hw'; have bq := pq.h; rw [← hw''] at bq; clear hw'' pq)
   clear f0 f1 f2 f3 f4 f5
   have v0 := (bq.cell (p := ⟨gl, k * 3, none⟩) (by show gl < _; omega)).trans zc0
   have v1 := (bq.cell (p := ⟨gl, k * 3 + 1, none⟩) (by show gl < _; omega)).trans zc1
   have v2 := (bq.cell (p := ⟨gl, k * 3 + 2, none⟩) (by show gl < _; omega)).trans zc2
   have HFQ : Hid (∀ j, wq.frozen? ⟨gl, j, none⟩ = false) := Lib.hid fun j => (bq.frozen (p := ⟨gl, j, none⟩) (by show gl < _; omega)).trans ((BE.out.frozen (p := ⟨gl, j, none⟩) hglt).trans (HFR.out j))
   have g0 := HFQ.out (k * 3)
   have g1' := HFQ.out (k * 3 + 1)
   have g2 := HFQ.out (k * 3 + 2)
   have hp1 := HP1.out
   have hp2 := HP2.out
   have HSET := Lib.hid (((HOW.out.below BE.out).below bq).set k (by rw [HLN.out]; exact hlt) (x := plF (fa, fb) a) (y := l) (z := plF (fa, fb) c) ⟨by omega, by omega⟩ ⟨by omega, by omega⟩ ⟨by omega, by omega⟩)
   have BQ := Lib.hid (BE.out.trans (bq.mono (by omega)))
   clear hp1 hp2 bq zc0 zc1 zc2 z3 z4 zx l0 l1 l2
   go_wp2
   go_roundw
   case rel => exact ⟨k + 1, by omega, by go_num, by rw [← HST.out, HPE.out]; exact HSET.out.1, (HGW.out.trans (grown_bel BQ.out)).trans HSET.out.2⟩
   case measure => simp [intOf]; omega
  ·obtain rfl : k = es.length := by omega
   have HML : Hid ((es.take es.length).map (plE (fa, fb)) ++ es.drop es.length = es.map (plE (fa, fb))) := Lib.hid (by rw [List.take_length, List.drop_length, List.append_nil])
   rw [HML.out] at HOW
   have HARG := Lib.hid HOW.out.arg
   have y0 := (HCK.out w1.heap.size 0 (by omega) (fun c hc => (HNE.out c hc).2)).trans XX0.out
   have y1 := (HCK.out w1.heap.size 1 (by omega) (fun c hc => (HNE.out c hc).2)).trans XX1.out
   have YF : Hid (∀ j, wk.frozen? ⟨w1.heap.size, j, none⟩ = false) := Lib.hid fun j => (World.frozen?_of_block (HGW.out.block w1.heap.size (by omega) fun e => (HNE.out _ e.symm).2 rfl)).trans (XF3.out j)
   have HRC : Hid (∀ b o, b < W.heap.size → wk.cell? ⟨b, o, none⟩ = w3.cell? ⟨b, o, none⟩ ∧ wk.frozen? ⟨b, o, none⟩ = w3.frozen? ⟨b, o, none⟩) := Lib.hid fun b o hb => ⟨HCK.out b o (by omega) (fun c hc => by have := (HOB.out c hc).1; omega), World.frozen?_of_block (HGW.out.block b (by omega) fun e => by have := (HOB.out _ e.symm).1; omega)⟩
   have BWK : Hid (Below W.heap.size W wk) := Lib.hid (B3.out.grown HGW.out B3.out.size (fun c hc => (HOB.out c hc).1))
   clear y3 y4
   go_wp2_with fail
   refine (sortedD_any _ (es.map (plE (fa, fb))) wk HARG.out (by rw [List.length_map]; omega)).mono ?_
   rintro e w8 ⟨r8, rfl, o8, b8⟩
   have hs8 := b8.size
   have HMG : Hid (merG (g1, N, es) (fa, fb) = (g1, N - 1, srt cmpE (es.map (plE (fa, fb))))) := Lib.hid rfl
   generalize srt cmpE (es.map (plE (fa, fb))) = L at *
   obtain ⟨A8, c8, rfl, _⟩ := o8.form
   have O8 := Lib.hid o8
   have B8 := Lib.hid (BWK.out.trans (b8.mono (by omega)))
   have x0 := (b8.cell (p := ⟨w1.heap.size, 0, none⟩) (by show w1.heap.size < _; omega)).trans y0
   have x1 := (b8.cell (p := ⟨w1.heap.size, 1, none⟩) (by show w1.heap.size < _; omega)).trans y1
   have x2 := (b8.cell (p := ⟨w1.heap.size, 2, none⟩) (by show w1.heap.size < _; omega)).trans yx
   have X8 : Hid (∀ j, w8.frozen? ⟨w1.heap.size, j, none⟩ = false) := Lib.hid fun j => (b8.frozen (p := ⟨w1.heap.size, j, none⟩) (by show w1.heap.size < _; omega)).trans (YF.out j)
   have xf1 := X8.out 1
   have xf2 := X8.out 2
   have r0 := (B8.out.cell (p := ⟨w.heap.size + 1 + 1, 0, none⟩) (by show w.heap.size + 1 + 1 < _; omega)).trans R0.out
   have r1 := (B8.out.cell (p := ⟨w.heap.size + 1 + 1, 1, none⟩) (by show w.heap.size + 1 + 1 < _; omega)).trans R1.out
   have r2 := (B8.out.cell (p := ⟨w.heap.size + 1 + 1, 2, none⟩) (by show w.heap.size + 1 + 1 < _; omega)).trans R2.out
   have rf0 := (B8.out.frozen (p := ⟨w.heap.size + 1 + 1, 0, none⟩) (by show w.heap.size + 1 + 1 < _; omega)).trans (RF.out 0)
   have rf1 := (B8.out.frozen (p := ⟨w.heap.size + 1 + 1, 1, none⟩) (by show w.heap.size + 1 + 1 < _; omega)).trans (RF.out 1)
   have rf2 := (B8.out.frozen (p := ⟨w.heap.size + 1 + 1, 2, none⟩) (by show w.heap.size + 1 + 1 < _; omega)).trans (RF.out 2)
   have hRx : w.heap.size + 1 + 1 ≠ w1.heap.size := by omega
   have HBF := Lib.hid (BX.out.trans (B8.out.mono BX.out.size))
   clear b8 o8 y0 y1 yx
   go_wp2
   have p0 := setc_other (b' := w1.heap.size) (o' := 1) (u := .int .i64 (N - 1)) hRx (setc_other (b' := w1.heap.size) (o' := 2) (u := .slice A8 L.length c8) hRx r0)
   have p1 := setc_other (b' := w1.heap.size) (o' := 1) (u := .int .i64 (N - 1)) hRx (setc_other (b' := w1.heap.size) (o' := 2) (u := .slice A8 L.length c8) hRx r1)
   have p2 := setc_other (b' := w1.heap.size) (o' := 1) (u := .int .i64 (N - 1)) hRx (setc_other (b' := w1.heap.size) (o' := 2) (u := .slice A8 L.length c8) hRx r2)
   obtain ⟨e0, e1, e2⟩ := cells3F (.int .i64 g1) (.int .i64 (N - 1)) (.slice A8 L.length c8) p0 p1 p2
   have bw : Below w.heap.size w (((((w8.setCell ⟨w1.heap.size, 2, none⟩ (.slice A8 L.length c8)).setCell ⟨w1.heap.size, 1, none⟩ (.int .i64 (N - 1))).setCell ⟨w.heap.size + 1 + 1, 0, none⟩ (.int .i64 g1)).setCell ⟨w.heap.size + 1 + 1, 1, none⟩ (.int .i64 (N - 1))).setCell ⟨w.heap.size + 1 + 1, 2, none⟩ (.slice A8 L.length c8)) := (((((HBF.out.setCell (by simp <;> omega) _).setCell (by simp <;> omega) _).setCell (by simp <;> omega) _).setCell (by simp <;> omega) _).setCell (by simp <;> omega) _)
   have ow : OwE (((((w8.setCell ⟨w1.heap.size, 2, none⟩ (.slice A8 L.length c8)).setCell ⟨w1.heap.size, 1, none⟩ (.int .i64 (N - 1))).setCell ⟨w.heap.size + 1 + 1, 0, none⟩ (.int .i64 g1)).setCell ⟨w.heap.size + 1 + 1, 1, none⟩ (.int .i64 (N - 1))).setCell ⟨w.heap.size + 1 + 1, 2, none⟩ (.slice A8 L.length c8)) w.heap.size (.slice A8 L.length c8) L := OwE.mono (((((O8.out.far (by show w1.heap.size < _; omega) _).far (by show w1.heap.size < _; omega) _).far (by show w.heap.size + 1 + 1 < _; omega) _).far (by show w.heap.size + 1 + 1 < _; omega) _).far (by show w.heap.size + 1 + 1 < _; omega) _) (by omega)
   generalize (((((w8.setCell ⟨w1.heap.size, 2, none⟩ (.slice A8 L.length c8)).setCell ⟨w1.heap.size, 1, none⟩ (.int .i64 (N - 1))).setCell ⟨w.heap.size + 1 + 1, 0, none⟩ (.int .i64 g1)).setCell ⟨w.heap.size + 1 + 1, 1, none⟩ (.int .i64 (N - 1))).setCell ⟨w.heap.size + 1 + 1, 2, none⟩ (.slice A8 L.length c8)) = wf at *
   rw [HMG.out]
   exact bodyPost_ret (v := .tuple #[.agg #[.int .i64 g1, .int .i64 (N - 1), .slice A8 L.length c8], .bool true]) (by simp [results, Tryz.results158, go_sem, e0, e1, e2]) rfl ⟨_, rfl, ⟨.slice A8 L.length c8, rfl, (by show I64 g1; unfold I64; omega), (by show I64 (N - 1); unfold I64; omega), ow⟩, bw⟩
end Go.Proofs.YtfadnkjlilhneaaGreat
