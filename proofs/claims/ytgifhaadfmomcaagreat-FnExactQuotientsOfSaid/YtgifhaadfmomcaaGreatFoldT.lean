/- The reference's FirstFold, MergeVertices, FoldOnce, FoldAll. -/
import Derived.Test.YtgifhaadfmomcaaGreatFoldS
namespace Go.Proofs.YtgifhaadfmomcaaGreat
set_option maxRecDepth 20000
set_option linter.unusedVariables false
set_option linter.unusedSimpArgs false
open Go.RowKit

theorem cells2 {W : World} {b : Nat} {u0 u1 : Value} (x y : Value) (h0 : W.cell? ⟨b, 0, none⟩ = some u0) (h1 : W.cell? ⟨b, 1, none⟩ = some u1) :
    ((W.setCell ⟨b, 0, none⟩ x).setCell ⟨b, 1, none⟩ y).cell? ⟨b, 0, none⟩ = some x ∧ ((W.setCell ⟨b, 0, none⟩ x).setCell ⟨b, 1, none⟩ y).cell? ⟨b, 1, none⟩ = some y :=
  ⟨by rw [World.cell?_setCell_other _ _ _ _ (by simp), World.cell?_setCell_same _ _ _ h0], World.cell?_setCell_same _ _ _ ((World.cell?_setCell_other _ _ _ _ (by simp)).trans h1)⟩
/-- The first fold, if there is one. -/
def firF (g : GrD) : FoD × Bool := if grB g = true then (match foL g.2.2 with | [] => ((0, 0), false) | f :: _ => (f, true)) else ((0, 0), false)
theorem OwFo.head {w : World} {base g n cap : Nat} {f : FoD} {l : List FoD} (h : OwFo w base (.slice (some ⟨g, 0, none⟩) n cap) (f :: l)) : w.cell? ⟨g, 0, none⟩ = some (.int .i64 f.1) ∧ w.cell? ⟨g, 1, none⟩ = some (.int .i64 f.2) := by
  obtain rfl : n = (f :: l).length := by
    obtain ⟨_, _, hv, _⟩ := OwFo.form h
    injection hv
  have h' : w.ownsRow base 44 2 (.slice (some ⟨g, 0, none⟩) (f :: l).length cap) (f :: l).length (foCs (f :: l)) := h
  have e0 := World.ownsRow.cellAt h' 0 (by simp <;> omega)
  have e1 := World.ownsRow.cellAt h' 1 (by simp <;> omega)
  exact ⟨by rw [e0]; rfl, by rw [e1]; rfl⟩
set_option maxHeartbeats 1000000 in
theorem specFirstFold_any (v : Value) (g : GrD) (w : World) (h : ArgG w v g) :
    Calls Tryz.prog 85 #[v] w fun e w' => e = .returned (.tuple #[.agg #[.int .i64 (firF g).1.1, .int .i64 (firF g).1.2], .bool (firF g).2]) ∧ Below w.heap.size w w' := by
  have HG := Lib.hid h
  obtain ⟨s, rfl, hi1, hi2, ha⟩ := h
  obtain ⟨A, cap, rfl⟩ := ha.form
  obtain ⟨g1, N, es⟩ := g
  simp only at *
  clear ha
  go_enter Tryz.func85, Tryz.ntmps85
  have bx : Below w.heap.size w ((w.alloc (Obj.cells #[Value.int IntKind.i64 g1, Value.int IntKind.i64 N, .slice A es.length cap] 30)).alloc (Obj.cells #[Value.int IntKind.i64 0, Value.int IntKind.i64 0] 44)) := (by repeat (first | exact Below.refl _ _ | (refine Below.setCell ?_ (by first | omega | (simp <;> omega)) _) | (refine bel_drewN ?_ _) | (refine Below.drew ?_) | (refine Below.alloc ?_ (by first | omega | (simp <;> omega)) _)))
  go_wp2_with fail
  obtain ⟨W, hW⟩ : ∃ W, W = (w.alloc (Obj.cells #[Value.int IntKind.i64 g1, Value.int IntKind.i64 N, .slice A es.length cap] 30)).alloc (Obj.cells #[Value.int IntKind.i64 0, Value.int IntKind.i64 0] 44) := ⟨_, rfl⟩
  rw [← hW] at bx ⊢
  have hsW : W.heap.size = w.heap.size + 2 := by rw [hW]; simp
  have L0 : Hid (W.cell? ⟨w.heap.size, 0, none⟩ = some (.int .i64 g1)) := Lib.hid (by rw [hW]; simp [go_sem])
  have L1 : Hid (W.cell? ⟨w.heap.size, 1, none⟩ = some (.int .i64 N)) := Lib.hid (by rw [hW]; simp [go_sem])
  have L2 : Hid (W.cell? ⟨w.heap.size, 2, none⟩ = some (.slice A es.length cap)) := Lib.hid (by rw [hW]; simp [go_sem])
  have R0 : Hid (W.cell? ⟨w.heap.size + 1, 0, none⟩ = some (.int .i64 0)) := Lib.hid (by rw [hW]; simp [go_sem])
  have R1 : Hid (W.cell? ⟨w.heap.size + 1, 1, none⟩ = some (.int .i64 0)) := Lib.hid (by rw [hW]; simp [go_sem])
  have RF : Hid (∀ j, W.frozen? ⟨w.heap.size + 1, j, none⟩ = false) := Lib.hid fun j => by rw [hW]; simp [go_sem]
  have BX := Lib.hid bx
  have HA : Hid (∀ w', Below W.heap.size W w' → ArgG w' (.agg #[.int .i64 g1, .int .i64 N, .slice A es.length cap]) (g1, N, es)) := Lib.hid fun w' hb => HG.out.below (BX.out.trans (hb.mono BX.out.size))
  clear hW bx
  refine (specIsGraph_any _ (g1, N, es) W (HA.out _ (Below.refl _ _))).mono ?_
  rintro e w1 ⟨rfl, b1⟩
  have B1 := Lib.hid b1
  have hs1 := b1.size
  have q0 := (b1.cell (p := ⟨w.heap.size, 0, none⟩) (by show w.heap.size < _; omega)).trans L0.out
  have q1 := (b1.cell (p := ⟨w.heap.size, 1, none⟩) (by show w.heap.size < _; omega)).trans L1.out
  have q2 := (b1.cell (p := ⟨w.heap.size, 2, none⟩) (by show w.heap.size < _; omega)).trans L2.out
  have r0 := (b1.cell (p := ⟨w.heap.size + 1, 0, none⟩) (by show w.heap.size + 1 < _; omega)).trans R0.out
  have r1 := (b1.cell (p := ⟨w.heap.size + 1, 1, none⟩) (by show w.heap.size + 1 < _; omega)).trans R1.out
  have f0 := (b1.frozen (p := ⟨w.heap.size + 1, 0, none⟩) (by show w.heap.size + 1 < _; omega)).trans (RF.out 0)
  have f1 := (b1.frozen (p := ⟨w.heap.size + 1, 1, none⟩) (by show w.heap.size + 1 < _; omega)).trans (RF.out 1)
  clear b1
  rcases eg : grB (g1, N, es) with _ | _
  · have F : Hid (firF (g1, N, es) = ((0, 0), false)) := Lib.hid (by unfold firF; rw [eg]; rfl)
    clear eg
    go_wp2
    obtain ⟨c0, c1⟩ := cells2 (.int .i64 0) (.int .i64 0) r0 r1
    rw [F.out]
    have HB : Hid (Below w.heap.size w ((w1.setCell ⟨w.heap.size + 1, 0, none⟩ (.int .i64 0)).setCell ⟨w.heap.size + 1, 1, none⟩ (.int .i64 0))) := Lib.hid (((BX.out.trans (B1.out.mono BX.out.size)).setCell (by simp) _).setCell (by simp) _)
    exact bodyPost_ret (v := .tuple #[.agg #[.int .i64 0, .int .i64 0], .bool false]) (by simp [results, Tryz.results85, go_sem, c0, c1]) rfl ⟨rfl, HB.out⟩
  have HGR := Lib.hid eg
  have h120 := (grB_parts eg).2.2.1
  simp only at h120
  go_wp2_with fail
  refine (l7Folds_any _ (g1, N, es) w1 (HA.out _ B1.out) h120).mono ?_
  rintro e w2 ⟨r, rfl, o2, b2⟩
  have O2 := Lib.hid o2
  have B2 := Lib.hid (B1.out.trans (b2.mono hs1))
  have hs2 := b2.size
  have k0 := (b2.cell (p := ⟨w.heap.size + 1, 0, none⟩) (by show w.heap.size + 1 < _; omega)).trans r0
  have k1 := (b2.cell (p := ⟨w.heap.size + 1, 1, none⟩) (by show w.heap.size + 1 < _; omega)).trans r1
  have j0 := (b2.frozen (p := ⟨w.heap.size + 1, 0, none⟩) (by show w.heap.size + 1 < _; omega)).trans f0
  have j1 := (b2.frozen (p := ⟨w.heap.size + 1, 1, none⟩) (by show w.heap.size + 1 < _; omega)).trans f1
  obtain ⟨A2, c2, rfl, h2, _, _, hg2⟩ := o2.form
  clear o2 b2 q0 q1 q2 r0 r1 f0 f1
  rcases ef : foL es with _ | ⟨f, l⟩
  · have F : Hid (firF (g1, N, es) = ((0, 0), false)) := Lib.hid (by unfold firF; rw [if_pos HGR.out]; simp only [ef])
    simp only [ef, List.length_nil] at *
    go_wp2
    obtain ⟨c0, c1⟩ := cells2 (.int .i64 0) (.int .i64 0) k0 k1
    rw [F.out]
    have HB : Hid (Below w.heap.size w ((w2.setCell ⟨w.heap.size + 1, 0, none⟩ (.int .i64 0)).setCell ⟨w.heap.size + 1, 1, none⟩ (.int .i64 0))) := Lib.hid (((BX.out.trans (B2.out.mono BX.out.size)).setCell (by simp) _).setCell (by simp) _)
    exact bodyPost_ret (v := .tuple #[.agg #[.int .i64 0, .int .i64 0], .bool false]) (by simp [results, Tryz.results85, go_sem, c0, c1]) rfl ⟨rfl, HB.out⟩
  · have F : Hid (firF (g1, N, es) = (f, true)) := Lib.hid (by unfold firF; rw [if_pos HGR.out]; simp only [ef])
    obtain ⟨g', rfl, _, _⟩ := hg2 (by simp only [ef]; simp)
    have O3 := O2.out
    simp only [ef] at O3
    obtain ⟨p0, p1⟩ := O3.head
    have hne : ¬ ((foL es).length : Int) = 0 := by rw [ef]; simp; omega
    have hpos : (0 : Int) < ((foL es).length : Int) := by omega
    have HEF := Lib.hid ef
    obtain ⟨fa, fb⟩ := f
    simp only at p0 p1
    clear ef O3
    generalize (foL es).length = nn at *
    go_wp2
    obtain ⟨c0, c1⟩ := cells2 (.int .i64 fa) (.int .i64 fb) k0 k1
    rw [F.out]
    have HB : Hid (Below w.heap.size w ((w2.setCell ⟨w.heap.size + 1, 0, none⟩ (.int .i64 fa)).setCell ⟨w.heap.size + 1, 1, none⟩ (.int .i64 fb))) := Lib.hid (((BX.out.trans (B2.out.mono BX.out.size)).setCell (by simp) _).setCell (by simp) _)
    exact bodyPost_ret (v := .tuple #[.agg #[.int .i64 fa, .int .i64 fb], .bool true]) (by simp [results, Tryz.results85, go_sem, c0, c1]) rfl ⟨rfl, HB.out⟩
theorem cells3F {W : World} {b : Nat} {u0 u1 u2 : Value} (x y z : Value) (h0 : W.cell? ⟨b, 0, none⟩ = some u0) (h1 : W.cell? ⟨b, 1, none⟩ = some u1) (h2 : W.cell? ⟨b, 2, none⟩ = some u2) :
    (((W.setCell ⟨b, 0, none⟩ x).setCell ⟨b, 1, none⟩ y).setCell ⟨b, 2, none⟩ z).cell? ⟨b, 0, none⟩ = some x ∧ (((W.setCell ⟨b, 0, none⟩ x).setCell ⟨b, 1, none⟩ y).setCell ⟨b, 2, none⟩ z).cell? ⟨b, 1, none⟩ = some y ∧ (((W.setCell ⟨b, 0, none⟩ x).setCell ⟨b, 1, none⟩ y).setCell ⟨b, 2, none⟩ z).cell? ⟨b, 2, none⟩ = some z :=
  ⟨by rw [World.cell?_setCell_other _ _ _ _ (by simp), World.cell?_setCell_other _ _ _ _ (by simp), World.cell?_setCell_same _ _ _ h0],
   by rw [World.cell?_setCell_other _ _ _ _ (by simp)]; exact World.cell?_setCell_same _ _ _ ((World.cell?_setCell_other _ _ _ _ (by simp)).trans h1),
   World.cell?_setCell_same _ _ _ ((World.cell?_setCell_other _ _ _ _ (by simp)).trans ((World.cell?_setCell_other _ _ _ _ (by simp)).trans h2))⟩
theorem mer_succ (es : List EdD) (f : FoD) (k : Nat) (h : k < es.length) : srt cmpE ((es.take (k + 1)).map (plE f)) = insF cmpE (srt cmpE ((es.take k).map (plE f))) (plE f es[k]) := by
  rw [List.take_succ_eq_append_getElem h, List.map_append]
  unfold srt
  rw [List.foldl_append]
  rfl
theorem mer_len (es : List EdD) (f : FoD) (k : Nat) : (srt cmpE ((es.take k).map (plE f))).length ≤ es.length := by
  have := srt_len (c := cmpE) ((es.take k).map (plE f))
  rw [List.length_map, List.length_take] at this
  omega
theorem l7New_any (v : Int) (f : FoD) (w : World) (hv : 0 ≤ v ∧ v ≤ 1000) (hf : 0 ≤ f.1 ∧ f.1 < f.2 ∧ f.2 ≤ 1000) :
    Calls Tryz.prog 42 #[.int .i64 v, .agg #[.int .i64 f.1, .int .i64 f.2]] w fun e w' => e = .returned (.int .i64 (plF f v)) ∧ Below w.heap.size w w' := by
  obtain ⟨a, b⟩ := f
  simp only at hf ⊢
  have hw : IntKind.i64.wrap (v - 1) = v - 1 := by rw [IntKind.wrap_i64]; omega
  rcases e1 : (v == b) with _ | _
  · have h1 : ¬ v = b := by simpa using e1
    rcases e2 : decide (b < v) with _ | _
    · have h2 : ¬ b < v := by simpa using e2
      go_enter Tryz.func42, Tryz.ntmps42
      go_wp2
      go_ret
      exact ⟨ret_int (by unfold plF; rw [if_neg h1, if_neg (show ¬ b < v by omega)]), (by repeat (first | exact Below.refl _ _ | (refine Below.setCell ?_ (by first | omega | (simp <;> omega)) _) | (refine bel_drewN ?_ _) | (refine Below.drew ?_) | (refine Below.alloc ?_ (by first | omega | (simp <;> omega)) _)))⟩
    · have h2 : b < v := by simpa using e2
      go_enter Tryz.func42, Tryz.ntmps42
      go_wp2
      go_ret
      exact ⟨by simp [plF, h1, h2], (by repeat (first | exact Below.refl _ _ | (refine Below.setCell ?_ (by first | omega | (simp <;> omega)) _) | (refine bel_drewN ?_ _) | (refine Below.drew ?_) | (refine Below.alloc ?_ (by first | omega | (simp <;> omega)) _)))⟩
  · have h1 : v = b := by simpa using e1
    have e2 : decide (b < a) = false := by simp; omega
    go_enter Tryz.func42, Tryz.ntmps42
    go_wp2
    go_ret
    exact ⟨by simp [plF, h1], (by repeat (first | exact Below.refl _ _ | (refine Below.setCell ?_ (by first | omega | (simp <;> omega)) _) | (refine bel_drewN ?_ _) | (refine Below.drew ?_) | (refine Below.alloc ?_ (by first | omega | (simp <;> omega)) _)))⟩
set_option maxHeartbeats 1000000 in
theorem specMergeVertices_any (v : Value) (g : GrD) (f : FoD) (w : World) (h : ArgG w v g) (hg : grB g = true) (hf : 0 ≤ f.1 ∧ f.1 < f.2 ∧ f.2 < g.2.1) :
    Calls Tryz.prog 21 #[v, .agg #[.int .i64 f.1, .int .i64 f.2]] w fun e w' => ∃ r, e = .returned (.tuple #[r, .bool true]) ∧ OwG w' w.heap.size r (merG g f) ∧ Below w.heap.size w w' := by
  have HG := Lib.hid h
  have HGR := Lib.hid hg
  obtain ⟨h13, h40, h120, _⟩ := grB_parts hg
  have HED := Lib.hid fun e (he : e ∈ g.2.2) => edge_of_gr hg he
  obtain ⟨s, rfl, hi1, hi2, ha⟩ := h
  obtain ⟨A, cap, rfl⟩ := ha.form
  obtain ⟨g1, N, es⟩ := g
  obtain ⟨fa, fb⟩ := f
  simp only at *
  have HAE := Lib.hid ha
  clear ha hg
  have hN1 : IntKind.i64.wrap (N - 1) = N - 1 := by rw [IntKind.wrap_i64]; omega
  have hc1 : decide (fa < 0) = false := by simp; omega
  have hc2 : decide (fb ≤ fa) = false := by simp; omega
  have hc3 : decide (N ≤ fb) = false := by simp; omega
  go_enter Tryz.func21, Tryz.ntmps21
  have bx : Below w.heap.size w (((w.alloc (Obj.cells #[Value.int IntKind.i64 g1, Value.int IntKind.i64 N, .slice A es.length cap] 30)).alloc (Obj.cells #[Value.int IntKind.i64 fa, Value.int IntKind.i64 fb] 44)).alloc (Obj.cells #[Value.int IntKind.i64 0, Value.int IntKind.i64 0, .slice none 0 0] 30)) := (by repeat (first | exact Below.refl _ _ | (refine Below.setCell ?_ (by first | omega | (simp <;> omega)) _) | (refine bel_drewN ?_ _) | (refine Below.drew ?_) | (refine Below.alloc ?_ (by first | omega | (simp <;> omega)) _)))
  go_wp2_with fail
  obtain ⟨W, hW⟩ : ∃ W, W = (((w.alloc (Obj.cells #[Value.int IntKind.i64 g1, Value.int IntKind.i64 N, .slice A es.length cap] 30)).alloc (Obj.cells #[Value.int IntKind.i64 fa, Value.int IntKind.i64 fb] 44)).alloc (Obj.cells #[Value.int IntKind.i64 0, Value.int IntKind.i64 0, .slice none 0 0] 30)) := ⟨_, rfl⟩
  rw [← hW] at bx ⊢
  have hsW : W.heap.size = w.heap.size + 3 := by rw [hW]; simp
  have L0 : Hid (W.cell? ⟨w.heap.size, 0, none⟩ = some (.int .i64 g1)) := Lib.hid (by rw [hW]; simp [go_sem])
  have L1 : Hid (W.cell? ⟨w.heap.size, 1, none⟩ = some (.int .i64 N)) := Lib.hid (by rw [hW]; simp [go_sem])
  have L2 : Hid (W.cell? ⟨w.heap.size, 2, none⟩ = some (.slice A es.length cap)) := Lib.hid (by rw [hW]; simp [go_sem])
  have M0 : Hid (W.cell? ⟨w.heap.size + 1, 0, none⟩ = some (.int .i64 fa)) := Lib.hid (by rw [hW]; simp [go_sem])
  have M1 : Hid (W.cell? ⟨w.heap.size + 1, 1, none⟩ = some (.int .i64 fb)) := Lib.hid (by rw [hW]; simp [go_sem])
  have R0 : Hid (W.cell? ⟨w.heap.size + 1 + 1, 0, none⟩ = some (.int .i64 0)) := Lib.hid (by rw [hW]; simp [go_sem])
  have R1 : Hid (W.cell? ⟨w.heap.size + 1 + 1, 1, none⟩ = some (.int .i64 0)) := Lib.hid (by rw [hW]; simp [go_sem])
  have R2 : Hid (W.cell? ⟨w.heap.size + 1 + 1, 2, none⟩ = some (.slice none 0 0)) := Lib.hid (by rw [hW]; simp [go_sem])
  have RF : Hid (∀ j, W.frozen? ⟨w.heap.size + 1 + 1, j, none⟩ = false) := Lib.hid fun j => by rw [hW]; simp [go_sem]
  have BX := Lib.hid bx
  have HA : Hid (∀ w', Below W.heap.size W w' → ArgG w' (.agg #[.int .i64 g1, .int .i64 N, .slice A es.length cap]) (g1, N, es)) := Lib.hid fun w' hb => HG.out.below (BX.out.trans (hb.mono BX.out.size))
  have HA2 : Hid (∀ w', Below W.heap.size W w' → ArgE w' (.slice A es.length cap) es) := Lib.hid fun w' hb => HAE.out.below (BX.out.trans (hb.mono BX.out.size))
  clear hW bx
  have hgi := specIsGraph_any _ (g1, N, es) W (HA.out _ (Below.refl _ _))
  rw [HGR.out] at hgi
  refine hgi.mono ?_
  rintro e w1 ⟨rfl, b1⟩
  have B1 := Lib.hid b1
  have hs1 := b1.size
  clear b1 hgi
  have HCEL : Hid (∀ wr, Below w1.heap.size w1 wr → wr.cell? ⟨w.heap.size, 0, none⟩ = some (.int .i64 g1) ∧ wr.cell? ⟨w.heap.size, 1, none⟩ = some (.int .i64 N) ∧ wr.cell? ⟨w.heap.size, 2, none⟩ = some (.slice A es.length cap) ∧ wr.cell? ⟨w.heap.size + 1, 0, none⟩ = some (.int .i64 fa) ∧ wr.cell? ⟨w.heap.size + 1, 1, none⟩ = some (.int .i64 fb)) := Lib.hid fun wr hb => by
    have hb2 : Below W.heap.size W wr := B1.out.trans (hb.mono hs1)
    exact ⟨(hb2.cell (p := ⟨w.heap.size, 0, none⟩) (by show w.heap.size < _; omega)).trans L0.out, (hb2.cell (p := ⟨w.heap.size, 1, none⟩) (by show w.heap.size < _; omega)).trans L1.out, (hb2.cell (p := ⟨w.heap.size, 2, none⟩) (by show w.heap.size < _; omega)).trans L2.out, (hb2.cell (p := ⟨w.heap.size + 1, 0, none⟩) (by show w.heap.size + 1 < _; omega)).trans M0.out, (hb2.cell (p := ⟨w.heap.size + 1, 1, none⟩) (by show w.heap.size + 1 < _; omega)).trans M1.out⟩
  obtain ⟨q0, q1, q2, q3, q4⟩ := HCEL.out w1 (Below.refl _ _)
  have bX : Below w1.heap.size w1 (w1.alloc (Obj.cells #[Value.int IntKind.i64 g1, Value.int IntKind.i64 (N - 1), .slice none 0 0] 30)) := (Below.refl _ _).alloc (Nat.le_refl _) _
  have BXX := Lib.hid bX
  have X0 : Hid ((w1.alloc (Obj.cells #[Value.int IntKind.i64 g1, Value.int IntKind.i64 (N - 1), .slice none 0 0] 30)).cell? ⟨w1.heap.size, 0, none⟩ = some (.int .i64 g1)) := Lib.hid (by simp [go_sem])
  have X1 : Hid ((w1.alloc (Obj.cells #[Value.int IntKind.i64 g1, Value.int IntKind.i64 (N - 1), .slice none 0 0] 30)).cell? ⟨w1.heap.size, 1, none⟩ = some (.int .i64 (N - 1))) := Lib.hid (by simp [go_sem])
  have X2 : Hid ((w1.alloc (Obj.cells #[Value.int IntKind.i64 g1, Value.int IntKind.i64 (N - 1), .slice none 0 0] 30)).cell? ⟨w1.heap.size, 2, none⟩ = some (.slice none 0 0)) := Lib.hid (by simp [go_sem])
  have XF : Hid (∀ j, (w1.alloc (Obj.cells #[Value.int IntKind.i64 g1, Value.int IntKind.i64 (N - 1), .slice none 0 0] 30)).frozen? ⟨w1.heap.size, j, none⟩ = false) := Lib.hid fun j => by simp [go_sem]
  clear bX
  go_wp2
  obtain ⟨w5, hw5⟩ : ∃ W, W = w1.alloc (Obj.cells #[Value.int IntKind.i64 g1, Value.int IntKind.i64 (N - 1), .slice none 0 0] 30) := ⟨_, rfl⟩
  have hs5 : w5.heap.size = w1.heap.size + 1 := by rw [hw5]; simp
  rw [← hw5] at BXX X0 X1 X2 XF ⊢
  clear hw5 q0 q1 q2 q3 q4
  go_loopw [7] (fun i wr => ∃ (k : Nat) (A2 : Option Addr) (cap2 : Nat), k ≤ es.length ∧ i = .int .i64 k ∧ wr.cell? ⟨w1.heap.size, 2, none⟩ = some (.slice A2 (srt cmpE ((es.take k).map (plE (fa, fb)))).length cap2) ∧ OwE wr (w1.heap.size + 1) (.slice A2 (srt cmpE ((es.take k).map (plE (fa, fb)))).length cap2) (srt cmpE ((es.take k).map (plE (fa, fb)))) ∧ Below w1.heap.size w1 wr ∧
      wr.cell? ⟨w1.heap.size, 0, none⟩ = some (.int .i64 g1) ∧ wr.cell? ⟨w1.heap.size, 1, none⟩ = some (.int .i64 (N - 1)) ∧ (∀ j, wr.frozen? ⟨w1.heap.size, j, none⟩ = false) ∧ w1.heap.size < wr.heap.size) (fun i _ => es.length - (intOf i).toNat)
  case atStart => exact ⟨0, none, 0, Nat.zero_le _, rfl, X2.out, OwE.nil, BXX.out, X0.out, X1.out, XF.out, by omega⟩
  case round =>
    obtain ⟨k, A2, cap2, hk, rfl, hx2, how2, hbr, hx0, hx1, hxf, hxr⟩ := hrel
    have HX0 := Lib.hid hx0
    have HX1 := Lib.hid hx1
    have HX2 := Lib.hid hx2
    have HXF := Lib.hid hxf
    have HOW2 := Lib.hid how2
    have HBR := Lib.hid hbr
    have B4 := Lib.hid (B1.out.trans (hbr.mono hs1))
    clear hx0 hx1 hx2 hxf how2 hbr
    obtain ⟨q0, q1, q2, q3, q4⟩ := HCEL.out wr HBR.out
    by_cases hlt : k < es.length
    · obtain ⟨b, off, rfl, hbw, a0, a1, a2, he64⟩ := (HA2.out wr B4.out).at hlt
      have HST := Lib.hid (mer_succ es (fa, fb) k hlt)
      have hml := mer_len es (fa, fb) k
      have hed := HED.out es[k] (List.getElem_mem hlt)
      have HE64 := Lib.hid he64
      have hkI : (k : Int) < (es.length : Int) := by omega
      generalize es[k] = d at *
      obtain ⟨a, l, c⟩ := d
      simp only at a0 a1 a2 hed
      generalize srt cmpE ((es.take k).map (plE (fa, fb))) = L at *
      have bA : Below wr.heap.size wr (wr.alloc (Obj.cells #[Value.int IntKind.i64 a, Value.int IntKind.i64 l, Value.int IntKind.i64 c] 52)) := (Below.refl _ _).alloc (Nat.le_refl _) _
      have HPE : Hid (plE (fa, fb) (a, l, c) = (plF (fa, fb) a, l, plF (fa, fb) c)) := Lib.hid rfl
      have HP1 := Lib.hid (plF_range (f := (fa, fb)) (n := N) (v := a) hf hed.1)
      have HP2 := Lib.hid (plF_range (f := (fa, fb)) (n := N) (v := c) hf hed.2.2)
      have HN : Hid (∀ x : Int, 0 ≤ x ∧ x ≤ 1000 → ∀ W' : World, Calls Tryz.prog 42 #[.int .i64 x, .agg #[.int .i64 fa, .int .i64 fb]] W' fun e w' => e = .returned (.int .i64 (plF (fa, fb) x)) ∧ Below W'.heap.size W' w') := Lib.hid fun x hx W' => l7New_any x (fa, fb) W' hx ⟨hf.1, hf.2.1, by simp only; omega⟩
      have hda : 0 ≤ a ∧ a ≤ 1000 := by omega
      have hdc : 0 ≤ c ∧ c ≤ 1000 := by omega
      clear he64
      go_wp2_with fail
      have sA : wr.heap.size < (wr.alloc (Obj.cells #[Value.int IntKind.i64 a, Value.int IntKind.i64 l, Value.int IntKind.i64 c] 52)).heap.size := by simp
      have l0 : (wr.alloc (Obj.cells #[Value.int IntKind.i64 a, Value.int IntKind.i64 l, Value.int IntKind.i64 c] 52)).cell? ⟨wr.heap.size, 0, none⟩ = some (.int .i64 a) := by simp [go_sem]
      have l1 : (wr.alloc (Obj.cells #[Value.int IntKind.i64 a, Value.int IntKind.i64 l, Value.int IntKind.i64 c] 52)).cell? ⟨wr.heap.size, 1, none⟩ = some (.int .i64 l) := by simp [go_sem]
      have l2 : (wr.alloc (Obj.cells #[Value.int IntKind.i64 a, Value.int IntKind.i64 l, Value.int IntKind.i64 c] 52)).cell? ⟨wr.heap.size, 2, none⟩ = some (.int .i64 c) := by simp [go_sem]
      generalize wr.alloc (Obj.cells #[Value.int IntKind.i64 a, Value.int IntKind.i64 l, Value.int IntKind.i64 c] 52) = W9 at bA sA l0 l1 l2 ⊢
      have lx := (bA.cell (p := ⟨w1.heap.size, 2, none⟩) hxr).trans HX2.out
      have la := (bA.cell (p := ⟨w.heap.size + 1, 0, none⟩) (by show w.heap.size + 1 < _; omega)).trans q3
      have lb := (bA.cell (p := ⟨w.heap.size + 1, 1, none⟩) (by show w.heap.size + 1 < _; omega)).trans q4
      have LX0 := Lib.hid ((bA.cell (p := ⟨w1.heap.size, 0, none⟩) hxr).trans HX0.out)
      have LX1 := Lib.hid ((bA.cell (p := ⟨w1.heap.size, 1, none⟩) hxr).trans HX1.out)
      have LXF : Hid (∀ j, W9.frozen? ⟨w1.heap.size, j, none⟩ = false) := Lib.hid fun j => (bA.frozen (p := ⟨w1.heap.size, j, none⟩) hxr).trans (HXF.out j)
      have OW := Lib.hid (HOW2.out.below bA)
      have BW9 := Lib.hid (HBR.out.trans (bA.mono (by omega)))
      have hXW : w1.heap.size < W9.heap.size := by omega
      have hFW : w.heap.size + 1 < W9.heap.size := by omega
      have hwX : wr.heap.size ≠ w1.heap.size := by omega
      clear bA a0 a1 a2 q0 q1 q2 q3 q4
      have f0 := BelW.cell l0 sA
      have f1 := BelW.cell l1 sA
      have f2 := BelW.cell l2 sA
      have f3 := BelW.cell la hFW
      have f4 := BelW.cell lb hFW
      have f5 := BelW.cell lx hXW
      (refine wp_region_call3 13 (by kernel_rfl) (by kernel_rfl) (by kernel_rfl) (by kernel_rfl) (by rfl) (by rfl) ?_; dsimp only [dum3, dumO]; (repeat (go_big_quiet_step ((go_at_call 42; exact Calls.bel_of (HN.out _ (by assumption) _))))); refine wpQuiet_nil ?_; refine ⟨⟨_, fun _ => by rfl⟩, ?_⟩; intro wq hw'; obtain ⟨pq, hw''⟩ := hw'; have bq := pq.h; rw [← hw''] at bq; clear hw'' pq; refine ⟨_, _, by rfl, ?_⟩)
      clear f0 f1 f2 f3 f4 f5
      simp only [List.map_toArray, List.map_cons, List.map_nil, Array.empty_append, Array.append_empty]
      refine (show Calls Tryz.prog 41 #[.slice A2 L.length cap2, .agg #[.int .i64 (plF (fa, fb) a), .int .i64 l, .int .i64 (plF (fa, fb) c)]] wq _ from ?_)
      have hp1 := HP1.out
      have hp2 := HP2.out
      refine (l4Put_any _ L (plF (fa, fb) a, l, plF (fa, fb) c) wq (OW.out.below bq).arg ⟨⟨by simp only; omega, by simp only; omega⟩, ⟨by simp only; omega, by simp only; omega⟩, ⟨by simp only; omega, by simp only; omega⟩⟩ (by omega)).mono ?_
      rintro e' w9 ⟨r9, rfl, o9, b9⟩
      have B9 := Lib.hid (bq.trans (b9.mono bq.size))
      have qx := (B9.out.cell (p := ⟨w1.heap.size, 2, none⟩) hXW).trans lx
      have qf := (B9.out.frozen (p := ⟨w1.heap.size, 2, none⟩) hXW).trans (LXF.out 2)
      have s9 : W9.heap.size ≤ w9.heap.size := B9.out.size
      have O9 := Lib.hid o9
      obtain ⟨A9, cap9, rfl, _⟩ := o9.form
      clear o9 b9 hp1 hp2
      refine ⟨_, rfl, ?_⟩
      simp only [Act.put, List.setIfInBounds_toArray, List.set_cons_zero, List.set_cons_succ]
      go_wp2
      go_roundw
      case rel =>
        have F := Lib.hid (HST.out.trans (by rw [HPE.out]))
        refine ⟨k + 1, A9, cap9, by omega, by go_num, by rw [F.out]; exact World.cell?_setCell_same _ _ _ qx, ?_, (BW9.out.trans (B9.out.mono (by omega))).setCell (Nat.le_refl _) _, ?_, ?_, fun j => by rw [World.frozen?_setCell]; exact (B9.out.frozen (p := ⟨w1.heap.size, j, none⟩) hXW).trans (LXF.out j), by simp; omega⟩
        · rw [F.out]
          exact (O9.out.mono (by show _ ≤ wq.heap.size; have := bq.size; omega)).far (show w1.heap.size < w1.heap.size + 1 by omega) _
        · rw [World.cell?_setCell_other _ _ _ _ (by simp)]
          exact (B9.out.cell (p := ⟨w1.heap.size, 0, none⟩) hXW).trans LX0.out
        · rw [World.cell?_setCell_other _ _ _ _ (by simp)]
          exact (B9.out.cell (p := ⟨w1.heap.size, 1, none⟩) hXW).trans LX1.out
      case measure => simp [intOf]; omega
    · obtain rfl : k = es.length := by omega
      rw [List.take_length] at HX2 HOW2
      have HMG : Hid (merG (g1, N, es) (fa, fb) = (g1, N - 1, srt cmpE (es.map (plE (fa, fb))))) := Lib.hid rfl
      generalize srt cmpE (es.map (plE (fa, fb))) = L at *
      have hx0 := HX0.out
      have hx1 := HX1.out
      have hx2 := HX2.out
      have r0 := (B4.out.cell (p := ⟨w.heap.size + 1 + 1, 0, none⟩) (by show w.heap.size + 1 + 1 < _; omega)).trans R0.out
      have r1 := (B4.out.cell (p := ⟨w.heap.size + 1 + 1, 1, none⟩) (by show w.heap.size + 1 + 1 < _; omega)).trans R1.out
      have r2 := (B4.out.cell (p := ⟨w.heap.size + 1 + 1, 2, none⟩) (by show w.heap.size + 1 + 1 < _; omega)).trans R2.out
      have rf0 := (B4.out.frozen (p := ⟨w.heap.size + 1 + 1, 0, none⟩) (by show w.heap.size + 1 + 1 < _; omega)).trans (RF.out 0)
      have rf1 := (B4.out.frozen (p := ⟨w.heap.size + 1 + 1, 1, none⟩) (by show w.heap.size + 1 + 1 < _; omega)).trans (RF.out 1)
      have rf2 := (B4.out.frozen (p := ⟨w.heap.size + 1 + 1, 2, none⟩) (by show w.heap.size + 1 + 1 < _; omega)).trans (RF.out 2)
      have hRx : w.heap.size + 1 + 1 ≠ w1.heap.size := by omega
      have HBF := Lib.hid (BX.out.trans (B4.out.mono BX.out.size))
      go_wp2
      obtain ⟨c0, c1, c2⟩ := cells3F (.int .i64 g1) (.int .i64 (N - 1)) (.slice A2 L.length cap2) r0 r1 r2
      have bw : Below w.heap.size w (((wr.setCell ⟨w.heap.size + 1 + 1, 0, none⟩ (.int .i64 g1)).setCell ⟨w.heap.size + 1 + 1, 1, none⟩ (.int .i64 (N - 1))).setCell ⟨w.heap.size + 1 + 1, 2, none⟩ (.slice A2 L.length cap2)) := (((HBF.out.setCell (by simp <;> omega) _).setCell (by simp <;> omega) _).setCell (by simp <;> omega) _)
      have ow : OwE (((wr.setCell ⟨w.heap.size + 1 + 1, 0, none⟩ (.int .i64 g1)).setCell ⟨w.heap.size + 1 + 1, 1, none⟩ (.int .i64 (N - 1))).setCell ⟨w.heap.size + 1 + 1, 2, none⟩ (.slice A2 L.length cap2)) (w1.heap.size + 1) (.slice A2 L.length cap2) L := ((HOW2.out.far (by show w.heap.size + 1 + 1 < _; omega) _).far (by show w.heap.size + 1 + 1 < _; omega) _).far (by show w.heap.size + 1 + 1 < _; omega) _
      generalize (((wr.setCell ⟨w.heap.size + 1 + 1, 0, none⟩ (.int .i64 g1)).setCell ⟨w.heap.size + 1 + 1, 1, none⟩ (.int .i64 (N - 1))).setCell ⟨w.heap.size + 1 + 1, 2, none⟩ (.slice A2 L.length cap2)) = wf at *
      rw [HMG.out]
      exact bodyPost_ret (v := .tuple #[.agg #[.int .i64 g1, .int .i64 (N - 1), .slice A2 L.length cap2], .bool true]) (by simp [results, Tryz.results21, go_sem, c0, c1, c2]) rfl ⟨_, rfl, ⟨.slice A2 L.length cap2, rfl, (by show I64 g1; unfold I64; omega), (by show I64 (N - 1); unfold I64; omega), ow.mono (by omega)⟩, bw⟩
end Go.Proofs.YtgifhaadfmomcaaGreat
