/- An argument of the laws' type Graph, opened. -/
import Derived.Test.YtpemfkncjhhagaaGreatFrame
import Derived.Test.YtpemfkncjhhagaaGreatGr
import Derived.Lib.SmallJoins
namespace Go.Proofs.YtpemfkncjhhagaaGreat
set_option maxRecDepth 20000
set_option linter.unusedVariables false
set_option linter.unusedSimpArgs false
open Go.ChangeShapes Go.WideShapes Go.ChangeAt Go.RowKit Go.Joins
theorem graphCells : Tryz.prog.cellsOf 39 = 3 := by kernel_rfl
theorem edgeCells : Tryz.prog.cellsOf 90 = 3 := by kernel_rfl
/-- Cells that read as an edge. -/
theorem edge_of_trod {H : Type} {enc : TypeId × Value → H} {W : World} {base : Nat} {spare : Nat → Bool} {held : Bool} {fuel : Nat} {cs : List Value} {y : DataW H × List MemPlace}
    (hf : DataW.trod enc Tryz.prog W base spare held fuel 90 cs = some y) : ∃ e : EdD, cs = edC e ∧ E64 e := by
  obtain ⟨y0, y1, y2, n, _, hl, h0, h1, h2⟩ := Go.Deep.trod_struct3 Tryz.underlying90 hf
  rw [edgeCells] at hl
  match cs, hl with
  | [c0, c1, c2], _ =>
    have hi : Tryz.prog.cellsOf 3 = 1 := by kernel_rfl
    simp [hi] at h0 h1 h2
    obtain ⟨a, e0, _, w0⟩ := DataW.trod_int Tryz.underlying3 h0
    obtain ⟨b, e1, _, w1⟩ := DataW.trod_int Tryz.underlying3 h1
    obtain ⟨c, e2, _, w2⟩ := DataW.trod_int Tryz.underlying3 h2
    simp at e0 e1 e2
    subst e0 e1 e2
    exact ⟨(a, b, c), rfl, wf_I64 w0, wf_I64 w1, wf_I64 w2⟩
theorem edges_of_trod {H : Type} {enc : TypeId × Value → H} {W : World} {base : Nat} {spare : Nat → Bool} {held : Bool} {fuel : Nat} {v : Value} {y : DataW H × List MemPlace}
    (hf : DataW.trod enc Tryz.prog W base spare held fuel 37 [v] = some y) : ∃ es, ArgE W v es := by
  obtain ⟨A, len, cap, hv, hl, hm, hn, hel⟩ := open_elems Tryz.underlying37 edgeCells hf
  simp at hv
  subst hv
  cases A with
  | none => exact ⟨[], none, cap, by have := hn rfl; simp; omega, by simp, hm, hn, E64s_nil, fun h => absurd h (by simp)⟩
  | some a =>
    have each : ∀ i, ∃ e : EdD, i < len → E64 e ∧ ∀ j, j < 3 → W.cell? (a.add (i * 3 + j)) = (edC e)[j]? := by
      intro i
      by_cases hi : i < len
      · obtain ⟨n, c1, y1, _, hc, hy⟩ := hel a rfl i hi
        obtain ⟨e, rfl, h64⟩ := edge_of_trod hy
        exact ⟨e, fun _ => ⟨h64, hc⟩⟩
      · exact ⟨(0, 0, 0), fun h => absurd h hi⟩
    obtain ⟨f, hf'⟩ : ∃ f : Nat → EdD, ∀ i, i < len → E64 (f i) ∧ ∀ j, j < 3 → W.cell? (a.add (i * 3 + j)) = (edC (f i))[j]? := ⟨fun i => (each i).choose, fun i => (each i).choose_spec⟩
    refine ⟨(List.range len).map f, some a, cap, by simp, by simpa using hl, hm, (fun h => by cases h), fun e he => ?_, fun h0 => ?_⟩
    · obtain ⟨i, hi, rfl⟩ := List.mem_map.1 he
      exact (hf' i (by simpa using hi)).1
    · simp at h0
      obtain ⟨b, off, sp⟩ := a
      have hc0 := (hf' 0 h0).2 0 (by omega)
      have hsp : sp = none := by simpa [Addr.add] using World.cell?_spot hc0
      subst hsp
      refine ⟨b, off, rfl, by have := World.block_lt_of_cell? W _ hc0; simpa [Addr.add] using this, fun k hk => ?_⟩
      simp at hk
      have hk' := (hf' k hk).2
      have d0 := hk' 0 (by omega); have d1 := hk' 1 (by omega); have d2 := hk' 2 (by omega)
      rw [Addr.add_lit] at d0 d1 d2
      simp only [edC, List.getElem?_cons_zero, List.getElem?_cons_succ] at d0 d1 d2
      simp only [List.getElem_map, List.getElem_range]
      exact ⟨by simpa using d0, by rw [← Nat.add_assoc] at d1; exact d1, by rw [← Nat.add_assoc] at d2; exact d2⟩
/-- Cells that read as a graph. -/
theorem graph_of_trod {H : Type} {enc : TypeId × Value → H} {W : World} {base : Nat} {spare : Nat → Bool} {held : Bool} {fuel : Nat} {cs : List Value} {y : DataW H × List MemPlace}
    (hf : DataW.trod enc Tryz.prog W base spare held fuel 39 cs = some y) : ∃ (g : GrD) (s : Value), cs = [.int .i64 g.1, .int .i64 g.2.1, s] ∧ ArgG W (.agg #[.int .i64 g.1, .int .i64 g.2.1, s]) g := by
  obtain ⟨y0, y1, y2, n, _, hl, h0, h1, h2⟩ := Go.Deep.trod_struct3 Tryz.underlying39 hf
  rw [graphCells] at hl
  match cs, hl with
  | [c0, c1, c2], _ =>
    have hi : Tryz.prog.cellsOf 3 = 1 := by kernel_rfl
    have hs : Tryz.prog.cellsOf 37 = 1 := by kernel_rfl
    simp [hi, hs] at h0 h1 h2
    obtain ⟨a, e0, _, w0⟩ := DataW.trod_int Tryz.underlying3 h0
    obtain ⟨b, e1, _, w1⟩ := DataW.trod_int Tryz.underlying3 h1
    simp at e0 e1
    subst e0 e1
    obtain ⟨es, hE⟩ := edges_of_trod h2
    exact ⟨(a, b, es), c2, rfl, c2, rfl, wf_I64 w0, wf_I64 w1, hE⟩
theorem open_argG {H : Type} {enc : TypeId × Value → H} {W : World} {base : Nat} {spare : Nat → Bool} {held : Bool} {v : Value} {d : DataW H} {p : List MemPlace}
    (hv : Value.okWide Tryz.prog W .any base 39 v) (h : DataW.Trod enc Tryz.prog W 0 spare held 39 v d p) : ∃ x, ArgG W v x := by
  obtain ⟨c0, c1, c2, y0, y1, y2, m, rfl, rfl, rfl, hy0, hy1, hy2⟩ := open_agg3 Tryz.underlying39 (by kernel_rfl) graphCells hv h
  obtain ⟨a, e0, _, w0⟩ := DataW.trod_int Tryz.underlying3 hy0
  obtain ⟨b, e1, _, w1⟩ := DataW.trod_int Tryz.underlying3 hy1
  simp at e0 e1
  subst e0 e1
  obtain ⟨es, hE⟩ := edges_of_trod hy2
  exact ⟨(a, b, es), c2, rfl, wf_I64 w0, wf_I64 w1, hE⟩
end Go.Proofs.YtpemfkncjhhagaaGreat
