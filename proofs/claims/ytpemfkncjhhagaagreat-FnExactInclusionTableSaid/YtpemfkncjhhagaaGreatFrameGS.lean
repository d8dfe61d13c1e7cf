/- An argument of type list of the laws' Graph, opened. -/
import Derived.Test.YtpemfkncjhhagaaGreatFrameG
import Derived.Test.YtpemfkncjhhagaaGreatGrS
namespace Go.Proofs.YtpemfkncjhhagaaGreat
set_option maxRecDepth 20000
set_option linter.unusedVariables false
set_option linter.unusedSimpArgs false
open Go.ChangeShapes Go.WideShapes Go.ChangeAt Go.RowKit Go.Joins
theorem open_argGS {H : Type} {enc : TypeId × Value → H} {W : World} {base : Nat} {spare : Nat → Bool} {held : Bool} {v : Value} {d : DataW H} {p : List MemPlace}
    (hv : Value.okWide Tryz.prog W .any base 22 v) (h : DataW.Trod enc Tryz.prog W 0 spare held 22 v d p) : ∃ x, ArgGS W v x := by
  obtain ⟨a0, len0, cap0, rfl⟩ := okWide_slice Tryz.underlying22 hv
  obtain ⟨fuel, hf⟩ := h
  obtain ⟨A, len, cap, hv, hl, hm, hn, hel⟩ := open_elems Tryz.underlying22 graphCells (by simpa [Value.cells] using hf)
  simp at hv
  obtain ⟨rfl, rfl, rfl⟩ := hv
  cases a0 with
  | none => exact ⟨[], none, cap0, by have := hn rfl; simp; omega, by simp, hm, fun h => absurd h (by simp)⟩
  | some a =>
    have each : ∀ i, ∃ x : GrD × Value, i < len0 → (∀ j, j < 3 → W.cell? (a.add (i * 3 + j)) = ([.int .i64 x.1.1, .int .i64 x.1.2.1, x.2] : List Value)[j]?) ∧ ArgG W (.agg #[.int .i64 x.1.1, .int .i64 x.1.2.1, x.2]) x.1 := by
      intro i
      by_cases hi : i < len0
      · obtain ⟨n, c1, y1, _, hc, hy⟩ := hel a rfl i hi
        obtain ⟨g, s, rfl, hg⟩ := graph_of_trod hy
        exact ⟨(g, s), fun _ => ⟨hc, hg⟩⟩
      · exact ⟨((0, 0, []), .int .i64 0), fun h => absurd h hi⟩
    obtain ⟨f, hf'⟩ : ∃ f : Nat → GrD × Value, ∀ i, i < len0 → (∀ j, j < 3 → W.cell? (a.add (i * 3 + j)) = ([.int .i64 (f i).1.1, .int .i64 (f i).1.2.1, (f i).2] : List Value)[j]?) ∧ ArgG W (.agg #[.int .i64 (f i).1.1, .int .i64 (f i).1.2.1, (f i).2]) (f i).1 := ⟨fun i => (each i).choose, fun i => (each i).choose_spec⟩
    refine ⟨(List.range len0).map fun i => (f i).1, some a, cap0, by simp, by simpa using hl, hm, fun h0 => ?_⟩
    simp at h0
    obtain ⟨b, off, sp⟩ := a
    have hc0 := (hf' 0 h0).1 0 (by omega)
    have hsp : sp = none := by simpa [Addr.add] using World.cell?_spot hc0
    subst hsp
    refine ⟨b, off, rfl, by have := World.block_lt_of_cell? W _ hc0; simpa [Addr.add] using this, fun k hk => ?_⟩
    simp at hk
    obtain ⟨hk1, hk2⟩ := hf' k hk
    have d0 := hk1 0 (by omega); have d1 := hk1 1 (by omega); have d2 := hk1 2 (by omega)
    rw [Addr.add_lit] at d0 d1 d2
    simp only [List.getElem?_cons_zero, List.getElem?_cons_succ] at d0 d1 d2
    simp only [List.getElem_map, List.getElem_range]
    exact ⟨(f k).2, by simpa using d0, by rw [← Nat.add_assoc] at d1; exact d1, by rw [← Nat.add_assoc] at d2; exact d2, hk2⟩
end Go.Proofs.YtpemfkncjhhagaaGreat
