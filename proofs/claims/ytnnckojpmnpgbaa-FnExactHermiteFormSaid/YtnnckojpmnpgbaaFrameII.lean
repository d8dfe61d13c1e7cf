/- An argument of type list of lists of ints, opened. -/
import Derived.Test.YtnnckojpmnpgbaaFrame
import Derived.Test.YtnnckojpmnpgbaaIIL
namespace Go.Proofs.Ytnnckojpmnpgbaa
set_option maxRecDepth 20000
set_option linter.unusedVariables false
set_option linter.unusedSimpArgs false
open Go.ChangeShapes Go.WideShapes Go.ChangeAt Go.RowKit
theorem intsCells : Try.prog.cellsOf 27 = 1 := by kernel_rfl
theorem open_argII {H : Type} {enc : TypeId × Value → H} {W : World} {base : Nat} {spare : Nat → Bool} {held : Bool} {v : Value} {d : DataW H} {p : List MemPlace}
    (hv : Value.okWide Try.prog W .any base 22 v) (h : DataW.Trod enc Try.prog W 0 spare held 22 v d p) : ∃ x, ArgII W v x := by
  obtain ⟨a0, len0, cap0, rfl⟩ := okWide_slice Try.underlying22 hv
  obtain ⟨fuel, hf⟩ := h
  obtain ⟨A, len, cap, hv, hl, hm, hn, hel⟩ := open_elems Try.underlying22 intsCells (by simpa [Value.cells] using hf)
  simp at hv
  obtain ⟨rfl, rfl, rfl⟩ := hv
  cases a0 with
  | none => exact ⟨[], none, cap0, by have := hn rfl; simp; omega, by simp, hm, hn, fun h => absurd h (by simp)⟩
  | some a =>
    have each : ∀ i, ∃ x : List Int × Value, i < len0 → W.cell? (a.add i) = some x.2 ∧ ArgI W x.2 x.1 := by
      intro i
      by_cases hi : i < len0
      · obtain ⟨n, c1, y1, hl1, hc, hy⟩ := hel a rfl i hi
        match c1, hl1 with
        | [c], _ =>
          obtain ⟨xs, hx⟩ := ints_of_trod hy
          have := hc 0 (by omega)
          exact ⟨(xs, c), fun _ => ⟨by simpa using this, hx⟩⟩
      · exact ⟨([], .int .i64 0), fun h => absurd h hi⟩
    obtain ⟨f, hf'⟩ : ∃ f : Nat → List Int × Value, ∀ i, i < len0 → W.cell? (a.add i) = some (f i).2 ∧ ArgI W (f i).2 (f i).1 := ⟨fun i => (each i).choose, fun i => (each i).choose_spec⟩
    refine ⟨(List.range len0).map fun i => (f i).1, some a, cap0, by simp, by simpa using hl, hm, (fun h => by cases h), fun h0 => ?_⟩
    simp at h0
    obtain ⟨b, off, sp⟩ := a
    have hc0 := (hf' 0 h0).1
    have hsp : sp = none := by simpa [Addr.add] using World.cell?_spot hc0
    subst hsp
    refine ⟨b, off, rfl, by have := World.block_lt_of_cell? W _ hc0; simpa [Addr.add] using this, fun k hk => ?_⟩
    simp at hk
    obtain ⟨hk1, hk2⟩ := hf' k hk
    rw [Addr.add_lit] at hk1
    simp only [List.getElem_map, List.getElem_range]
    exact ⟨(f k).2, hk1, hk2⟩
end Go.Proofs.Ytnnckojpmnpgbaa
