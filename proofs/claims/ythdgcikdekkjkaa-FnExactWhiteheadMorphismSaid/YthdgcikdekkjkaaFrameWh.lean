/- An argument of the laws' type Whitehead, opened. -/
import Derived.Test.YthdgcikdekkjkaaFrame
import Derived.Test.YthdgcikdekkjkaaWh
import Derived.Lib.SmallJoins
namespace Go.Proofs.Ythdgcikdekkjkaa
set_option maxRecDepth 20000
set_option linter.unusedVariables false
set_option linter.unusedSimpArgs false
open Go.ChangeShapes Go.WideShapes Go.ChangeAt Go.RowKit Go.Joins
theorem whCells : Try.prog.cellsOf 57 = 2 := by kernel_rfl
theorem open_argWh {H : Type} {enc : TypeId × Value → H} {W : World} {base : Nat} {spare : Nat → Bool} {held : Bool} {v : Value} {d : DataW H} {p : List MemPlace}
    (hv : Value.okWide Try.prog W .any base 57 v) (h : DataW.Trod enc Try.prog W 0 spare held 57 v d p) : ∃ x, ArgWh W v x := by
  obtain ⟨c0, c1, y0, y1, m, rfl, rfl, rfl, hy0, hy1⟩ := open_agg2 Try.underlying57 (by kernel_rfl) whCells hv h
  obtain ⟨a, e0, _, wa⟩ := DataW.trod_int Try.underlying3 hy0
  simp at e0
  subst e0
  obtain ⟨xs, ha⟩ := ints_of_trod hy1
  exact ⟨(a, xs), c1, rfl, wf_I64 wa, ha⟩
end Go.Proofs.Ythdgcikdekkjkaa
