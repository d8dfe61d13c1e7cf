/- EqualGraphs of the reference and of the program; IsListed. -/
import Derived.Test.YtbflljcafbneaaaGr
import Derived.Laws.StructEq
namespace Go.Proofs.Ytbflljcafbneaaa
set_option maxRecDepth 20000
set_option linter.unusedVariables false
set_option linter.unusedSimpArgs false
open Go.RowKit

def edV (e : EdD) : Value := .agg #[.int .i64 e.1, .int .i64 e.2.1, .int .i64 e.2.2]
theorem edge_eqIn (a b : EdD) (w : World) : (Op.equalIn 10000 46 (edV a) (edV b)).run Try.prog w = .ok (decide (a = b)) w := by
  have u3 := Try.underlying3
  have a3 := Try.isAgg3
  have z3 := Try.sizeOf3
  have hS : Try.prog.underlying 46 = some (.struct (Try.prog.fieldsOf 46)) := by kernel_rfl
  have hp : Try.prog.stoodInHeld 46 = false := by kernel_rfl
  obtain ⟨x, y, z⟩ := a
  obtain ⟨x', y', z'⟩ := b
  simp only [edV]
  rw [show (10000 : Nat) = 9999 + 1 from rfl, run_equalIn_agg w 9999 46 _ _ hS hp]
  simp only [Program.fieldsOf, Try.underlying46]
  go_simp
  by_cases h1 : x = x' <;> by_cases h2 : y = y' <;> by_cases h3 : z = z' <;> simp [h1, h2, h3]
theorem edge_neq (a b : EdD) (w : World) : (binOp .neq 46 (edV a) (edV b)).run Try.prog w = .ok (.bool (!decide (a = b))) w := by
  have := edge_eqIn a b w
  unfold edV at this ⊢
  rw [run_neq_struct, this]
  rfl
theorem edge_eql (a b : EdD) (w : World) : (binOp .eql 46 (edV a) (edV b)).run Try.prog w = .ok (.bool (decide (a = b))) w := by
  have := edge_eqIn a b w
  unfold edV at this ⊢
  rw [run_eql_struct, this]
  rfl
theorem edge_guard : Try.prog.eqGuardType Try.prog.depth 46 = false := by kernel_rfl
end Go.Proofs.Ytbflljcafbneaaa
