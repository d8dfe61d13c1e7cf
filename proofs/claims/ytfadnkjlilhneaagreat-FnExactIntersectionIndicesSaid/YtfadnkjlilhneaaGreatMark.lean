/- Marking the elements of a list one after the other: plain Lean. -/
namespace Go.Proofs.YtfadnkjlilhneaaGreat
set_option maxRecDepth 20000
set_option linter.unusedVariables false
set_option linter.unusedSimpArgs false

section
variable {α : Type} (c : α → Nat) (m : Int → α → α)
variable {c m}
end
end Go.Proofs.YtfadnkjlilhneaaGreat
