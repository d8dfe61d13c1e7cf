/- Lists of Whitehead automorphisms in the laws: compared, marked, read again. -/
import Derived.Test.YtnmkbkpegkchpaaAllWh
import Derived.Test.YtnmkbkpegkchpaaMark
import Derived.Test.YtnmkbkpegkchpaaLaw
import Derived.Deep.RegionHeld3
import Derived.Outline
namespace Go.Proofs.Ytnmkbkpegkchpaa
set_option maxRecDepth 20000
set_option linter.unusedVariables false
set_option linter.unusedSimpArgs false
open Go.RowKit

def cW (d : WhD) : Nat := d.2.length + 1
def mW (k : Int) (d : WhD) : WhD := (k, iota (k + 1) d.2.length)
theorem OWhS.ob {lo : Nat} {v : Value} {ds : List WhD} {w : World} (h : OWhS lo w.heap.size v ds w) : Ob (OWhS lo w.heap.size v ds) lo w.heap.size w :=
  ⟨h, fun _ _ hu hb => OwnL.keep hu EWh.stable hb, Nat.le_refl _⟩
theorem EWh.at {w : World} {cs : List Value} {d : WhD} {F : List Nat} (h : EWh w cs d F) : ∃ s, cs = [.int .i64 d.1, s] ∧ I64 d.1 ∧ OwI w 0 s d.2 ∧ F = s.ownBlock.toList := h
theorem allWh_cnt (r : Int) : cntL cW (allWh r) ≤ 1073741824 := by
  rcases h : inB r 1 3 with _ | _
  · have : allWh r = [] := by unfold allWh; rw [h]; rfl
    rw [this]; simp [cntL]
  · have hb := inB_iff.1 h
    have : r = 1 ∨ r = 2 ∨ r = 3 := by omega
    rcases this with rfl | rfl | rfl <;> decide +kernel
end Go.Proofs.Ytnmkbkpegkchpaa
