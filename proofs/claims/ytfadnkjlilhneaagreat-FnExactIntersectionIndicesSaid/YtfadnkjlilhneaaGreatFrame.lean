/- What the rows' frames share: a slice of ints that came in, as the walk is told of it. -/
import Derived.Test.YtfadnkjlilhneaaGreatBase
import Derived.ProofKit
import Derived.OpenShut
import Derived.ShutString
import Derived.ChangeOld
namespace Go.Proofs.YtfadnkjlilhneaaGreat
set_option maxRecDepth 20000
set_option linter.unusedVariables false
set_option linter.unusedSimpArgs false
open Go.ChangeShapes Go.WideShapes Go.ChangeAt Go.RowKit

theorem laidOut : laidOutB Tryz.prog = true := by kernel_rfl
theorem own : ownKnob Tryz.prog.godebug = none := by kernel_rfl

theorem wf_I64 {n : Int} (h : (Lit.int .i64 n).wf = true) : I64 n := by
 unfold I64; simpa [Lit.wf, IntKind.min, IntKind.max, IntKind.signed, IntKind.bits] using h

theorem open_elems {H : Type} {enc : TypeId × Value → H} {W : World} {base : Nat} {spare : Nat → Bool} {held : Bool} {fuel : Nat} {t e : TypeId} {C : Nat} {cs : List Value} {x : DataW H × List MemPlace}
  (ht : Tryz.prog.underlying t = some (.slice e)) (hC : Tryz.prog.cellsOf e = C) (h : DataW.trod enc Tryz.prog W base spare held fuel t cs = some x) :
  ∃ A len cap, cs = [.slice A len cap] ∧ len ≤ cap ∧ cap ≤ maxLen ∧ (A = none → cap = 0) ∧ ∀ a, A = some a → ∀ i, i < len → ∃ n c1 y, c1.length = C ∧ (∀ j, j < C → W.cell? (a.add (i * C + j)) = c1[j]?) ∧ DataW.trod enc Tryz.prog W base spare held n e c1 = some y := by
 rcases DataW.trod_slice ht h with ⟨rfl, _⟩ | ⟨a, len, cap, elems, rest, n, _, rfl, _, _, hl, hm, hlen, hel, _⟩
 ·exact ⟨none, 0, 0, rfl, Nat.le_refl _, by simp [maxLen], fun _ => rfl, fun a h => by cases h⟩
 ·refine ⟨some a, len, cap, rfl, hl, hm, (fun h => by cases h), fun a' ha i hi => ?_⟩
  obtain rfl : a = a' := by injection ha
  have hE := hel i hi
  rw [hC] at hE
  have : ∃ y, elems[i]? = some y := ⟨elems[i], by simp⟩
  obtain ⟨y, hy⟩ := this
  rw [hy] at hE
  obtain ⟨c1, hc1, hy1⟩ := Option.bind_eq_some_iff.1 hE
  obtain ⟨_, hlc, hcell⟩ := World.cells?_some hc1
  refine ⟨n, c1, y, hlc, fun j hj => ?_, hy1⟩
  rw [← hcell j hj, Addr.add_add]
end Go.Proofs.YtfadnkjlilhneaaGreat
