/- What the rows' frames share: a slice of ints that came in, as the walk is told of it. -/
import Derived.Test.YtjmjhhdjlompfaaBase
import Derived.ProofKit
import Derived.OpenShut
import Derived.ShutString
import Derived.ChangeOld
namespace Go.Proofs.Ytjmjhhdjlompfaa
set_option maxRecDepth 20000
set_option linter.unusedVariables false
set_option linter.unusedSimpArgs false
open Go.ChangeShapes Go.WideShapes Go.ChangeAt Go.RowKit

theorem laidOut : laidOutB Try.prog = true := by kernel_rfl
theorem own : ownKnob Try.prog.godebug = none := by kernel_rfl

theorem wf_I64 {n : Int} (h : (Lit.int .i64 n).wf = true) : I64 n := by
  unfold I64; simpa [Lit.wf, IntKind.min, IntKind.max, IntKind.signed, IntKind.bits] using h

/-- Cells that read as a slice of ints. -/
theorem ints_of_trod {H : Type} {enc : TypeId × Value → H} {W : World} {base : Nat} {spare : Nat → Bool} {held : Bool} {fuel : Nat} {v : Value} {y : DataW H × List MemPlace}
    (hf : DataW.trod enc Try.prog W base spare held fuel 30 [v] = some y) : ∃ xs, ArgI W v xs := by
  rcases open_ints Try.underlying30 Try.underlying3 (by kernel_rfl) hf with ⟨hcs, _⟩ | ⟨x, l, c, zs, hcs, _, hl, hm, hz, _, hcell, hwz⟩
  · simp at hcs
    subst hcs
    exact ⟨[], none, 0, rfl, by simp, by simp [maxLen], I64s_nil, by simp⟩
  · simp at hcs
    subst hcs
    have hlz : l ≤ zs.length := by rw [hz]; split <;> omega
    have hlen : (zs.take l).length = l := by simp; omega
    refine ⟨zs.take l, _, c, by rw [hlen], by omega, hm, fun n hn => wf_I64 (hwz n (List.mem_of_mem_take hn)), fun h0 => ?_⟩
    obtain ⟨b, off, sp⟩ := x
    have hsp : sp = none := by simpa [Addr.add] using World.cell?_spot (hcell 0 (by omega))
    subst hsp
    refine ⟨b, off, rfl, fun i hi => ?_⟩
    have := hcell i (by omega)
    rw [Addr.add_lit] at this
    rw [this]
    simp [List.getD, show i < zs.length by omega]
/-- An argument of type []int, opened. -/
theorem open_argI {H : Type} {enc : TypeId × Value → H} {W : World} {base : Nat} {spare : Nat → Bool} {held : Bool} {v : Value} {d : DataW H} {p : List MemPlace}
    (hv : Value.okWide Try.prog W .any base 30 v) (h : DataW.Trod enc Try.prog W 0 spare held 30 v d p) : ∃ xs, ArgI W v xs := by
  obtain ⟨a, len, cap, rfl⟩ := okWide_slice Try.underlying30 hv
  obtain ⟨fuel, hf⟩ := h
  exact ints_of_trod (by simpa [Value.cells] using hf)
/-- Cells that read as a slice: each element's cells, with their reading. -/
theorem open_elems {H : Type} {enc : TypeId × Value → H} {W : World} {base : Nat} {spare : Nat → Bool} {held : Bool} {fuel : Nat} {t e : TypeId} {C : Nat} {cs : List Value} {x : DataW H × List MemPlace}
    (ht : Try.prog.underlying t = some (.slice e)) (hC : Try.prog.cellsOf e = C) (h : DataW.trod enc Try.prog W base spare held fuel t cs = some x) :
    ∃ A len cap, cs = [.slice A len cap] ∧ len ≤ cap ∧ cap ≤ maxLen ∧ (A = none → cap = 0) ∧ ∀ a, A = some a → ∀ i, i < len → ∃ n c1 y, c1.length = C ∧ (∀ j, j < C → W.cell? (a.add (i * C + j)) = c1[j]?) ∧ DataW.trod enc Try.prog W base spare held n e c1 = some y := by
  rcases DataW.trod_slice ht h with ⟨rfl, _⟩ | ⟨a, len, cap, elems, rest, n, _, rfl, _, _, hl, hm, hlen, hel, _⟩
  · exact ⟨none, 0, 0, rfl, Nat.le_refl _, by simp [maxLen], fun _ => rfl, fun a h => by cases h⟩
  · refine ⟨some a, len, cap, rfl, hl, hm, (fun h => by cases h), fun a' ha i hi => ?_⟩
    obtain rfl : a = a' := by injection ha
    have hE := hel i hi
    rw [hC] at hE
    have : ∃ y, elems[i]? = some y := ⟨elems[i], by simp⟩
    obtain ⟨y, hy⟩ := this
    rw [hy] at hE
    obtain ⟨c1, hc1, hy1⟩ := Option.bind_eq_some_iff.1 hE
    obtain ⟨_, hlc, hcell⟩ := World.cells?_some hc1
    refine ⟨n, c1, y, hlc, fun j hj => ?_, hy1⟩
    rw [← hcell j hj, Addr.add_add]
end Go.Proofs.Ytjmjhhdjlompfaa
