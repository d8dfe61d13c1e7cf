/- The objects of the laws over lists of graphs. -/
import Derived.Test.YtgifhaadfmomcaaGreatMarkG
import Derived.Test.YtgifhaadfmomcaaGreatGrS
namespace Go.Proofs.YtgifhaadfmomcaaGreat
set_option maxRecDepth 20000
set_option linter.unusedVariables false
set_option linter.unusedSimpArgs false
open Go.RowKit
theorem ArgGS.same {w w' : World} {v : Value} {ds : List GrD} (h : ArgGS w v ds) (hs : ∀ b, b < w.heap.size → w'.heap[b]? = w.heap[b]?) : ArgGS w' v ds := by
  obtain ⟨A, cap, hv, hc, hm, hx⟩ := h
  refine ⟨A, cap, hv, hc, hm, fun h0 => ?_⟩
  obtain ⟨b, off, hA, hlt, hx⟩ := hx h0
  have hh := hs b hlt
  refine ⟨b, off, hA, ?_, fun k hk => ?_⟩
  · rw [Array.getElem?_eq_getElem hlt] at hh
    exact lt_of_heap hh
  · obtain ⟨s, h1, h2, h3, h4⟩ := hx k hk
    exact ⟨s, (World.cell?_of_block (w := w) hh).trans h1, (World.cell?_of_block (w := w) hh).trans h2, (World.cell?_of_block (w := w) hh).trans h3, h4.same hs⟩
theorem ArgGS.ob {w : World} {v : Value} {ds : List GrD} (h : ArgGS w v ds) : Ob (Kept w fun w => ArgGS w v ds) 0 w.heap.size w := Kept.ob h
theorem eqGraphS_ob (v u : Value) (ds ds' : List GrD) (w : World) {lo hi lo' hi' : Nat} (h : Ob (OGS lo hi v ds) lo hi w) (h' : Ob (OGS lo' hi' u ds') lo' hi' w) :
    Calls Tryz.prog 10 #[v, u] w fun e w' => e = .returned (.bool (decide (ds = ds'))) ∧ Tr 0 0 w w' :=
  (eqGraphS_any v u ds ds' w h.holds.arg h'.holds.arg).mono fun _ _ ⟨he, hb⟩ => ⟨he, Tr.below hb⟩
end Go.Proofs.YtgifhaadfmomcaaGreat
