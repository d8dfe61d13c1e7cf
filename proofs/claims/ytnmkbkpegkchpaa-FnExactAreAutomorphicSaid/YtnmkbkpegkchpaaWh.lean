/- The helpers of the laws over Whitehead automorphisms. -/
import Derived.Test.YtnmkbkpegkchpaaLaw
import Derived.Deep.RegionHeld3
namespace Go.Proofs.Ytnmkbkpegkchpaa
set_option maxRecDepth 20000
set_option linter.unusedVariables false
set_option linter.unusedSimpArgs false
open Go.RowKit

abbrev WhD := Int × List Int
def ArgWh (w : World) (v : Value) (d : WhD) : Prop := ∃ s, v = .agg #[.int .i64 d.1, s] ∧ I64 d.1 ∧ ArgI w s d.2
def OwWh (w : World) (base : Nat) (v : Value) (d : WhD) : Prop := ∃ s, v = .agg #[.int .i64 d.1, s] ∧ I64 d.1 ∧ OwI w base s d.2



/-! ## The objects of the laws -/
theorem ArgWh.ob {w : World} {v : Value} {d : WhD} (h : ArgWh w v d) : Ob (fun w => ArgWh w v d) 0 w.heap.size w := by
  refine ⟨h, ?_, Nat.le_refl _⟩
  intro u u' hu hb
  obtain ⟨s, hv, hd, ha⟩ := h
  obtain ⟨s', hv', hd', ha'⟩ := hu
  have : s = s' := by rw [hv] at hv'; injection hv' with e; simpa using e
  subst this
  exact ⟨s, hv, hd, ha.loc u u' ha' hb⟩
theorem ArgWh.below {w w' : World} {v : Value} {d : WhD} (h : ArgWh w v d) (hb : Below w.heap.size w w') : ArgWh w' v d := by
  obtain ⟨s, hv, hd, ha⟩ := h
  exact ⟨s, hv, hd, ha.below hb⟩
def OWh (lo hi : Nat) (v : Value) (d : WhD) (w : World) : Prop := ∃ s, v = .agg #[.int .i64 d.1, s] ∧ I64 d.1 ∧ OI lo hi s d.2 w
theorem OWh.arg {lo hi : Nat} {v : Value} {d : WhD} {w : World} (h : OWh lo hi v d w) : ArgWh w v d := by
  obtain ⟨s, hv, hd, ho⟩ := h
  exact ⟨s, hv, hd, ho.1.arg⟩
theorem OWh.own {lo hi : Nat} {v : Value} {d : WhD} {w : World} (h : OWh lo hi v d w) : OwWh w lo v d := by
  obtain ⟨s, hv, hd, ho⟩ := h
  exact ⟨s, hv, hd, ho.1⟩
theorem OwWh.ob {w : World} {lo : Nat} {v : Value} {d : WhD} (h : OwWh w lo v d) : Ob (OWh lo w.heap.size v d) lo w.heap.size w := by
  obtain ⟨s, hv, hd, ho⟩ := h
  have hob := ho.ob
  refine ⟨⟨s, hv, hd, hob.holds⟩, ?_, Nat.le_refl _⟩
  intro u u' hu hb
  obtain ⟨s', hv', hd', ho'⟩ := hu
  have : s = s' := by rw [hv] at hv'; injection hv' with e; simpa using e
  subst this
  exact ⟨s, hv', hd', hob.loc u u' ho' hb⟩
end Go.Proofs.Ytnmkbkpegkchpaa
