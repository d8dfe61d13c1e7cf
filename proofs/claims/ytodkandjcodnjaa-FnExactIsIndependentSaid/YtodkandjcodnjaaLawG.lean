/- The objects of the laws over graphs. -/
import Derived.Test.YtodkandjcodnjaaGrL
namespace Go.Proofs.Ytodkandjcodnjaa
set_option maxRecDepth 20000
set_option linter.unusedVariables false
set_option linter.unusedSimpArgs false
open Go.RowKit

theorem ArgE.same {w w' : World} {v : Value} {es : List EdD} (h : ArgE w v es) (hs : ∀ b, b < w.heap.size → w'.heap[b]? = w.heap[b]?) : ArgE w' v es := by
  obtain ⟨A, cap, hv, hc, hm, hn, hr, hx⟩ := h
  refine ⟨A, cap, hv, hc, hm, hn, hr, fun h0 => ?_⟩
  obtain ⟨b, off, hA, hlt, hx⟩ := hx h0
  have hh := hs b hlt
  refine ⟨b, off, hA, ?_, fun k hk => ?_⟩
  · rw [Array.getElem?_eq_getElem hlt] at hh
    exact lt_of_heap hh
  · obtain ⟨h1, h2, h3⟩ := hx k hk
    exact ⟨(World.cell?_of_block (w := w) hh).trans h1, (World.cell?_of_block (w := w) hh).trans h2, (World.cell?_of_block (w := w) hh).trans h3⟩
theorem ArgG.same {w w' : World} {v : Value} {g : GrD} (h : ArgG w v g) (hs : ∀ b, b < w.heap.size → w'.heap[b]? = w.heap[b]?) : ArgG w' v g := by
  obtain ⟨s, hv, h1, h2, ha⟩ := h
  exact ⟨s, hv, h1, h2, ha.same hs⟩
theorem ArgG.ob {w : World} {v : Value} {d : GrD} (h : ArgG w v d) : Ob (Kept w fun w => ArgG w v d) 0 w.heap.size w := Kept.ob h
def OE (lo hi : Nat) (v : Value) (es : List EdD) (w : World) : Prop := OwE w lo v es ∧ ∀ b, v.ownBlock = some b → b < hi
theorem OE.loc {lo hi : Nat} {v : Value} {es : List EdD} : Loc (OE lo hi v es) lo hi := by
  intro u u' hu hb
  exact ⟨hu.1.keep fun b hv => hb b (hu.1.1.lt b hv).1 (hu.2 b hv), hu.2⟩
theorem OwE.ob {w : World} {lo : Nat} {v : Value} {es : List EdD} (h : OwE w lo v es) : Ob (OE lo w.heap.size v es) lo w.heap.size w :=
  ⟨⟨h, fun b hb => (h.1.lt b hb).2⟩, OE.loc, Nat.le_refl _⟩
def OG (lo hi : Nat) (v : Value) (d : GrD) (w : World) : Prop := ∃ s, v = .agg #[.int .i64 d.1, .int .i64 d.2.1, s] ∧ I64 d.1 ∧ I64 d.2.1 ∧ OE lo hi s d.2.2 w
theorem OG.arg {lo hi : Nat} {v : Value} {d : GrD} {w : World} (h : OG lo hi v d w) : ArgG w v d := by
  obtain ⟨s, hv, h1, h2, ho⟩ := h
  exact ⟨s, hv, h1, h2, ho.1.arg⟩
theorem OG.own {lo hi : Nat} {v : Value} {d : GrD} {w : World} (h : OG lo hi v d w) : OwG w lo v d := by
  obtain ⟨s, hv, h1, h2, ho⟩ := h
  exact ⟨s, hv, h1, h2, ho.1⟩
theorem OG.loc {lo hi : Nat} {v : Value} {d : GrD} : Loc (OG lo hi v d) lo hi := by
  intro u u' hu hb
  obtain ⟨s, hv, h1, h2, ho⟩ := hu
  exact ⟨s, hv, h1, h2, OE.loc u u' ho hb⟩
theorem OwG.ob {w : World} {lo : Nat} {v : Value} {d : GrD} (h : OwG w lo v d) : Ob (OG lo w.heap.size v d) lo w.heap.size w := by
  obtain ⟨s, hv, h1, h2, ho⟩ := h
  exact ⟨⟨s, hv, h1, h2, ho.ob.holds⟩, OG.loc, Nat.le_refl _⟩
theorem toGraph_ob (v : Value) (d : GrD) (w : World) {w0 : World} (h : Kept w0 (fun w => ArgG w v d) w) (hl : d.2.2.length ≤ 1048576) :
    Calls Try.prog 14 #[v] w fun e w' => ∃ r, e = .returned r ∧ Ob (OG w.heap.size w'.heap.size r d) w.heap.size w'.heap.size w' ∧ Tr 0 0 w w' :=
  (toGraph_any v d w (h.1.same h.2) hl).mono fun _ _ ⟨r, he, ho, hb⟩ => ⟨r, he, ho.ob, Tr.below hb⟩
theorem szGraph_ob (v : Value) (g : GrD) (k : Int) (w : World) {w0 : World} (h : Kept w0 (fun w => ArgG w v g) w) (hk : 0 ≤ k) (hk' : k ≤ 1048576) :
    Calls Try.prog 12 #[v, .int .i64 k] w fun e w' => e = .returned (.int .i64 (if k - g.2.2.length < 0 then -1 else k - g.2.2.length)) ∧ Below w.heap.size w w' :=
  szGraph_any v g k w (h.1.same h.2) hk hk'
theorem eqGraph_ob (v u : Value) (d d' : GrD) (w : World) {lo hi lo' hi' : Nat} (h : OG lo hi v d w) (h' : OG lo' hi' u d' w) :
    Calls Try.prog 16 #[v, u] w fun e w' => e = .returned (.bool (decide (d = d'))) ∧ Tr 0 0 w w' :=
  (eqGraph_any v u d d' w h.arg h'.arg).mono fun _ _ ⟨he, hb⟩ => ⟨he, Tr.below hb⟩
end Go.Proofs.Ytodkandjcodnjaa
