/- Marking the edges of a graph. The objects of the laws over graphs. -/
import Derived.Test.YtfadnkjlilhneaaGreatGrS
import Derived.Test.YtfadnkjlilhneaaGreatFrame
import Derived.Test.YtfadnkjlilhneaaGreatGr
import Derived.Lib.SmallJoins
namespace Go.Proofs.YtfadnkjlilhneaaGreat
set_option maxRecDepth 20000
set_option linter.unusedVariables false
set_option linter.unusedSimpArgs false
open Go.RowKit

theorem ArgE.same {w w' : World} {v : Value} {es : List EdD} (h : ArgE w v es) (hs : ∀ b, b < w.heap.size → w'.heap[b]? = w.heap[b]?) : ArgE w' v es := by
 obtain ⟨A, cap, hv, hc, hm, hn, hr, hx⟩ := h
 refine ⟨A, cap, hv, hc, hm, hn, hr, fun h0 => ?_⟩
 obtain ⟨b, off, hA, hlt, hx⟩ := hx h0
 have hh := hs b hlt
 refine ⟨b, off, hA, ?_, fun k hk => ?_⟩
 ·rw [Array.getElem?_eq_getElem hlt] at hh
  exact lt_of_heap hh
 ·obtain ⟨h1, h2, h3⟩ := hx k hk
  exact ⟨(World.cell?_of_block (w := w) hh).trans h1, (World.cell?_of_block (w := w) hh).trans h2, (World.cell?_of_block (w := w) hh).trans h3⟩
theorem ArgG.same {w w' : World} {v : Value} {g : GrD} (h : ArgG w v g) (hs : ∀ b, b < w.heap.size → w'.heap[b]? = w.heap[b]?) : ArgG w' v g := by
 obtain ⟨s, hv, h1, h2, ha⟩ := h
 exact ⟨s, hv, h1, h2, ha.same hs⟩
theorem ArgG.ob {w : World} {v : Value} {d : GrD} (h : ArgG w v d) : Ob (Kept w fun w => ArgG w v d) 0 w.heap.size w := Kept.ob h
def OE (lo hi : Nat) (v : Value) (es : List EdD) (w : World) : Prop := OwE w lo v es ∧ ∀ b, v.ownBlock = some b → b < hi
theorem OE.loc {lo hi : Nat} {v : Value} {es : List EdD} : Loc (OE lo hi v es) lo hi := by
 intro u u' hu hb
 exact ⟨hu.1.keep fun b hv => hb b (hu.1.1.lt b hv).1 (hu.2 b hv), hu.2⟩
theorem OwE.ob {w : World} {lo : Nat} {v : Value} {es : List EdD} (h : OwE w lo v es) : Ob (OE lo w.heap.size v es) lo w.heap.size w :=
 ⟨⟨h, fun b hb => (h.1.lt b hb).2⟩, OE.loc, Nat.le_refl _⟩
def OG (lo hi : Nat) (v : Value) (d : GrD) (w : World) : Prop := ∃ s, v = .agg #[.int .i64 d.1, .int .i64 d.2.1, s] ∧ I64 d.1 ∧ I64 d.2.1 ∧ OE lo hi s d.2.2 w
theorem OG.arg {lo hi : Nat} {v : Value} {d : GrD} {w : World} (h : OG lo hi v d w) : ArgG w v d := by
 obtain ⟨s, hv, h1, h2, ho⟩ := h
 exact ⟨s, hv, h1, h2, ho.1.arg⟩
theorem OG.own {lo hi : Nat} {v : Value} {d : GrD} {w : World} (h : OG lo hi v d w) : OwG w lo v d := by
 obtain ⟨s, hv, h1, h2, ho⟩ := h
 exact ⟨s, hv, h1, h2, ho.1⟩
theorem OG.loc {lo hi : Nat} {v : Value} {d : GrD} : Loc (OG lo hi v d) lo hi := by
 intro u u' hu hb
 obtain ⟨s, hv, h1, h2, ho⟩ := hu
 exact ⟨s, hv, h1, h2, OE.loc u u' ho hb⟩
theorem OwG.ob {w : World} {lo : Nat} {v : Value} {d : GrD} (h : OwG w lo v d) : Ob (OG lo w.heap.size v d) lo w.heap.size w := by
 obtain ⟨s, hv, h1, h2, ho⟩ := h
 exact ⟨⟨s, hv, h1, h2, ho.ob.holds⟩, OG.loc, Nat.le_refl _⟩
theorem toGraph_ob (v : Value) (d : GrD) (w : World) {w0 : World} (h : Kept w0 (fun w => ArgG w v d) w) (hl : d.2.2.length ≤ 1048576) :
  Calls Tryz.prog 9 #[v] w fun e w' => ∃ r, e = .returned r ∧ Ob (OG w.heap.size w'.heap.size r d) w.heap.size w'.heap.size w' ∧ Tr 0 0 w w' :=
 (toGraph_any v d w (h.1.same h.2) hl).mono fun _ _ ⟨r, he, ho, hb⟩ => ⟨r, he, ho.ob, Tr.below hb⟩
theorem szGraph_ob (v : Value) (g : GrD) (k : Int) (w : World) {w0 : World} (h : Kept w0 (fun w => ArgG w v g) w) (hk : 0 ≤ k) (hk' : k ≤ 1048576) :
  Calls Tryz.prog 7 #[v, .int .i64 k] w fun e w' => e = .returned (.int .i64 (if k - g.2.2.length < 0 then -1 else k - g.2.2.length)) ∧ Below w.heap.size w w' :=
 szGraph_any v g k w (h.1.same h.2) hk hk'
theorem eqGraph_ob (v u : Value) (d d' : GrD) (w : World) {lo hi lo' hi' : Nat} (h : OG lo hi v d w) (h' : OG lo' hi' u d' w) :
  Calls Tryz.prog 12 #[v, u] w fun e w' => e = .returned (.bool (decide (d = d'))) ∧ Tr 0 0 w w' :=
 (eqGraph_any v u d d' w h.arg h'.arg).mono fun _ _ ⟨he, hb⟩ => ⟨he, Tr.below hb⟩
section
open Go.ChangeShapes Go.WideShapes Go.ChangeAt Go.RowKit Go.Joins
theorem graphCells : Tryz.prog.cellsOf 24 = 3 := by kernel_rfl
theorem edgeCells : Tryz.prog.cellsOf 76 = 3 := by kernel_rfl
theorem edge_of_trod {H : Type} {enc : TypeId × Value → H} {W : World} {base : Nat} {spare : Nat → Bool} {held : Bool} {fuel : Nat} {cs : List Value} {y : DataW H × List MemPlace}
  (hf : DataW.trod enc Tryz.prog W base spare held fuel 76 cs = some y) : ∃ e : EdD, cs = edC e ∧ E64 e := by
 obtain ⟨y0, y1, y2, n, _, hl, h0, h1, h2⟩ := Go.Deep.trod_struct3 Tryz.underlying76 hf
 rw [edgeCells] at hl
 match cs, hl with
 | [c0, c1, c2], _ =>
   have hi : Tryz.prog.cellsOf 3 = 1 := by kernel_rfl
   simp [hi] at h0 h1 h2
   obtain ⟨a, e0, _, w0⟩ := DataW.trod_int Tryz.underlying3 h0
   obtain ⟨b, e1, _, w1⟩ := DataW.trod_int Tryz.underlying3 h1
   obtain ⟨c, e2, _, w2⟩ := DataW.trod_int Tryz.underlying3 h2
   simp at e0 e1 e2
   subst e0 e1 e2
   exact ⟨(a, b, c), rfl, wf_I64 w0, wf_I64 w1, wf_I64 w2⟩
theorem edges_of_trod {H : Type} {enc : TypeId × Value → H} {W : World} {base : Nat} {spare : Nat → Bool} {held : Bool} {fuel : Nat} {v : Value} {y : DataW H × List MemPlace}
  (hf : DataW.trod enc Tryz.prog W base spare held fuel 22 [v] = some y) : ∃ es, ArgE W v es := by
 obtain ⟨A, len, cap, hv, hl, hm, hn, hel⟩ := open_elems Tryz.underlying22 edgeCells hf
 simp at hv
 subst hv
 cases A with
 | none => exact ⟨[], none, cap, by have := hn rfl; simp; omega, by simp, hm, hn, E64s_nil, fun h => absurd h (by simp)⟩
 | some a =>
   have each : ∀ i, ∃ e : EdD, i < len → E64 e ∧ ∀ j, j < 3 → W.cell? (a.add (i * 3 + j)) = (edC e)[j]? := by
    intro i
    by_cases hi : i < len
    ·obtain ⟨n, c1, y1, _, hc, hy⟩ := hel a rfl i hi
     obtain ⟨e, rfl, h64⟩ := edge_of_trod hy
     exact ⟨e, fun _ => ⟨h64, hc⟩⟩
    ·exact ⟨(0, 0, 0), fun h => absurd h hi⟩
   obtain ⟨f, hf'⟩ : ∃ f : Nat → EdD, ∀ i, i < len → E64 (f i) ∧ ∀ j, j < 3 → W.cell? (a.add (i * 3 + j)) = (edC (f i))[j]? := ⟨fun i => (each i).choose, fun i => (each i).choose_spec⟩
   refine ⟨(List.range len).map f, some a, cap, by simp, by simpa using hl, hm, (fun h => by cases h), fun e he => ?_, fun h0 => ?_⟩
   ·obtain ⟨i, hi, rfl⟩ := List.mem_map.1 he
    exact (hf' i (by simpa using hi)).1
   ·simp at h0
    obtain ⟨b, off, sp⟩ := a
    have hc0 := (hf' 0 h0).2 0 (by omega)
    have hsp : sp = none := by simpa [Addr.add] using World.cell?_spot hc0
    subst hsp
    refine ⟨b, off, rfl, by have := World.block_lt_of_cell? W _ hc0; simpa [Addr.add] using this, fun k hk => ?_⟩
    simp at hk
    have hk' := (hf' k hk).2
    have d0 := hk' 0 (by omega); have d1 := hk' 1 (by omega); have d2 := hk' 2 (by omega)
    rw [Addr.add_lit] at d0 d1 d2
    simp only [edC, List.getElem?_cons_zero, List.getElem?_cons_succ] at d0 d1 d2
    simp only [List.getElem_map, List.getElem_range]
    exact ⟨by simpa using d0, by rw [← Nat.add_assoc] at d1; exact d1, by rw [← Nat.add_assoc] at d2; exact d2⟩
theorem open_argG {H : Type} {enc : TypeId × Value → H} {W : World} {base : Nat} {spare : Nat → Bool} {held : Bool} {v : Value} {d : DataW H} {p : List MemPlace}
  (hv : Value.okWide Tryz.prog W .any base 24 v) (h : DataW.Trod enc Tryz.prog W 0 spare held 24 v d p) : ∃ x, ArgG W v x := by
 obtain ⟨c0, c1, c2, y0, y1, y2, m, rfl, rfl, rfl, hy0, hy1, hy2⟩ := open_agg3 Tryz.underlying24 (by kernel_rfl) graphCells hv h
 obtain ⟨a, e0, _, w0⟩ := DataW.trod_int Tryz.underlying3 hy0
 obtain ⟨b, e1, _, w1⟩ := DataW.trod_int Tryz.underlying3 hy1
 simp at e0 e1
 subst e0 e1
 obtain ⟨es, hE⟩ := edges_of_trod hy2
 exact ⟨(a, b, es), c2, rfl, wf_I64 w0, wf_I64 w1, hE⟩
end
end Go.Proofs.YtfadnkjlilhneaaGreat
