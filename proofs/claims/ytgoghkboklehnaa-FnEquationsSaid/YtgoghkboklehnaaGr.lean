/- Graphs in memory: rows of edges, what they read as, what a call alone holds. -/
import Derived.Test.YtgoghkboklehnaaLaw
import Derived.Deep.RegionHeld3
import Derived.Outline
namespace Go.Proofs.Ytgoghkboklehnaa
set_option maxRecDepth 20000
set_option linter.unusedVariables false
set_option linter.unusedSimpArgs false
open Go.RowKit

/-- An edge: from, letter, to. A graph: rank, size, edges. -/
abbrev EdD := Int × Int × Int
abbrev GrD := Int × Int × List EdD
def edC (e : EdD) : List Value := [.int .i64 e.1, .int .i64 e.2.1, .int .i64 e.2.2]
def edCs (es : List EdD) : List Value := (es.map edC).flatten
def E64 (e : EdD) : Prop := I64 e.1 ∧ I64 e.2.1 ∧ I64 e.2.2
abbrev E64s (es : List EdD) : Prop := ∀ e ∈ es, E64 e
theorem E64s_nil : E64s [] := fun _ h => by cases h
theorem E64s_append {a b : List EdD} (ha : E64s a) (hb : E64s b) : E64s (a ++ b) := fun e he => by
  rcases List.mem_append.1 he with he | he
  · exact ha e he
  · exact hb e he
theorem E64s_one {e : EdD} (h : E64 e) : E64s [e] := fun x hx => by simp at hx; subst hx; exact h
theorem edCs_cons (e : EdD) (es : List EdD) : edCs (e :: es) = edC e ++ edCs es := by simp [edCs]
theorem edCs_append (a b : List EdD) : edCs (a ++ b) = edCs a ++ edCs b := by simp [edCs]
theorem edCs_length (es : List EdD) : (edCs es).length = es.length * 3 := by
  induction es with
  | nil => rfl
  | cons e es ih => rw [edCs_cons]; simp [edC, ih]; omega
theorem edCs_get (es : List EdD) (k j : Nat) (hk : k < es.length) (hj : j < 3) : (edCs es)[k * 3 + j]? = (edC es[k])[j]? := by
  induction es generalizing k with
  | nil => cases hk
  | cons e es ih =>
    rw [edCs_cons]
    match k with
    | 0 => rw [List.getElem?_append_left (by simp [edC]; omega)]; simp
    | k + 1 =>
      rw [List.getElem?_append_right (by simp [edC]; omega)]
      have : (k + 1) * 3 + j - (edC e).length = k * 3 + j := by simp [edC]; omega
      rw [this, ih k (by simpa using hk)]
      rfl
theorem edCs_one {es : List EdD} {v : Value} (h : v ∈ edCs es) : v.oneCell' = true := by
  unfold edCs at h
  obtain ⟨l, hl, hv⟩ := List.mem_flatten.1 h
  obtain ⟨e, _, rfl⟩ := List.mem_map.1 hl
  simp [edC] at hv
  rcases hv with rfl | rfl | rfl <;> rfl

/-- A slice of edges known by its cells. -/
def ArgE (w : World) (v : Value) (es : List EdD) : Prop :=
  ∃ A cap, v = .slice A es.length cap ∧ es.length ≤ cap ∧ cap ≤ maxLen ∧ (A = none → cap = 0) ∧ E64s es ∧
    (0 < es.length → ∃ b off, A = some ⟨b, off, none⟩ ∧ b < w.heap.size ∧ ∀ k (hk : k < es.length), w.cell? ⟨b, off + k * 3, none⟩ = some (.int .i64 es[k].1) ∧ w.cell? ⟨b, off + k * 3 + 1, none⟩ = some (.int .i64 es[k].2.1) ∧ w.cell? ⟨b, off + k * 3 + 2, none⟩ = some (.int .i64 es[k].2.2))
def OwE (w : World) (base : Nat) (v : Value) (es : List EdD) : Prop := w.ownsRow base 79 3 v es.length (edCs es) ∧ E64s es
def ArgG (w : World) (v : Value) (g : GrD) : Prop := ∃ s, v = .agg #[.int .i64 g.1, .int .i64 g.2.1, s] ∧ I64 g.1 ∧ I64 g.2.1 ∧ ArgE w s g.2.2
def OwG (w : World) (base : Nat) (v : Value) (g : GrD) : Prop := ∃ s, v = .agg #[.int .i64 g.1, .int .i64 g.2.1, s] ∧ I64 g.1 ∧ I64 g.2.1 ∧ OwE w base s g.2.2

section
variable {w w' : World} {v : Value} {es : List EdD} {g : GrD} {base : Nat}
theorem ArgE.below (h : ArgE w v es) (hb : Below w.heap.size w w') : ArgE w' v es := by
  obtain ⟨A, cap, hv, hc, hm, hn, hr, hx⟩ := h
  refine ⟨A, cap, hv, hc, hm, hn, hr, fun h0 => ?_⟩
  obtain ⟨b, off, hA, hlt, hx⟩ := hx h0
  have := hb.size
  refine ⟨b, off, hA, by omega, fun k hk => ?_⟩
  obtain ⟨h1, h2, h3⟩ := hx k hk
  exact ⟨(hb.cell (p := ⟨b, _, none⟩) hlt).trans h1, (hb.cell (p := ⟨b, _, none⟩) hlt).trans h2, (hb.cell (p := ⟨b, _, none⟩) hlt).trans h3⟩
theorem ArgE.drewN (h : ArgE w v es) (k : Nat) : ArgE (w.drewN k) v es := h
theorem ArgE.drew (h : ArgE w v es) : ArgE w.drew v es := h
theorem ArgE.alloc (h : ArgE w v es) (o : Obj) : ArgE (w.alloc o) v es := h.below ((Below.refl _ _).alloc (Nat.le_refl _) _)
theorem ArgE.grown {row : Option Nat} (h : ArgE w v es) (hg : w.grownBy w' row) (hne : ∀ b, v.ownBlock = some b → row = some b → False) : ArgE w' v es := by
  obtain ⟨A, cap, hv, hc, hm, hn, hr, hx⟩ := h
  refine ⟨A, cap, hv, hc, hm, hn, hr, fun h0 => ?_⟩
  obtain ⟨b, off, hA, hlt, hx⟩ := hx h0
  have hh : w'.heap[b]? = w.heap[b]? := hg.block b hlt fun e => hne b (by rw [hv, hA]; rfl) e.symm
  have := hg.size
  refine ⟨b, off, hA, by omega, fun k hk => ?_⟩
  obtain ⟨h1, h2, h3⟩ := hx k hk
  exact ⟨(World.cell?_of_block (w := w) hh).trans h1, (World.cell?_of_block (w := w) hh).trans h2, (World.cell?_of_block (w := w) hh).trans h3⟩
theorem ArgE.form (h : ArgE w v es) : ∃ A cap, v = .slice A es.length cap := by
  obtain ⟨A, cap, hv, _⟩ := h
  exact ⟨A, cap, hv⟩
theorem ArgE.at {A : Option Addr} {m cap : Nat} (h : ArgE w (.slice A m cap) es) {k : Nat} (hk : k < es.length) :
    ∃ b off, A = some ⟨b, off, none⟩ ∧ b < w.heap.size ∧ w.cell? ⟨b, off + k * 3, none⟩ = some (.int .i64 es[k].1) ∧ w.cell? ⟨b, off + k * 3 + 1, none⟩ = some (.int .i64 es[k].2.1) ∧ w.cell? ⟨b, off + k * 3 + 2, none⟩ = some (.int .i64 es[k].2.2) ∧ E64 es[k] := by
  obtain ⟨A', cap', hv, hc, hm, hn, hr, hx⟩ := h
  obtain ⟨b, off, hA, hlt, hx⟩ := hx (by omega)
  injection hv with e1 e2 e3
  obtain ⟨h1, h2, h3⟩ := hx k hk
  exact ⟨b, off, e1.trans hA, hlt, h1, h2, h3, hr _ (by simp)⟩
theorem OwE.arg (h : OwE w base v es) : ArgE w v es := by
  obtain ⟨ho, hr⟩ := h
  obtain ⟨A, cap, hv, hc, hm, hn, hx⟩ := owns_form ho
  refine ⟨A, cap, hv, hc, hm, hn, hr, fun h0 => ?_⟩
  obtain ⟨g, hA, hg1, hg2⟩ := hx h0
  subst hv hA
  refine ⟨g, 0, rfl, hg2, fun k hk => ?_⟩
  have c := fun j (hj : j < 3) => ho.cellAt (k * 3 + j) (by omega)
  have c0 := c 0 (by omega); have c1 := c 1 (by omega); have c2 := c 2 (by omega)
  rw [edCs_get es k _ hk (by omega)] at c0 c1 c2
  simp only [edC, List.getElem?_cons_zero, List.getElem?_cons_succ, Nat.add_zero] at c0 c1 c2
  simp only [Nat.zero_add]
  exact ⟨c0, c1, c2⟩
theorem OwE.mono {base' : Nat} (h : OwE w base v es) (hb : base' ≤ base) : OwE w base' v es := by
  refine ⟨⟨h.1.1, ?_⟩, h.2⟩
  rcases h.1.2 with h0 | ⟨g, cap, cur, hv, hg, r⟩
  · exact .inl h0
  · exact .inr ⟨g, cap, cur, hv, Nat.le_trans hb hg, r⟩
theorem OwE.below (h : OwE w base v es) (hb : Below w.heap.size w w') : OwE w' base v es := ⟨ownsRow_below h.1 hb, h.2⟩
theorem OwE.drewN (h : OwE w base v es) (k : Nat) : OwE (w.drewN k) base v es := h
theorem OwE.drew (h : OwE w base v es) : OwE w.drew base v es := h
theorem OwE.alloc (h : OwE w base v es) (o : Obj) : OwE (w.alloc o) base v es := ⟨h.1.alloc o, h.2⟩
theorem OwE.far (h : OwE w base v es) {p : Addr} (hp : p.block < base) (u : Value) : OwE (w.setCell p u) base v es := ⟨ownsRow_setCell_below h.1 hp u, h.2⟩
theorem OwE.form (h : OwE w base v es) : ∃ A cap, v = .slice A es.length cap ∧ es.length ≤ cap ∧ cap ≤ maxLen ∧ (A = none → cap = 0) ∧ (0 < es.length → ∃ g, A = some ⟨g, 0, none⟩ ∧ base ≤ g ∧ g < w.heap.size) := owns_form h.1
theorem OwE.keep (h : OwE w base v es) (hb : ∀ b, v.ownBlock = some b → w'.heap[b]? = w.heap[b]?) : OwE w' base v es := by
  refine ⟨⟨h.1.1, ?_⟩, h.2⟩
  rcases h.1.2 with h0 | ⟨g, cap, cur, hv, hg, hh, r⟩
  · exact .inl h0
  · exact .inr ⟨g, cap, cur, hv, hg, by rw [hb g (by rw [hv]; rfl)]; exact hh, r⟩
theorem OwE.nil : OwE w base (.slice none 0 0) [] := ⟨⟨rfl, .inl ⟨rfl, rfl⟩⟩, E64s_nil⟩
theorem OwE_lit (w : World) {base : Nat} (hb : base ≤ w.heap.size) : OwE (w.alloc (.cells #[] 79)) base (.slice (some ⟨w.heap.size, 0, none⟩) 0 0) [] :=
  ⟨by have := World.ownsRow_lit (e := 79) (size := 3) (base := base) w #[] 0 hb (by unfold maxLen; omega) (by simp); simpa [edCs] using this, E64s_nil⟩
/-- 'l[k:]' of a row of edges. -/
theorem ArgE.cut {A : Option Addr} {m cap k : Nat} (h : ArgE w (.slice A m cap) es) (hk : k ≤ es.length) : ArgE w (.slice (if cap = k then A else A.map (·.add (k * 3))) (es.length - k) (cap - k)) (es.drop k) := by
  obtain ⟨A', cap', hv, hc, hm, hn, hr, hx⟩ := h
  injection hv with e1 e2 e3
  subst e1 e2 e3
  refine ⟨_, _, by rw [List.length_drop], by simp; omega, by omega, ?_, fun x hx => hr x (List.mem_of_mem_drop hx), fun h0 => ?_⟩
  · split
    · intro _; omega
    · intro hA
      cases A with
      | none => have := hn rfl; omega
      | some a => cases hA
  · simp at h0
    obtain ⟨b, off, rfl, hlt, hx⟩ := hx (by omega)
    rw [if_neg (by omega)]
    refine ⟨b, off + k * 3, by simp [Addr.add_lit], hlt, fun j hj => ?_⟩
    simp only [List.length_drop] at hj
    have := hx (k + j) (by omega)
    rw [List.getElem_drop]
    have e : off + k * 3 + j * 3 = off + (k + j) * 3 := by omega
    rw [e]
    exact this
theorem ArgG.below (h : ArgG w v g) (hb : Below w.heap.size w w') : ArgG w' v g := by
  obtain ⟨s, hv, h1, h2, ha⟩ := h
  exact ⟨s, hv, h1, h2, ha.below hb⟩
theorem OwG.arg (h : OwG w base v g) : ArgG w v g := by
  obtain ⟨s, hv, h1, h2, ha⟩ := h
  exact ⟨s, hv, h1, h2, ha.arg⟩
theorem OwG.below (h : OwG w base v g) (hb : Below w.heap.size w w') : OwG w' base v g := by
  obtain ⟨s, hv, h1, h2, ha⟩ := h
  exact ⟨s, hv, h1, h2, ha.below hb⟩
theorem OwG.mono {base' : Nat} (h : OwG w base v g) (hb : base' ≤ base) : OwG w base' v g := by
  obtain ⟨s, hv, h1, h2, ha⟩ := h
  exact ⟨s, hv, h1, h2, ha.mono hb⟩
end
theorem ArgG.inner {w : World} {g : GrD} {a b s : Value} (h : ArgG w (.agg #[a, b, s]) g) : ∃ A cap, s = .slice A g.2.2.length cap ∧ ArgE w (.slice A g.2.2.length cap) g.2.2 ∧ I64 g.1 ∧ I64 g.2.1 := by
  obtain ⟨s', hv, h1, h2, ha⟩ := h
  obtain rfl : s = s' := by injection hv with e; simp at e; exact e.2.2
  obtain ⟨A, cap, rfl⟩ := ha.form
  exact ⟨A, cap, rfl, ha, h1, h2⟩
theorem edge_info : (Try.prog.info? 79).map (fun i => (i.zero, i.size, i.bytes)) = some (some (.agg #[.int .i64 0, .int .i64 0, .int .i64 0]), 3, 24) := by kernel_rfl
theorem toList_madeCells (z : Array Value) (n : Nat) (hz : 0 < z.size) : (madeCells z (n * z.size)).toList = (List.replicate n z.toList).flatten := by
  have key : ∀ n j, j < n * z.size → ((List.replicate n z.toList).flatten)[j]? = z[j % z.size]? := by
    intro n
    induction n with
    | zero => intro j hj; simp at hj
    | succ n ih =>
      intro j hj
      rw [List.replicate_succ, List.flatten_cons]
      by_cases hlt : j < z.size
      · rw [List.getElem?_append_left (by simpa using hlt), Nat.mod_eq_of_lt hlt]; simp
      · rw [List.getElem?_append_right (by simp; omega), ih _ (by simp [Nat.add_mul] at *; omega)]
        simp only [Array.length_toList]
        rw [← Nat.mod_eq_sub_mod (by omega)]
  apply List.ext_getElem?
  intro j
  by_cases hj : j < n * z.size
  · rw [key n j hj]
    have hm : j % z.size < z.size := Nat.mod_lt _ hz
    simp [madeCells, hj, hm]
  · rw [List.getElem?_eq_none (by simp [madeCells]; omega), List.getElem?_eq_none (by simp; omega)]
theorem edCs_set (es : List EdD) (k : Nat) (hk : k < es.length) (x y z : Int) : (((edCs es).set (k * 3) (.int .i64 x)).set (k * 3 + 1) (.int .i64 y)).set (k * 3 + 2) (.int .i64 z) = edCs (es.set k (x, y, z)) := by
  induction es generalizing k with
  | nil => cases hk
  | cons e es ih =>
    match k with
    | 0 => simp [edCs_cons, edC]
    | k + 1 =>
      have h3 : (edC e).length = 3 := rfl
      rw [List.set_cons_succ, edCs_cons, edCs_cons, ← ih k (by simpa using hk)]
      rw [List.set_append_right _ _ (by rw [h3]; omega), List.set_append_right _ _ (by rw [h3]; omega), List.set_append_right _ _ (by rw [h3]; omega), h3]
      congr 2
      · congr 1
        · congr 1; omega
        · omega
      · omega
theorem OwE.set {w : World} {base n g cap : Nat} {es : List EdD} (h : OwE w base (.slice (some ⟨g, 0, none⟩) n cap) es) (k : Nat) (hk : k < es.length) {x y z : Int} (hx : I64 x) (hy : I64 y) (hz : I64 z) :
    OwE (((w.setCell ⟨g, k * 3, none⟩ (.int .i64 x)).setCell ⟨g, k * 3 + 1, none⟩ (.int .i64 y)).setCell ⟨g, k * 3 + 2, none⟩ (.int .i64 z)) base (.slice (some ⟨g, 0, none⟩) n cap) (es.set k (x, y, z)) ∧
    w.grownBy (((w.setCell ⟨g, k * 3, none⟩ (.int .i64 x)).setCell ⟨g, k * 3 + 1, none⟩ (.int .i64 y)).setCell ⟨g, k * 3 + 2, none⟩ (.int .i64 z)) (some g) := by
  have hn : n = es.length := by
    rcases h.1.2 with ⟨hv, _⟩ | ⟨g', cap', cur, hv, _⟩
    · cases hv
    · injection hv
  subst hn
  obtain ⟨h1, g1⟩ := h.1.stored (k * 3) (.int .i64 x)
  obtain ⟨h2, g2⟩ := h1.stored (k * 3 + 1) (.int .i64 y)
  obtain ⟨h3, g3⟩ := h2.stored (k * 3 + 2) (.int .i64 z)
  refine ⟨⟨?_, fun e he => ?_⟩, (g1.trans g2).trans g3⟩
  · rw [edCs_set es k hk] at h3
    rw [List.length_set]
    exact h3
  · rcases List.mem_or_eq_of_mem_set he with he | rfl
    · exact h.2 e he
    · exact ⟨hx, hy, hz⟩
theorem OwE.cellAt {w : World} {base n g cap : Nat} {es : List EdD} (h : OwE w base (.slice (some ⟨g, 0, none⟩) n cap) es) (k : Nat) (hk : k < es.length) :
    w.cell? ⟨g, k * 3, none⟩ = some (.int .i64 es[k].1) ∧ w.cell? ⟨g, k * 3 + 1, none⟩ = some (.int .i64 es[k].2.1) ∧ w.cell? ⟨g, k * 3 + 2, none⟩ = some (.int .i64 es[k].2.2) := by
  obtain ⟨b, off, hA, _, c0, c1, c2, _⟩ := h.arg.at hk
  injection hA with e
  injection e with e1 e2
  subst e1 e2
  rw [Nat.zero_add] at c0 c1 c2
  exact ⟨c0, c1, c2⟩
theorem OwE.free {w : World} {base n g cap : Nat} {es : List EdD} (h : OwE w base (.slice (some ⟨g, 0, none⟩) n cap) es) (j : Nat) : w.frozen? ⟨g, j, none⟩ = false := by
  have hn : n = es.length := by
    rcases h.1.2 with ⟨hv, _⟩ | ⟨g', cap', cur, hv, _⟩
    · cases hv
    · injection hv
  subst hn
  exact h.1.frozenAt j
theorem fill_set {α} (xs : List α) (z : α) (k : Nat) (hk : k < xs.length) : (xs.take k ++ List.replicate (xs.length - k) z).set k xs[k] = xs.take (k + 1) ++ List.replicate (xs.length - (k + 1)) z := by
  have e : xs.length - k = (xs.length - (k + 1)) + 1 := by omega
  rw [e, List.replicate_succ, List.set_append_right _ _ (by simp; omega), List.length_take, Nat.min_eq_left (by omega), Nat.sub_self, List.set_cons_zero, List.take_succ_eq_append_getElem hk]
  simp only [List.append_assoc, List.cons_append, List.nil_append]
end Go.Proofs.Ytgoghkboklehnaa
