/- A matrix of numbers in memory of one's own; rows of pairs and of pieces: for the program's pieces. -/
import Derived.Test.YtodkandjcodnjaaIndS
namespace Go.Proofs.Ytodkandjcodnjaa
set_option maxRecDepth 20000
set_option linter.unusedVariables false
set_option linter.unusedSimpArgs false
open Go.RowKit

/-- The outer row lies in block P, row i in block Q i; all below X. -/
structure MatI (X bb P A B : Nat) (w : World) (Q : Nat → Nat) (f : Nat → Nat → Int) : Prop where
  outer : w.ownsRow bb 41 1 (.slice (some ⟨P, 0, none⟩) A A) A ((List.range A).map fun i => .slice (some ⟨Q i, 0, none⟩) B B)
  rows : ∀ i, i < A → OwI w bb (.slice (some ⟨Q i, 0, none⟩) B B) ((List.range B).map (f i))
  inj : ∀ i j, i < A → j < A → Q i = Q j → i = j
  neP : ∀ i, i < A → Q i ≠ P
  ltP : P < X
  ltQ : ∀ i, i < A → Q i < X
section
variable {X bb P A B : Nat} {w w' : World} {Q : Nat → Nat} {f : Nat → Nat → Int}
theorem MatI.cellO (h : MatI X bb P A B w Q f) {i : Nat} (hi : i < A) : w.cell? ⟨P, i, none⟩ = some (.slice (some ⟨Q i, 0, none⟩) B B) := by
  rw [World.ownsRow.cellAt h.outer i (by omega)]
  simp [hi]
theorem MatI.cellI (h : MatI X bb P A B w Q f) {i j : Nat} (hi : i < A) (hj : j < B) : w.cell? ⟨Q i, j, none⟩ = some (.int .i64 (f i j)) := by
  have := (h.rows i hi).cellAt j (by simpa using hj)
  simpa using this
theorem MatI.free (h : MatI X bb P A B w Q f) {i : Nat} (hi : i < A) (j : Nat) : w.frozen? ⟨Q i, j, none⟩ = false := (h.rows i hi).free j
theorem owns_keep {base : Nat} {e : TypeId} {sz n : Nat} {v : Value} {cs : List Value} (h : w.ownsRow base e sz v n cs) (hb : ∀ b, v.ownBlock = some b → w'.heap[b]? = w.heap[b]?) : w'.ownsRow base e sz v n cs := by
  refine ⟨h.1, ?_⟩
  rcases h.2 with h0 | ⟨g, cap, cur, hv, hg, hh, r⟩
  · exact .inl h0
  · exact .inr ⟨g, cap, cur, hv, hg, by rw [hb g (by rw [hv]; rfl)]; exact hh, r⟩
theorem MatI.keep (h : MatI X bb P A B w Q f) (hb : ∀ b, b < X → w'.heap[b]? = w.heap[b]?) : MatI X bb P A B w' Q f := by
  refine ⟨owns_keep h.outer fun b e => ?_, fun i hi => ⟨owns_keep (h.rows i hi).1 fun b e => ?_, (h.rows i hi).2⟩, h.inj, h.neP, h.ltP, h.ltQ⟩
  · simp only [Value.ownBlock, Option.some.injEq] at e
    subst e
    exact hb _ h.ltP
  · simp only [Value.ownBlock, Option.some.injEq] at e
    subst e
    exact hb _ (h.ltQ i hi)
def upd (f : Nat → Nat → Int) (i j : Nat) (z : Int) : Nat → Nat → Int := fun i' j' => if i' = i ∧ j' = j then z else f i' j'
theorem MatI.set (h : MatI X bb P A B w Q f) {i j : Nat} (hi : i < A) (hj : j < B) {z : Int} (hz : I64 z) : MatI X bb P A B (w.setCell ⟨Q i, j, none⟩ (.int .i64 z)) Q (upd f i j z) := by
  have hs : ∀ b, b ≠ Q i → (w.setCell ⟨Q i, j, none⟩ (.int .i64 z)).heap[b]? = w.heap[b]? := fun b hb => Below.heap_setCell w _ _ b hb
  refine ⟨owns_keep h.outer fun b e => ?_, fun i' hi' => ?_, h.inj, h.neP, h.ltP, h.ltQ⟩
  · simp only [Value.ownBlock, Option.some.injEq] at e
    subst e
    exact hs _ (fun e => h.neP i hi e.symm)
  · by_cases hii : i' = i
    · subst hii
      have h1 := ((h.rows i' hi).set j z hz).1
      have e : ((List.range B).map (f i')).set j z = (List.range B).map (upd f i' j z i') := by
        refine List.ext_getElem (by simp) fun k h1 h2 => ?_
        rw [List.getElem_set]
        simp only [List.getElem_map, List.getElem_range]
        unfold upd
        by_cases hk : j = k
        · subst hk; simp
        · rw [if_neg hk, if_neg (fun h => hk h.2.symm)]
      rwa [e] at h1
    · have h1 : OwI (w.setCell ⟨Q i, j, none⟩ (.int .i64 z)) bb (.slice (some ⟨Q i', 0, none⟩) B B) ((List.range B).map (f i')) :=
        ⟨owns_keep (h.rows i' hi').1 fun b e => by
          simp only [Value.ownBlock, Option.some.injEq] at e
          subst e
          exact hs _ (fun e => hii (h.inj _ _ hi' hi e)), (h.rows i' hi').2⟩
      have e : (List.range B).map (f i') = (List.range B).map (upd f i j z i') := by
        refine List.map_congr_left fun k _ => ?_
        unfold upd
        rw [if_neg (fun h => hii h.1)]
      rwa [e] at h1
end
/-! Pairs: two cells each. -/
def prC (B : Nat) (p : Nat) : List Value := [.int .i64 ((p / B : Nat) : Int), .int .i64 ((p % B : Nat) : Int)]
def prCs (B : Nat) (o : List Nat) : List Value := (o.map (prC B)).flatten
theorem prCs_len (B : Nat) (o : List Nat) : (prCs B o).length = o.length * 2 := by
  unfold prCs
  induction o with
  | nil => rfl
  | cons p o ih => simp [prC] at ih ⊢; omega
theorem prCs_get (B : Nat) (o : List Nat) (k j : Nat) (hk : k < o.length) (hj : j < 2) : (prCs B o)[k * 2 + j]? = (prC B o[k])[j]? := by
  unfold prCs
  induction o generalizing k with
  | nil => simp at hk
  | cons p o ih =>
    cases k with
    | zero =>
      simp only [Nat.zero_mul, Nat.zero_add, List.map_cons, List.flatten_cons, List.getElem_cons_zero]
      rw [List.getElem?_append_left (by simpa [prC] using hj)]
    | succ k =>
      simp only [List.map_cons, List.flatten_cons, List.getElem_cons_succ]
      rw [List.getElem?_append_right (by simp [prC]; omega)]
      have : (k + 1) * 2 + j - (prC B p).length = k * 2 + j := by simp [prC]; omega
      rw [this]
      exact ih k (by simpa using hk)
theorem prCs_snoc (B : Nat) (o : List Nat) (p : Nat) : prCs B (o ++ [p]) = prCs B o ++ prC B p := by simp [prCs]
/-- A row of pairs that the caller alone holds. -/
def OwPr (w : World) (base : Nat) (v : Value) (B : Nat) (o : List Nat) : Prop := w.ownsRow base 71 2 v o.length (prCs B o)
theorem pair_info : (Try.prog.info? 71).map (fun i => (i.zero, i.size, i.bytes)) = some (some (.agg #[.int .i64 0, .int .i64 0]), 2, 16) := by kernel_rfl
theorem piece_info : (Try.prog.info? 59).map (fun i => (i.zero, i.size, i.bytes)) = some (some (.agg #[.int .i64 0, .int .i64 0, .int .i64 0, .int .i64 0, .bool false]), 5, 40) := by kernel_rfl
theorem push_pair {w : World} {ops : Array Oper} {rest : List Oper} {o : Oper} {a : Act} {R : Exit → Act → World → Prop} (hgd : o.guard = none) (s x : Operand)
    (ho : o.op = .call { callee := .builtin .append, args := #[s, x], argTypes := #[72, 72] })
    (base : Nat) (v : Value) (B : Nat) (es : List Nat) (hown : OwPr w base v B es) (hs : a.eval s = v) (b : Nat) (e : Nat) (hx : a.eval x = .slice (some ⟨b, 0, none⟩) 1 1)
    (hc : ∀ j u, (prC B e)[j]? = some u → w.cell? ⟨b, j, none⟩ = some u) (hl : es.length ≤ 1073741824) (hbase : base ≤ w.heap.size)
    (h : ∀ v' w', OwPr w' base v' B (es ++ [e]) → w.grownBy w' v.ownBlock → (v'.ownBlock = v.ownBlock ∨ v'.ownBlock = some w.heap.size) → wpList Try.prog ops R rest (a.put o.dst v') w') :
    wpList Try.prog ops R (o :: rest) a w := by
  obtain ⟨i0, hi0, hz0, hz1, hz2⟩ := info_parts pair_info
  refine wpList_append_own_at _ hgd s x 72 ho base 71 i0 _ 2 16 Try.underlying72 hi0 hz0 hz1 hz2 rfl (by decide) v es.length (prCs B es) hs hown ⟨b, 0, none⟩ 1 1 (prC B e) hx rfl ?_ ?_ (by unfold maxLen; omega) (by omega) hbase ?_
  · intro j u hj
    rw [Addr.add_lit, Nat.zero_add]
    exact hc j u hj
  · intro u hu
    simp [prC] at hu
    rcases hu with rfl | rfl <;> rfl
  · intro v' w' h1 h2 h3 h5
    refine h v' w' ?_ h2 h5
    unfold OwPr
    rw [prCs_snoc, List.length_append]
    exact h1
/-! Pieces: five cells each. -/
def PcD := Int × Int × Int × Int × Bool
def pcC (d : PcD) : List Value := [.int .i64 d.1, .int .i64 d.2.1, .int .i64 d.2.2.1, .int .i64 d.2.2.2.1, .bool d.2.2.2.2]
def pcCs (l : List PcD) : List Value := (l.map pcC).flatten
theorem pcCs_snoc (l : List PcD) (d : PcD) : pcCs (l ++ [d]) = pcCs l ++ pcC d := by simp [pcCs]
theorem pcCs_len (l : List PcD) : (pcCs l).length = l.length * 5 := by
  unfold pcCs
  induction l with
  | nil => rfl
  | cons p o ih => simp [pcC] at ih ⊢; omega
theorem pcCs_get (l : List PcD) (k j : Nat) (hk : k < l.length) (hj : j < 5) : (pcCs l)[k * 5 + j]? = (pcC l[k])[j]? := by
  unfold pcCs
  induction l generalizing k with
  | nil => simp at hk
  | cons p o ih =>
    cases k with
    | zero =>
      simp only [Nat.zero_mul, Nat.zero_add, List.map_cons, List.flatten_cons, List.getElem_cons_zero]
      rw [List.getElem?_append_left (by simpa [pcC] using hj)]
    | succ k =>
      simp only [List.map_cons, List.flatten_cons, List.getElem_cons_succ]
      rw [List.getElem?_append_right (by simp [pcC]; omega)]
      have : (k + 1) * 5 + j - (pcC p).length = k * 5 + j := by simp [pcC]; omega
      rw [this]
      exact ih k (by simpa using hk)
def OwPc (w : World) (base : Nat) (v : Value) (l : List PcD) : Prop := w.ownsRow base 59 5 v l.length (pcCs l)
theorem push_piece {w : World} {ops : Array Oper} {rest : List Oper} {o : Oper} {a : Act} {R : Exit → Act → World → Prop} (hgd : o.guard = none) (s x : Operand)
    (ho : o.op = .call { callee := .builtin .append, args := #[s, x], argTypes := #[54, 54] })
    (base : Nat) (v : Value) (es : List PcD) (hown : OwPc w base v es) (hs : a.eval s = v) (b : Nat) (e : PcD) (hx : a.eval x = .slice (some ⟨b, 0, none⟩) 1 1)
    (hc : ∀ j u, (pcC e)[j]? = some u → w.cell? ⟨b, j, none⟩ = some u) (hl : es.length ≤ 1073741824) (hbase : base ≤ w.heap.size)
    (h : ∀ v' w', OwPc w' base v' (es ++ [e]) → w.grownBy w' v.ownBlock → (v'.ownBlock = v.ownBlock ∨ v'.ownBlock = some w.heap.size) → wpList Try.prog ops R rest (a.put o.dst v') w') :
    wpList Try.prog ops R (o :: rest) a w := by
  obtain ⟨i0, hi0, hz0, hz1, hz2⟩ := info_parts piece_info
  refine wpList_append_own_at _ hgd s x 54 ho base 59 i0 _ 5 40 Try.underlying54 hi0 hz0 hz1 hz2 rfl (by decide) v es.length (pcCs es) hs hown ⟨b, 0, none⟩ 1 1 (pcC e) hx rfl ?_ ?_ (by unfold maxLen; omega) (by omega) hbase ?_
  · intro j u hj
    rw [Addr.add_lit, Nat.zero_add]
    exact hc j u hj
  · intro u hu
    simp [pcC] at hu
    rcases hu with rfl | rfl | rfl | rfl | rfl <;> rfl
  · intro v' w' h1 h2 h3 h5
    refine h v' w' ?_ h2 h5
    unfold OwPc
    rw [pcCs_snoc, List.length_append]
    exact h1
end Go.Proofs.Ytodkandjcodnjaa
