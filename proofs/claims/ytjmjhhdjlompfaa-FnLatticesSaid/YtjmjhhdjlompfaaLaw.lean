/- How a law's walk keeps its objects: each depends on a range of blocks; each step of the law changes blocks of one range, or none that was there. The helpers of the laws over slices of ints: toIntS copies, eqIntS compares, markIntS writes, heldIntS reads. -/
import Derived.Test.YtjmjhhdjlompfaaBase
namespace Go.Proofs.Ytjmjhhdjlompfaa
set_option maxRecDepth 20000
set_option linter.unusedVariables false
set_option linter.unusedSimpArgs false
open Go.RowKit

theorem set_of_zeros (xs : List Int) (k : Nat) (hk : k < xs.length) :
    (((xs.take k).map (Value.int .i64)) ++ List.replicate (xs.length - k) (Value.int .i64 0)).set k (.int .i64 xs[k]) = ((xs.take (k + 1)).map (Value.int .i64)) ++ List.replicate (xs.length - (k + 1)) (Value.int .i64 0) := by
  have e : xs.length - k = (xs.length - (k + 1)) + 1 := by omega
  rw [e, List.replicate_succ, List.set_append_right _ _ (by simp; omega), List.length_map, List.length_take, Nat.min_eq_left (by omega), Nat.sub_self, List.set_cons_zero, List.take_succ_eq_append_getElem hk]
  simp only [List.map_append, List.map_cons, List.map_nil, List.append_assoc, List.cons_append, List.nil_append]

def iota (k : Int) (n : Nat) : List Int := (List.range n).map fun i => k + (i : Nat)
theorem iota_length (k : Int) (n : Nat) : (iota k n).length = n := by simp [iota]
theorem iota_get (k : Int) (n i : Nat) (h : i < n) : (iota k n)[i]'(by simp [iota, h]) = k + (i : Nat) := by simp [iota]
theorem mark_step (k : Int) (xs : List Int) (i : Nat) (hi : i < xs.length) :
    (((iota k i ++ xs.drop i).map (Value.int .i64)).set i (.int .i64 (k + (i : Nat)))) = (iota k (i + 1) ++ xs.drop (i + 1)).map (Value.int .i64) := by
  have e : xs.drop i = xs[i] :: xs.drop (i + 1) := List.drop_eq_getElem_cons hi
  rw [e, ← List.map_set, List.set_append_right _ _ (by simp [iota])]
  simp only [iota, List.length_map, List.length_range, Nat.sub_self, List.set_cons_zero, List.range_succ, List.map_append, List.map_cons, List.map_nil, List.append_assoc, List.cons_append, List.nil_append]

/-- From w to w' no block that was there changed, but those with numbers from a on and below b. -/
structure Tr (a b : Nat) (w w' : World) : Prop where
  os : w'.os = w.os
  tape : w'.tape = w.tape
  output : w'.output = w.output
  size : w.heap.size ≤ w'.heap.size
  block : ∀ k, k < w.heap.size → ¬ (a ≤ k ∧ k < b) → w'.heap[k]? = w.heap[k]?

theorem Tr.refl (w : World) : Tr 0 0 w w := ⟨rfl, rfl, rfl, Nat.le_refl _, fun _ _ _ => rfl⟩
theorem Tr.below {w w' : World} (h : Below w.heap.size w w') : Tr 0 0 w w' := ⟨h.os, h.tape, h.output, h.size, fun k hk _ => h.block k hk⟩
theorem Tr.drewN (w : World) (n : Nat) : Tr 0 0 w (w.drewN n) := ⟨rfl, rfl, rfl, Nat.le_refl _, fun _ _ _ => rfl⟩
theorem Tr.drew (w : World) : Tr 0 0 w w.drew := ⟨rfl, rfl, rfl, Nat.le_refl _, fun _ _ _ => rfl⟩
theorem Tr.grown {w w' : World} {row : Option Nat} (h : w.grownBy w' row) {a b : Nat} (hr : ∀ k, row = some k → a ≤ k ∧ k < b) : Tr a b w w' :=
  ⟨h.os, h.tape, h.output, h.size, fun k hk hn => h.block k hk (fun e => hn (hr k e.symm))⟩

/-- O speaks of blocks from lo on and below hi alone. -/
def Loc (O : World → Prop) (lo hi : Nat) : Prop := ∀ w w' : World, O w → (∀ b, lo ≤ b → b < hi → w'.heap[b]? = w.heap[b]?) → O w'
/-- An object of the law: it holds now, and hangs on the blocks of its range. -/
structure Ob (O : World → Prop) (lo hi : Nat) (w : World) : Prop where
  holds : O w
  loc : Loc O lo hi
  le : hi ≤ w.heap.size
theorem Ob.tr {O : World → Prop} {lo hi a b : Nat} {w w' : World} (h : Ob O lo hi w) (t : Tr a b w w') (hd : b ≤ lo ∨ hi ≤ a ∨ b ≤ a) : Ob O lo hi w' := by
  refine ⟨h.loc w w' h.holds fun k h1 h2 => t.block k ?_ ?_, h.loc, ?_⟩
  · have := h.le; omega
  · omega
  · have := h.le; have := t.size; omega
theorem bel_tr {N a b : Nat} {w0 w w' : World} (h : Below N w0 w) (t : Tr a b w w') (hN : N ≤ w.heap.size) (hd : N ≤ a ∨ b ≤ a) : Below N w0 w' :=
  ⟨t.os.trans h.os, t.tape.trans h.tape, t.output.trans h.output, Nat.le_trans h.size t.size, fun k hk => (t.block k (by omega) (by omega)).trans (h.block k hk)⟩

theorem Tr.then_ {a b : Nat} {w w1 w2 : World} (h : Tr 0 0 w w1) (t : Tr a b w1 w2) (hb : b ≤ w.heap.size) : Tr a b w w2 :=
  ⟨t.os.trans h.os, t.tape.trans h.tape, t.output.trans h.output, Nat.le_trans h.size t.size, fun k hk hn => (t.block k (Nat.lt_of_lt_of_le hk h.size) hn).trans (h.block k hk (by omega))⟩
theorem Tr.then0 {w w1 w2 : World} (h : Tr 0 0 w w1) (t : Tr 0 0 w1 w2) : Tr 0 0 w w2 := h.then_ t (Nat.zero_le _)
theorem Tr.alloc_eq {w W : World} {o : Obj} (h : W = w.alloc o) : Tr 0 0 w W := by
  subst h
  exact Tr.below ((Below.refl _ _).alloc (Nat.le_refl _) _)
theorem Tr.alloc_size {w W : World} {o : Obj} (h : W = w.alloc o) : w.heap.size + 1 ≤ W.heap.size := by
  subst h
  simp
/-- A variable's box: block b holds the cells cs. -/
def Box (b : Nat) (cs : List Value) (t : TypeId) (w : World) : Prop := w.heap[b]? = some (.cells cs.toArray t (0, 0))
theorem Box.new {w W : World} {cs : List Value} {t : TypeId} (h : W = w.alloc (Obj.cells cs.toArray t)) : Ob (Box w.heap.size cs t) w.heap.size (w.heap.size + 1) W := by
  subst h
  exact ⟨heap_alloc_new w _, fun u u' hu hb => by unfold Box at *; rw [hb _ (Nat.le_refl _) (by omega)]; exact hu, by simp⟩
theorem Box.cell_0 {b : Nat} {x : Value} {cs : List Value} {t : TypeId} {w : World} (h : Box b (x :: cs) t w) : w.cell? ⟨b, 0, none⟩ = some x := by
  rw [cell_of_row w b 0 _ t (0, 0) h]; rfl
theorem Box.cell_1 {b : Nat} {x y : Value} {cs : List Value} {t : TypeId} {w : World} (h : Box b (x :: y :: cs) t w) : w.cell? ⟨b, 1, none⟩ = some y := by
  rw [cell_of_row w b 1 _ t (0, 0) h]; rfl
theorem Box.cell_2 {b : Nat} {x y z : Value} {cs : List Value} {t : TypeId} {w : World} (h : Box b (x :: y :: z :: cs) t w) : w.cell? ⟨b, 2, none⟩ = some z := by
  rw [cell_of_row w b 2 _ t (0, 0) h]; rfl
theorem ArgI.loc {w : World} {v : Value} {xs : List Int} (h : ArgI w v xs) : Loc (fun w => ArgI w v xs) 0 w.heap.size := by
  intro u u' hu hb
  obtain ⟨A, cap, hv, hc, hm, hr, hx⟩ := h
  obtain ⟨A', cap', hv', hc', hm', hr', hx'⟩ := hu
  refine ⟨A', cap', hv', hc', hm', hr', fun h0 => ?_⟩
  obtain ⟨b, off, hA, hcell⟩ := hx h0
  obtain ⟨b', off', hA', hcell'⟩ := hx' h0
  have hbb : b = b' := by
    rw [hv] at hv'
    injection hv' with e1 e2 e3
    rw [hA, hA'] at e1
    simpa using (by simpa using e1 : b = b' ∧ off = off').1
  subst hbb
  have hlt : b < w.heap.size := World.block_lt_of_cell? w _ (hcell 0 h0)
  exact ⟨b, off', hA', fun i hi => by rw [World.cell?_of_block (w := u) (hb b (Nat.zero_le _) hlt)]; exact hcell' i hi⟩
theorem ArgI.ob {w : World} {v : Value} {xs : List Int} (h : ArgI w v xs) : Ob (fun w => ArgI w v xs) 0 w.heap.size w := ⟨h, h.loc, Nat.le_refl _⟩

/-- A fresh row of ints in blocks from lo on and below hi. -/
def OI (lo hi : Nat) (v : Value) (xs : List Int) (w : World) : Prop := OwI w lo v xs ∧ ∀ b, v.ownBlock = some b → b < hi
theorem OI.loc {lo hi : Nat} {v : Value} {xs : List Int} (hr : ∀ b, v.ownBlock = some b → b < hi) : Loc (OI lo hi v xs) lo hi := by
  intro u u' hu hb
  refine ⟨⟨⟨hu.1.1.1, ?_⟩, hu.1.2⟩, hu.2⟩
  rcases hu.1.1.2 with h0 | ⟨g, cap, cur, hv, hg, hh, r⟩
  · exact .inl h0
  · exact .inr ⟨g, cap, cur, hv, hg, by rw [hb g hg (hr g (by rw [hv]; rfl))]; exact hh, r⟩
theorem OwI.ob {w : World} {lo : Nat} {v : Value} {xs : List Int} (h : OwI w lo v xs) : Ob (OI lo w.heap.size v xs) lo w.heap.size w :=
  ⟨⟨h, fun b hb => (h.1.lt b hb).2⟩, OI.loc fun b hb => (h.1.lt b hb).2, Nat.le_refl _⟩
theorem ArgI.form {w : World} {v : Value} {xs : List Int} (h : ArgI w v xs) : ∃ A cap, v = .slice A xs.length cap := by
  obtain ⟨A, cap, hv, _⟩ := h
  exact ⟨A, cap, hv⟩

theorem same_bel {P : Program} {f : FuncId} {args : Array Value} {w : World} {E : Ending} (h : Calls P f args w fun e w' => e = E ∧ w = w') : Calls P f args w fun e w' => e = E ∧ Below w.heap.size w w' :=
  h.mono fun _ _ ⟨he, hw⟩ => ⟨he, by rw [← hw]; exact Below.refl _ _⟩
theorem drew_bel {P : Program} {f : FuncId} {args : Array Value} {w : World} {E : Ending} (h : Calls P f args w fun e w' => e = E ∧ ∃ n, w' = w.drewN n) : Calls P f args w fun e w' => e = E ∧ Below w.heap.size w w' :=
  h.mono fun _ _ ⟨he, n, hw⟩ => ⟨he, by rw [hw]; exact bel_drewN (Below.refl _ _) _⟩
theorem Tr.trans {a b : Nat} {w w1 w2 : World} (h : Tr a b w w1) (t : Tr a b w1 w2) : Tr a b w w2 :=
  ⟨t.os.trans h.os, t.tape.trans h.tape, t.output.trans h.output, Nat.le_trans h.size t.size, fun k hk hn => (t.block k (Nat.lt_of_lt_of_le hk h.size) hn).trans (h.block k hk hn)⟩
theorem setCell_block (w : World) (p : Addr) (u : Value) (b : Nat) (h : b ≠ p.block) : (w.setCell p u).heap[b]? = w.heap[b]? := Below.heap_setCell w p u b h
theorem setCell_grown (w : World) (g j : Nat) (u : Value) : w.grownBy (w.setCell ⟨g, j, none⟩ u) (some g) :=
  ⟨rfl, rfl, rfl, by simp, fun b _ hb => setCell_block w _ u b (fun e => hb (by rw [e]))⟩
/-- What was said of the first world, whose blocks are as they were. -/
def Kept (w0 : World) (P : World → Prop) (u : World) : Prop := P w0 ∧ ∀ b, b < w0.heap.size → u.heap[b]? = w0.heap[b]?
theorem Kept.ob {w : World} {P : World → Prop} (h : P w) : Ob (Kept w P) 0 w.heap.size w :=
  ⟨⟨h, fun _ _ => rfl⟩, fun _ _ hu hb => ⟨hu.1, fun b hlt => (hb b (Nat.zero_le _) hlt).trans (hu.2 b hlt)⟩, Nat.le_refl _⟩
end Go.Proofs.Ytjmjhhdjlompfaa
