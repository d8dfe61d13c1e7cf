/- Plain: what the program's pieces computes. -/
import Derived.Test.YtodkandjcodnjaaMat
namespace Go.Proofs.Ytodkandjcodnjaa
set_option maxRecDepth 20000
set_option linter.unusedVariables false
set_option linter.unusedSimpArgs false
open Go.RowKit

def eqB (B : Nat) (l : List Nat) : Bool := l.any fun p => decide (p / B = p % B)
theorem eqB_snoc (B : Nat) (l : List Nat) (k : Nat) (h : k < l.length) : eqB B (l.take (k + 1)) = (eqB B (l.take k) || decide (l[k] / B = l[k] % B)) := by
  unfold eqB
  rw [List.take_succ_eq_append_getElem h, List.any_append]
  simp
/-- How many of the first m letters are positive and can be read at both vertices. -/
def cntP (ea eb : List EdD) (B p : Nat) (ls : List Int) (m : Nat) : Nat := ((ls.take m).filter fun x => decide (0 < x) && (pnx ea eb B p x).isSome).length
theorem cntP_succ (ea eb : List EdD) (B p : Nat) (ls : List Int) (m : Nat) (h : m < ls.length) : cntP ea eb B p ls (m + 1) = cntP ea eb B p ls m + if 0 < ls[m] ∧ (pnx ea eb B p ls[m]).isSome = true then 1 else 0 := by
  unfold cntP
  rw [List.take_succ_eq_append_getElem h, List.filter_append, List.length_append]
  congr 1
  simp only [List.filter_cons, List.filter_nil]
  by_cases hc : 0 < ls[m] ∧ (pnx ea eb B p ls[m]).isSome = true
  · rw [if_pos hc, if_pos (by simp [hc.1, hc.2])]; rfl
  · rw [if_neg hc, if_neg (fun h => hc (by simpa using h))]; rfl
theorem cntP_le (ea eb : List EdD) (B p : Nat) (ls : List Int) (m : Nat) : cntP ea eb B p ls m ≤ m := by
  unfold cntP
  refine Nat.le_trans (List.length_filter_le _ _) ?_
  rw [List.length_take]
  omega
theorem cntP_full (ea eb : List EdD) (B p : Nat) : ∀ r : Nat, cntP ea eb B p (lettersL r) (lettersL r).length = edgN ea eb B r p := by
  intro r
  unfold cntP edgN
  rw [List.take_length]
  induction r with
  | zero => rfl
  | succ r ih =>
    unfold lettersL
    rw [List.filter_append, List.length_append, ih, List.range_succ, List.filter_append, List.length_append]
    congr 1
    have e1 : decide ((0 : Int) < (r : Int) + 1) = true := decide_eq_true (by omega)
    have e2 : decide ((0 : Int) < -((r : Int) + 1)) = false := decide_eq_false (by omega)
    simp only [List.filter_cons, List.filter_nil, e1, e2, Bool.true_and, Bool.false_and]
    cases (pnx ea eb B p ((r : Int) + 1)).isSome <;> rfl
theorem edgL_snoc (ea eb : List EdD) (B r : Nat) (o : List Nat) (k : Nat) (h : k < o.length) : edgL ea eb B r (o.take (k + 1)) = edgL ea eb B r (o.take k) + edgN ea eb B r o[k] := by
  rw [edgL_succ _ _ _ _ _ _ h]; rfl
def pcD (a b : GrD) (A B r i : Nat) : PcD := (((i / B : Nat) : Int), ((i % B : Nat) : Int), ((prsL a b A B (lettersL r) i).length : Int), (edgL a.2.2 b.2.2 B r (prsL a b A B (lettersL r) i) : Int), eqB B (prsL a b A B (lettersL r) i))
def pst2 (a b : GrD) (A B r : Nat) (s : List Nat × List PcD) (i : Nat) : List Nat × List PcD :=
  if i ∈ s.1 then s else (s.1 ++ prsL a b A B (lettersL r) i, s.2 ++ [pcD a b A B r i])
def pcs (a b : GrD) (A B r k : Nat) : List Nat × List PcD := (List.range k).foldl (pst2 a b A B r) ([], [])
theorem pcs_succ (a b : GrD) (A B r k : Nat) : pcs a b A B r (k + 1) = pst2 a b A B r (pcs a b A B r k) k := by
  unfold pcs
  rw [List.range_succ, List.foldl_append]
  rfl
def pcR (d : PcD) : Int := d.2.2.2.1 - d.2.2.1 + 1
theorem pcs_comp (a b : GrD) (A B r k : Nat) : (pcs a b A B r k).1 = (compS a b A B r k).1 ∧ (pcs a b A B r k).2.map pcR = (compS a b A B r k).2 := by
  induction k with
  | zero => exact ⟨rfl, rfl⟩
  | succ k ih =>
    rw [pcs_succ, compS_succ]
    unfold pst2 cst
    rw [ih.1]
    split
    · exact ih
    · refine ⟨rfl, ?_⟩
      simp only [List.map_append, ih.2]
      rfl
theorem pcs_len (a b : GrD) (A B r k : Nat) : (pcs a b A B r k).2.length ≤ k := by
  induction k with
  | zero => simp [pcs]
  | succ k ih =>
    rw [pcs_succ]
    unfold pst2
    split
    · omega
    · simp; omega
/-- Steps from outside the marked pairs stay outside. -/
theorem pcs_out {a b : GrD} {A B : Nat} (h : Two a b A B) {r : Nat} (hr : r ≤ 3) {k : Nat} (hk : k ≤ A * B) {p q : Nat} {x : Int} (hx : x ∈ lettersL r) (hp : p ∉ (pcs a b A B r k).1) (hq : pnx a.2.2 b.2.2 B p x = some q) : q ∉ (pcs a b A B r k).1 := by
  rw [(pcs_comp a b A B r k).1] at *
  intro hqm
  exact hp ((compS_closed h hr k hk).2 q hqm (-x) p (letters_ok hr x hx).2 (pnx_back h (letters_ok hr x hx).1 hq))
theorem pcs_lt {a b : GrD} {A B : Nat} (h : Two a b A B) {r : Nat} (hr : r ≤ 3) {k : Nat} (hk : k ≤ A * B) : ∀ q ∈ (pcs a b A B r k).1, q < A * B := by
  rw [(pcs_comp a b A B r k).1]
  exact (compS_closed h hr k hk).1
/-- The matrix says which pairs are marked. -/
def MarkF (A B : Nat) (f : Nat → Nat → Int) (M : List Nat) : Prop := ∀ i j, i < A → j < B → I64 (f i j) ∧ (0 ≤ f i j ↔ i * B + j ∈ M)
theorem markF_upd {A B : Nat} {f : Nat → Nat → Int} {M : List Nat} (h : MarkF A B f M) {i j : Nat} (hj : j < B) {z : Int} (hz : 0 ≤ z) (hz2 : I64 z) : MarkF A B (upd f i j z) (M ++ [i * B + j]) := by
  intro i' j' hi' hj'
  unfold upd
  by_cases hc : i' = i ∧ j' = j
  · rw [if_pos hc, hc.1, hc.2]
    exact ⟨hz2, by simp [hz]⟩
  · rw [if_neg hc]
    obtain ⟨h1, h2⟩ := h i' j' hi' hj'
    refine ⟨h1, ?_⟩
    rw [h2, List.mem_append, List.mem_singleton]
    refine ⟨fun h => .inl h, fun h => h.elim id fun e => ?_⟩
    refine absurd ?_ hc
    have e1 : (i' * B + j') / B = (i * B + j) / B := by rw [e]
    have e2 : (i' * B + j') % B = (i * B + j) % B := by rw [e]
    rw [Nat.mul_comm, Nat.mul_add_div (by omega), Nat.div_eq_of_lt hj', Nat.mul_comm i, Nat.mul_add_div (by omega), Nat.div_eq_of_lt hj] at e1
    rw [Nat.mul_comm, Nat.mul_add_mod, Nat.mod_eq_of_lt hj', Nat.mul_comm i, Nat.mul_add_mod, Nat.mod_eq_of_lt hj] at e2
    exact ⟨by omega, e2⟩
end Go.Proofs.Ytodkandjcodnjaa
