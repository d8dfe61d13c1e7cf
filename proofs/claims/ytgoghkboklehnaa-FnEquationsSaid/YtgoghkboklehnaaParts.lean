/- A row of slices of ints of the caller's own, each of which reads as a list (its cells may be anybody's). -/
import Derived.Test.YtgoghkboklehnaaBase
namespace Go.Proofs.Ytgoghkboklehnaa
set_option maxRecDepth 20000
set_option linter.unusedVariables false
set_option linter.unusedSimpArgs false
open Go.RowKit

def PartsL (base : Nat) (w : World) (v : Value) (L : List (List Int)) : Prop :=
  ∃ vs : List Value, vs.length = L.length ∧ w.ownsRow base 24 1 v L.length vs ∧ ∀ i (h : i < L.length) (h' : i < vs.length), RdI w vs[i] L[i]
theorem PartsL.rd {base : Nat} {w : World} {v : Value} {L : List (List Int)} (h : PartsL base w v L) : RdII w v L := by
  obtain ⟨vs, h1, h2, h3⟩ := h
  exact ⟨vs, h1, RdV.of_own h2, h3⟩
theorem PartsL.form {base : Nat} {w : World} {v : Value} {L : List (List Int)} (h : PartsL base w v L) : ∃ A cap, v = .slice A L.length cap ∧ L.length ≤ cap ∧ cap ≤ maxLen := by
  obtain ⟨vs, h1, h2, h3⟩ := h
  obtain ⟨A, cap, hv, hc, hm, _⟩ := owns_form h2
  exact ⟨A, cap, hv, hc, hm⟩
theorem PartsL.lt {base : Nat} {w : World} {v : Value} {L : List (List Int)} (h : PartsL base w v L) (b : Nat) (hb : v.ownBlock = some b) : base ≤ b ∧ b < w.heap.size := by
  obtain ⟨vs, h1, h2, h3⟩ := h
  exact h2.lt b hb
theorem PartsL.below {base : Nat} {w w' : World} {v : Value} {L : List (List Int)} (h : PartsL base w v L) (hb : Below w.heap.size w w') : PartsL base w' v L := by
  obtain ⟨vs, h1, h2, h3⟩ := h
  exact ⟨vs, h1, ownsRow_below h2 hb, fun i hi hi' => (h3 i hi hi').below hb⟩
theorem PartsL.alloc {base : Nat} {w : World} {v : Value} {L : List (List Int)} (h : PartsL base w v L) (o : Obj) : PartsL base (w.alloc o) v L := h.below ((Below.refl _ _).alloc (Nat.le_refl _) _)
theorem PartsL.drewN {base : Nat} {w : World} {v : Value} {L : List (List Int)} (h : PartsL base w v L) (k : Nat) : PartsL base (w.drewN k) v L := h
theorem PartsL.nil (w : World) {base : Nat} (hb : base ≤ w.heap.size) : PartsL base (w.alloc (.cells #[] 24)) (.slice (some ⟨w.heap.size, 0, none⟩) 0 0) [] :=
  ⟨[], rfl, rows_lit w [] (by simp) hb, fun i h => absurd h (by simp)⟩
/-- A row written out. -/
theorem PartsL.lit (w : World) (vs : List Value) (L : List (List Int)) (hl : vs.length = L.length) (h : ∀ i (h : i < L.length) (h' : i < vs.length), RdI w vs[i] L[i]) (hm : L.length ≤ 1099511627776) {base : Nat} (hb : base ≤ w.heap.size) :
    PartsL base (w.alloc (.cells vs.toArray 24)) (.slice (some ⟨w.heap.size, 0, none⟩) L.length L.length) L :=
  ⟨vs, hl, by have := rows_lit w vs (by omega) hb; rw [hl] at this; exact this, fun i h1 h2 => (h i h1 h2).alloc _⟩
/-- 'parts = append(parts, x)', x a slice of ints. -/
theorem push_part {w : World} {ops : Array Oper} {rest : List Oper} {o : Oper} {a : Act} {Q : Exit → Act → World → Prop} (hgd : o.guard = none) (s x : Operand)
    (ho : o.op = .call { callee := .builtin .append, args := #[s, x], argTypes := #[27, 27] })
    (base : Nat) (v : Value) (L : List (List Int)) (hown : PartsL base w v L) (hs : a.eval s = v) (b : Nat) (z : Value) (d : List Int) (hx : a.eval x = .slice (some ⟨b, 0, none⟩) 1 1)
    (hd : RdI w z d) (hc : w.cell? ⟨b, 0, none⟩ = some z) (hl : L.length ≤ 1073741824) (hbase : base ≤ w.heap.size)
    (h : ∀ v' w', PartsL base w' v' (L ++ [d]) → w.grownBy w' v.ownBlock → (∀ u xs, RdI w u xs → RdI w' u xs) → wpList Try.prog ops Q rest (a.put o.dst v') w') :
    wpList Try.prog ops Q (o :: rest) a w := by
  obtain ⟨vs, h1, h2, h3⟩ := hown
  have hz : z.oneCell' = true := by obtain ⟨A, cap, hv, _⟩ := hd.1.cell; rw [hv]; rfl
  refine push_row hgd s x ho base v L.length vs h2 hs b z hx hc hz (by omega) hbase fun v' w' o2 g2 _ => ?_
  have keep : ∀ u xs, RdI w u xs → RdI w' u xs := fun u xs hu => ⟨hu.1.grown_ty h2 (by decide) g2, hu.2⟩
  refine h v' w' ⟨vs ++ [z], by simp [h1], by simpa using o2, fun i hi hi' => ?_⟩ g2 keep
  by_cases hj : i < vs.length
  · rw [List.getElem_append_left hj, List.getElem_append_left (by omega)]
    exact keep _ _ (h3 i (by omega) hj)
  · have hi2 : i = L.length := by simp at hi; omega
    subst hi2
    rw [List.getElem_append_right (by omega), List.getElem_append_right (by omega)]
    simp only [h1, Nat.sub_self, List.getElem_cons_zero]
    exact keep _ _ hd
end Go.Proofs.Ytgoghkboklehnaa
