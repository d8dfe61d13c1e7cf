/- A row of slices of ints of the caller's own, each of which reads as a list (its cells may be anybody's). -/
import Derived.Test.YtfadnkjlilhneaaGreatBase
namespace Go.Proofs.YtfadnkjlilhneaaGreat
set_option maxRecDepth 20000
set_option linter.unusedVariables false
set_option linter.unusedSimpArgs false
open Go.RowKit

def PartsL (base : Nat) (w : World) (v : Value) (L : List (List Int)) : Prop :=
 ∃ vs : List Value, vs.length = L.length ∧ w.ownsRow base 26 1 v L.length vs ∧ ∀ i (h : i < L.length) (h' : i < vs.length), RdI w vs[i] L[i]
theorem PartsL.rd {base : Nat} {w : World} {v : Value} {L : List (List Int)} (h : PartsL base w v L) : RdII w v L := by
 obtain ⟨vs, h1, h2, h3⟩ := h
 exact ⟨vs, h1, RdV.of_own h2, h3⟩
theorem PartsL.form {base : Nat} {w : World} {v : Value} {L : List (List Int)} (h : PartsL base w v L) : ∃ A cap, v = .slice A L.length cap ∧ L.length ≤ cap ∧ cap ≤ maxLen := by
 obtain ⟨vs, h1, h2, h3⟩ := h
 obtain ⟨A, cap, hv, hc, hm, _⟩ := owns_form h2
 exact ⟨A, cap, hv, hc, hm⟩
theorem PartsL.lt {base : Nat} {w : World} {v : Value} {L : List (List Int)} (h : PartsL base w v L) (b : Nat) (hb : v.ownBlock = some b) : base ≤ b ∧ b < w.heap.size := by
 obtain ⟨vs, h1, h2, h3⟩ := h
 exact h2.lt b hb
theorem PartsL.below {base : Nat} {w w' : World} {v : Value} {L : List (List Int)} (h : PartsL base w v L) (hb : Below w.heap.size w w') : PartsL base w' v L := by
 obtain ⟨vs, h1, h2, h3⟩ := h
 exact ⟨vs, h1, ownsRow_below h2 hb, fun i hi hi' => (h3 i hi hi').below hb⟩
theorem PartsL.alloc {base : Nat} {w : World} {v : Value} {L : List (List Int)} (h : PartsL base w v L) (o : Obj) : PartsL base (w.alloc o) v L := h.below ((Below.refl _ _).alloc (Nat.le_refl _) _)
theorem PartsL.drewN {base : Nat} {w : World} {v : Value} {L : List (List Int)} (h : PartsL base w v L) (k : Nat) : PartsL base (w.drewN k) v L := h
theorem PartsL.nil (w : World) {base : Nat} (hb : base ≤ w.heap.size) : PartsL base (w.alloc (.cells #[] 26)) (.slice (some ⟨w.heap.size, 0, none⟩) 0 0) [] :=
 ⟨[], rfl, rows_lit w [] (by simp) hb, fun i h => absurd h (by simp)⟩
theorem PartsL.lit (w : World) (vs : List Value) (L : List (List Int)) (hl : vs.length = L.length) (h : ∀ i (h : i < L.length) (h' : i < vs.length), RdI w vs[i] L[i]) (hm : L.length ≤ 1099511627776) {base : Nat} (hb : base ≤ w.heap.size) :
  PartsL base (w.alloc (.cells vs.toArray 26)) (.slice (some ⟨w.heap.size, 0, none⟩) L.length L.length) L :=
 ⟨vs, hl, by have := rows_lit w vs (by omega) hb; rw [hl] at this; exact this, fun i h1 h2 => (h i h1 h2).alloc _⟩
end Go.Proofs.YtfadnkjlilhneaaGreat
