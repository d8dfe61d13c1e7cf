/- Plain words of my own for slices in memory: no program is named here. -/
import Derived.Test.YtnjbebicnmnnkaaProg
import Derived.WalkKit
import Derived.WalkSpells
import Derived.WalkLawsBesides
import Derived.Lib.Hide
namespace Go.Proofs.Ytnjbebicnmnnkaa
open Go.RowKit

def I64 (n : Int) : Prop := -9223372036854775808 ≤ n ∧ n ≤ 9223372036854775807

/-- An argument's slice of ints, known by its cells alone. -/
def ArgI (w : World) (v : Value) (xs : List Int) : Prop :=
  ∃ A cap, v = .slice A xs.length cap ∧ xs.length ≤ cap ∧ cap ≤ maxLen ∧ (∀ x ∈ xs, I64 x) ∧
    (0 < xs.length → ∃ b off, A = some ⟨b, off, none⟩ ∧ ∀ i (hi : i < xs.length), w.cell? ⟨b, off + i, none⟩ = some (.int .i64 xs[i]))

/-- A slice that reads as a list of ints: its block is one of ints. -/
def RdI (w : World) (v : Value) (xs : List Int) : Prop :=
  ∃ A cap, v = .slice A xs.length cap ∧ xs.length ≤ cap ∧ cap ≤ maxLen ∧ (∀ x ∈ xs, I64 x) ∧ (A = none → cap = 0) ∧
    (0 < xs.length → ∃ b off cur fr, A = some ⟨b, off, none⟩ ∧ w.heap[b]? = some (.cells cur 3 fr) ∧ ∀ i (hi : i < xs.length), cur[off + i]? = some (.int .i64 xs[i]))

/-- A fresh row of ints that the caller alone holds. -/
def OwI (w : World) (base : Nat) (v : Value) (xs : List Int) : Prop :=
  w.ownsRow base 3 1 v xs.length (xs.map (Value.int .i64)) ∧ (∀ x ∈ xs, I64 x)

theorem int_info : (Try.prog.info? 3).map (fun i => (i.zero, i.size, i.bytes)) = some (some (.int .i64 0), 1, 8) := by kernel_rfl

theorem RdI.cell {w : World} {v : Value} {xs : List Int} (h : RdI w v xs) : ArgI w v xs := by
  obtain ⟨A, cap, hv, hc, hm, hr, _, hb⟩ := h
  refine ⟨A, cap, hv, hc, hm, hr, fun h0 => ?_⟩
  obtain ⟨b, off, cur, fr, hA, hh, hx⟩ := hb h0
  exact ⟨b, off, hA, fun i hi => by rw [cell_of_row w b (off + i) cur _ fr hh]; exact hx i hi⟩

theorem ArgI.below {w w' : World} {v : Value} {xs : List Int} (h : ArgI w v xs) (hb : Below w.heap.size w w') : ArgI w' v xs := by
  obtain ⟨A, cap, hv, hc, hm, hr, hx⟩ := h
  refine ⟨A, cap, hv, hc, hm, hr, fun h0 => ?_⟩
  obtain ⟨b, off, hA, hx⟩ := hx h0
  exact ⟨b, off, hA, fun i hi => (hb.cell (World.block_lt_of_cell? w _ (hx i hi))).trans (hx i hi)⟩

theorem RdI.mono {w w' : World} {v : Value} {xs : List Int} (h : RdI w v xs) (hk : ∀ b, v.ownBlock = some b → b < w.heap.size → w'.heap[b]? = w.heap[b]?) : RdI w' v xs := by
  obtain ⟨A, cap, hv, hc, hm, hr, hn, hb⟩ := h
  refine ⟨A, cap, hv, hc, hm, hr, hn, fun h0 => ?_⟩
  obtain ⟨b, off, cur, fr, hA, hh, hx⟩ := hb h0
  have hlt : b < w.heap.size := by
    rcases Nat.lt_or_ge b w.heap.size with h | h
    · exact h
    · rw [Array.getElem?_eq_none h] at hh; cases hh
  exact ⟨b, off, cur, fr, hA, by rw [hk b (by rw [hv, hA]; rfl) hlt]; exact hh, hx⟩

theorem RdI.below {w w' : World} {v : Value} {xs : List Int} (h : RdI w v xs) (hb : Below w.heap.size w w') : RdI w' v xs :=
  h.mono fun b _ hlt => hb.block b hlt

theorem RdI.drew {w : World} {v : Value} {xs : List Int} (h : RdI w v xs) : RdI w.drew v xs := h
theorem RdI.alloc {w : World} {v : Value} {xs : List Int} (h : RdI w v xs) (o : Obj) : RdI (w.alloc o) v xs :=
  h.mono fun b _ hlt => Below.heap_alloc w o b hlt
theorem RdI.grown {w w' : World} {v : Value} {xs : List Int} (h : RdI w v xs) {row : Option Nat} (hg : w.grownBy w' row) (hne : ∀ b, v.ownBlock = some b → row = some b → False) : RdI w' v xs :=
  h.mono fun b hv hlt => hg.block b hlt (fun e => hne b hv e.symm)

theorem OwI.rd {w : World} {base : Nat} {v : Value} {xs : List Int} (h : OwI w base v xs) : RdI w v xs := by
  obtain ⟨h, hr⟩ := h
  have h' := h
  rcases h.2 with ⟨hv, hn⟩ | ⟨g, cap, cur, hv, hg, hh, hnc, hcm, hcs, htake⟩
  · have : xs = [] := List.eq_nil_of_length_eq_zero hn
    subst this
    exact ⟨none, 0, hv, Nat.le_refl _, by simp [maxLen], hr, fun _ => rfl, fun h => absurd h (by simp)⟩
  · refine ⟨_, cap, hv, hnc, hcm, hr, (fun h => by cases h), fun _ => ⟨g, 0, cur, _, rfl, hh, fun i hi => ?_⟩⟩
    have : (cur.toList.take (xs.length * 1))[i]? = (xs.map (Value.int .i64))[i]? := by rw [htake]
    rw [List.getElem?_take, if_pos (by omega)] at this
    simpa [hi] using this

theorem RdI.drewN {w : World} {v : Value} {xs : List Int} (h : RdI w v xs) (n : Nat) : RdI (w.drewN n) v xs := h
theorem ArgI.drewN {w : World} {v : Value} {xs : List Int} (h : ArgI w v xs) (n : Nat) : ArgI (w.drewN n) v xs := h
theorem bel_drewN {B : Nat} {a w : World} (h : Below B a w) (n : Nat) : Below B a (w.drewN n) := ⟨h.os, h.tape, h.output, h.size, h.block⟩
theorem ret_bool {a b : Bool} (h : a = b) : Ending.returned (.bool a) = .returned (.bool b) := by rw [h]
theorem ret_int {k : IntKind} {a b : Int} (h : a = b) : Ending.returned (.int k a) = .returned (.int k b) := by rw [h]
theorem take_eq_succ {α} {xs ys : List α} {k : Nat} (h : xs.take k = ys.take k) (hx : k < xs.length) (hy : k < ys.length) (he : xs[k] = ys[k]) : xs.take (k + 1) = ys.take (k + 1) := by
  rw [List.take_succ_eq_append_getElem hx, List.take_succ_eq_append_getElem hy, h, he]

end Go.Proofs.Ytnjbebicnmnnkaa
