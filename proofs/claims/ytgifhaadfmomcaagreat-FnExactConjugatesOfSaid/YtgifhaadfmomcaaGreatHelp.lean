/- The helpers of the laws over slices of ints: toIntS copies, eqIntS compares, markIntS writes, heldIntS reads. -/
import Derived.Test.YtgifhaadfmomcaaGreatBase
namespace Go.Proofs.YtgifhaadfmomcaaGreat
set_option maxRecDepth 20000
set_option linter.unusedVariables false
set_option linter.unusedSimpArgs false
open Go.RowKit

theorem set_of_zeros (xs : List Int) (k : Nat) (hk : k < xs.length) :
    (((xs.take k).map (Value.int .i64)) ++ List.replicate (xs.length - k) (Value.int .i64 0)).set k (.int .i64 xs[k]) = ((xs.take (k + 1)).map (Value.int .i64)) ++ List.replicate (xs.length - (k + 1)) (Value.int .i64 0) := by
  have e : xs.length - k = (xs.length - (k + 1)) + 1 := by omega
  rw [e, List.replicate_succ, List.set_append_right _ _ (by simp; omega), List.length_map, List.length_take, Nat.min_eq_left (by omega), Nat.sub_self, List.set_cons_zero, List.take_succ_eq_append_getElem hk]
  simp only [List.map_append, List.map_cons, List.map_nil, List.append_assoc, List.cons_append, List.nil_append]

def iota (k : Int) (n : Nat) : List Int := (List.range n).map fun i => k + (i : Nat)
theorem iota_length (k : Int) (n : Nat) : (iota k n).length = n := by simp [iota]
theorem iota_get (k : Int) (n i : Nat) (h : i < n) : (iota k n)[i]'(by simp [iota, h]) = k + (i : Nat) := by simp [iota]
theorem mark_step (k : Int) (xs : List Int) (i : Nat) (hi : i < xs.length) :
    (((iota k i ++ xs.drop i).map (Value.int .i64)).set i (.int .i64 (k + (i : Nat)))) = (iota k (i + 1) ++ xs.drop (i + 1)).map (Value.int .i64) := by
  have e : xs.drop i = xs[i] :: xs.drop (i + 1) := List.drop_eq_getElem_cons hi
  rw [e, ← List.map_set, List.set_append_right _ _ (by simp [iota])]
  simp only [iota, List.length_map, List.length_range, Nat.sub_self, List.set_cons_zero, List.range_succ, List.map_append, List.map_cons, List.map_nil, List.append_assoc, List.cons_append, List.nil_append]

end Go.Proofs.YtgifhaadfmomcaaGreat
