/- Lists of lists of ints in the laws: as arguments, copied, counted, compared, marked, read again. -/
import Derived.Test.YtjmjhhdjlompfaaOwnF
import Derived.Test.YtjmjhhdjlompfaaMark
import Derived.Test.YtjmjhhdjlompfaaPut
import Derived.Test.YtjmjhhdjlompfaaLaw
import Derived.Deep.RegionHeld3
import Derived.Outline
namespace Go.Proofs.Ytjmjhhdjlompfaa
set_option maxRecDepth 20000
set_option linter.unusedVariables false
set_option linter.unusedSimpArgs false
open Go.RowKit

def cI (xs : List Int) : Nat := xs.length
def mI (k : Int) (xs : List Int) : List Int := iota k xs.length
abbrev OIIs (lo hi : Nat) (v : Value) (L : List (List Int)) (w : World) : Prop := OwII lo hi v L w
theorem OIIs.ob {lo : Nat} {v : Value} {L : List (List Int)} {w : World} (h : OIIs lo w.heap.size v L w) : Ob (OIIs lo w.heap.size v L) lo w.heap.size w :=
  ⟨h, fun _ _ hu hb => OwnL.keep hu EI.stable hb, Nat.le_refl _⟩
/-- A list of lists known by its cells. -/
def ArgII (w : World) (v : Value) (ds : List (List Int)) : Prop :=
  ∃ A cap, v = .slice A ds.length cap ∧ ds.length ≤ cap ∧ cap ≤ maxLen ∧ (A = none → cap = 0) ∧
    (0 < ds.length → ∃ b off, A = some ⟨b, off, none⟩ ∧ b < w.heap.size ∧ ∀ k (hk : k < ds.length), ∃ s, w.cell? ⟨b, off + k, none⟩ = some s ∧ ArgI w s ds[k])
section
variable {w w' : World} {v : Value} {ds : List (List Int)} {lo hi : Nat}
theorem ArgI.same {xs : List Int} (h : ArgI w v xs) (hs : ∀ b, b < w.heap.size → w'.heap[b]? = w.heap[b]?) : ArgI w' v xs := by
  obtain ⟨A, cap, hv, hc, hm, hr, hx⟩ := h
  refine ⟨A, cap, hv, hc, hm, hr, fun h0 => ?_⟩
  obtain ⟨b, off, hA, hx⟩ := hx h0
  refine ⟨b, off, hA, fun i hi => ?_⟩
  rw [World.cell?_of_block (w := w) (hs b (World.block_lt_of_cell? w _ (hx i hi)))]
  exact hx i hi
theorem ArgII.same (h : ArgII w v ds) (hs : ∀ b, b < w.heap.size → w'.heap[b]? = w.heap[b]?) : ArgII w' v ds := by
  obtain ⟨A, cap, hv, hc, hm, hn, hx⟩ := h
  refine ⟨A, cap, hv, hc, hm, hn, fun h0 => ?_⟩
  obtain ⟨b, off, hA, hlt, hx⟩ := hx h0
  have hh := hs b hlt
  refine ⟨b, off, hA, ?_, fun k hk => ?_⟩
  · rw [Array.getElem?_eq_getElem hlt] at hh
    exact lt_of_heap hh
  · obtain ⟨s, h1, h2⟩ := hx k hk
    exact ⟨s, (World.cell?_of_block (w := w) hh).trans h1, h2.same hs⟩
theorem ArgII.below (h : ArgII w v ds) (hb : Below w.heap.size w w') : ArgII w' v ds := h.same fun b hlt => hb.block b hlt
theorem ArgII.form (h : ArgII w v ds) : ∃ A cap, v = .slice A ds.length cap := by
  obtain ⟨A, cap, hv, _⟩ := h
  exact ⟨A, cap, hv⟩
theorem ArgII.at {A : Option Addr} {m cap : Nat} (h : ArgII w (.slice A m cap) ds) {k : Nat} (hk : k < ds.length) :
    ∃ b off A1 c1, A = some ⟨b, off, none⟩ ∧ b < w.heap.size ∧ w.cell? ⟨b, off + k, none⟩ = some (.slice A1 ds[k].length c1) ∧ ArgI w (.slice A1 ds[k].length c1) ds[k] := by
  obtain ⟨A', cap', hv, hc, hm, hn, hx⟩ := h
  obtain ⟨b, off, hA, hlt, hx⟩ := hx (by omega)
  injection hv with e1 e2 e3
  obtain ⟨s, h1, h2⟩ := hx k hk
  obtain ⟨A1, c1, rfl⟩ := ArgI.form h2
  exact ⟨b, off, A1, c1, e1.trans hA, hlt, h1, h2⟩
end
theorem ArgII.ob {w : World} {v : Value} {ds : List (List Int)} (h : ArgII w v ds) : Ob (Kept w fun w => ArgII w v ds) 0 w.heap.size w := Kept.ob h
def cntLL (ds : List (List Int)) : Nat := ds.length + cntL cI ds
theorem cntLL_each {ds : List (List Int)} {n : Nat} (h : cntLL ds ≤ n) : ds.length ≤ n ∧ ∀ d ∈ ds, d.length ≤ n := by
  refine ⟨by unfold cntLL at h; omega, fun d hd => ?_⟩
  obtain ⟨i, hi, rfl⟩ := List.getElem_of_mem hd
  have := cntL_at (c := cI) ds i hi
  unfold cntLL at h
  unfold cI at this h
  omega
theorem toList_ones (z : Value) (n : Nat) : (List.replicate n [z]).flatten = List.replicate n z := by
  induction n with
  | zero => rfl
  | succ n ih => simp [List.replicate_succ, ih]
theorem fill_set1 {α} (xs : List α) (z : α) (k : Nat) (hk : k < xs.length) : (xs.take k ++ List.replicate (xs.length - k) z).set k xs[k] = xs.take (k + 1) ++ List.replicate (xs.length - (k + 1)) z := by
  have e : xs.length - k = (xs.length - (k + 1)) + 1 := by omega
  rw [e, List.replicate_succ, List.set_append_right _ _ (by simp; omega), List.length_take, Nat.min_eq_left (by omega), Nat.sub_self, List.set_cons_zero, List.take_succ_eq_append_getElem hk]
  simp only [List.append_assoc, List.cons_append, List.nil_append]
theorem OwI.nil0 {w : World} {base : Nat} : OwI w base (.slice none 0 0) [] := ⟨⟨rfl, .inl ⟨rfl, rfl⟩⟩, I64s_nil⟩
theorem cnt_small {n : Nat} : ∀ {L : List (List Int)}, (∀ x ∈ L, x.length ≤ n) → cntL cI L ≤ L.length * n
  | [], _ => by simp [cntL]
  | x :: L, h => by
    have h1 := cnt_small (n := n) (L := L) fun y hy => h y (by simp [hy])
    have h2 := h x (by simp)
    unfold cntL at h1 ⊢
    rw [List.map_cons, List.sum_cons, List.length_cons, Nat.add_mul, Nat.one_mul]
    unfold cI at h1 ⊢
    omega
end Go.Proofs.Ytjmjhhdjlompfaa
