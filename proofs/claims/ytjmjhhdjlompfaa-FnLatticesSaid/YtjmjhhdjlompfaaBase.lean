/- Words of my own for slices in memory: what a slice reads as, what a call alone holds. -/
import Derived.Test.YtjmjhhdjlompfaaProg
import Derived.WalkKit
import Derived.WalkSpells
import Derived.WalkLawsBesides
import Derived.Lib.Hide
import Derived.Maps.AppendAt
import Derived.Deep.AppendLies
import Derived.RegionTactic
import Derived.Deep.QuietTactic
import Derived.BigQuiet
namespace Go.Proofs.Ytjmjhhdjlompfaa
set_option maxRecDepth 20000
set_option linter.unusedVariables false
set_option linter.unusedSimpArgs false
open Go.RowKit

def I64 (n : Int) : Prop := -9223372036854775808 ≤ n ∧ n ≤ 9223372036854775807
abbrev I64s (xs : List Int) : Prop := ∀ x ∈ xs, I64 x
abbrev ints (xs : List Int) : List Value := xs.map (Value.int .i64)
theorem ints_length (xs : List Int) : (ints xs).length = xs.length := by simp [ints]
theorem ints_get (xs : List Int) (i : Nat) (h : i < xs.length) : (ints xs)[i]'(by simpa [ints] using h) = .int .i64 xs[i] := by simp [ints]
theorem ints_append (xs ys : List Int) : ints (xs ++ ys) = ints xs ++ ints ys := by simp [ints]

/-- A slice of n elements (of type t, 'size' cells each) whose cells are cs. -/
def RdV (t : TypeId) (size : Nat) (w : World) (v : Value) (n : Nat) (cs : List Value) : Prop :=
  cs.length = n * size ∧ ∃ A cap, v = .slice A n cap ∧ n ≤ cap ∧ cap ≤ maxLen ∧ (A = none → cap = 0) ∧
    (0 < n → ∃ b off cur fr, A = some ⟨b, off, none⟩ ∧ w.heap[b]? = some (.cells cur t fr) ∧ ∀ i (hi : i < cs.length), cur[off + i]? = some cs[i])

/-- A slice that reads as a list of ints. -/
def RdI (w : World) (v : Value) (xs : List Int) : Prop := RdV 3 1 w v xs.length (ints xs) ∧ I64s xs

/-- A fresh row of ints that the caller alone holds. -/
def OwI (w : World) (base : Nat) (v : Value) (xs : List Int) : Prop := w.ownsRow base 3 1 v xs.length (ints xs) ∧ I64s xs

/-- A slice of slices of ints that reads as L. -/
def RdII (w : World) (v : Value) (L : List (List Int)) : Prop :=
  ∃ vs : List Value, vs.length = L.length ∧ RdV 30 1 w v L.length vs ∧ ∀ i (h : i < L.length) (h' : i < vs.length), RdI w vs[i] L[i]

/-- A slice of ints known by its cells alone. -/
def ArgI (w : World) (v : Value) (xs : List Int) : Prop :=
  ∃ A cap, v = .slice A xs.length cap ∧ xs.length ≤ cap ∧ cap ≤ maxLen ∧ I64s xs ∧
    (0 < xs.length → ∃ b off, A = some ⟨b, off, none⟩ ∧ ∀ i (hi : i < xs.length), w.cell? ⟨b, off + i, none⟩ = some (.int .i64 xs[i]))

theorem int_info : (Try.prog.info? 3).map (fun i => (i.zero, i.size, i.bytes)) = some (some (.int .i64 0), 1, 8) := by kernel_rfl

section
variable {t : TypeId} {size : Nat} {w w' : World} {v : Value} {n : Nat} {cs : List Value} {xs : List Int} {base : Nat}
theorem lt_of_heap {b : Nat} {o : Obj} (h : w.heap[b]? = some o) : b < w.heap.size := by
  rcases Nat.lt_or_ge b w.heap.size with h' | h'
  · exact h'
  · rw [Array.getElem?_eq_none h'] at h; cases h
theorem RdV.mono (h : RdV t size w v n cs) (hk : ∀ b, v.ownBlock = some b → b < w.heap.size → w'.heap[b]? = w.heap[b]?) : RdV t size w' v n cs := by
  obtain ⟨hl, A, cap, hv, hc, hm, hn, hb⟩ := h
  refine ⟨hl, A, cap, hv, hc, hm, hn, fun h0 => ?_⟩
  obtain ⟨b, off, cur, fr, hA, hh, hx⟩ := hb h0
  exact ⟨b, off, cur, fr, hA, by rw [hk b (by rw [hv, hA]; rfl) (lt_of_heap hh)]; exact hh, hx⟩
theorem RdV.below (h : RdV t size w v n cs) (hb : Below w.heap.size w w') : RdV t size w' v n cs := h.mono fun b _ hlt => hb.block b hlt
theorem RdV.alloc (h : RdV t size w v n cs) (o : Obj) : RdV t size (w.alloc o) v n cs := h.mono fun b _ hlt => Below.heap_alloc w o b hlt
theorem RdV.drew (h : RdV t size w v n cs) : RdV t size w.drew v n cs := h
theorem RdV.drewN (h : RdV t size w v n cs) (k : Nat) : RdV t size (w.drewN k) v n cs := h
theorem RdV.grown (h : RdV t size w v n cs) {row : Option Nat} (hg : w.grownBy w' row) (hne : ∀ b, v.ownBlock = some b → row = some b → False) : RdV t size w' v n cs :=
  h.mono fun b hv hlt => hg.block b hlt (fun e => hne b hv e.symm)
/-- Writes to a row of another element type leave it. -/
theorem RdV.grown_ty (h : RdV t size w v n cs) {e : TypeId} {sz m : Nat} {u : Value} {ds : List Value} (ho : w.ownsRow base e sz u m ds) (hne : e ≠ t) (hg : w.grownBy w' u.ownBlock) : RdV t size w' v n cs := by
  obtain ⟨hl, A, cap, hv, hc, hm, hn, hb⟩ := h
  refine ⟨hl, A, cap, hv, hc, hm, hn, fun h0 => ?_⟩
  obtain ⟨b, off, cur, fr, hA, hh, hx⟩ := hb h0
  refine ⟨b, off, cur, fr, hA, ?_, hx⟩
  rw [hg.block b (lt_of_heap hh)]
  · exact hh
  · intro hu
    rcases ho.2 with ⟨rfl, _⟩ | ⟨g, cap', cur', rfl, _, hh', _⟩
    · cases hu
    · obtain rfl : b = g := by simpa [Value.ownBlock] using hu
      rw [hh'] at hh
      injection hh with hh
      injection hh with _ ht
      exact hne ht
theorem RdV.of_own (h : w.ownsRow base t size v n cs) : RdV t size w v n cs := by
  refine ⟨h.1, ?_⟩
  rcases h.2 with ⟨rfl, rfl⟩ | ⟨g, cap, cur, rfl, hg, hh, hnc, hcm, hcs, htake⟩
  · exact ⟨none, 0, rfl, Nat.le_refl _, by simp [maxLen], fun _ => rfl, fun h => absurd h (by simp)⟩
  · refine ⟨_, cap, rfl, hnc, hcm, (fun h => by cases h), fun _ => ⟨g, 0, cur, _, rfl, hh, fun i hi => ?_⟩⟩
    have hi' : i < n * size := by rw [← h.1]; exact hi
    have : (cur.toList.take (n * size))[i]? = cs[i]? := by rw [htake]
    rw [List.getElem?_take, if_pos hi'] at this
    simpa [hi] using this
theorem RdV.cell (h : RdV t size w v n cs) : ∃ A cap, v = .slice A n cap ∧ n ≤ cap ∧ cap ≤ maxLen ∧ (A = none → cap = 0) ∧
    (0 < n → ∃ b off, A = some ⟨b, off, none⟩ ∧ b < w.heap.size ∧ ∀ i (hi : i < cs.length), w.cell? ⟨b, off + i, none⟩ = some cs[i]) := by
  obtain ⟨hl, A, cap, hv, hc, hm, hn, hb⟩ := h
  refine ⟨A, cap, hv, hc, hm, hn, fun h0 => ?_⟩
  obtain ⟨b, off, cur, fr, hA, hh, hx⟩ := hb h0
  exact ⟨b, off, hA, lt_of_heap hh, fun i hi => by rw [cell_of_row w b (off + i) cur _ fr hh]; exact hx i hi⟩
theorem OwI.set {g cap : Nat} (h : OwI w base (.slice (some ⟨g, 0, none⟩) n cap) xs) (j : Nat) (z : Int) (hz : I64 z) :
    OwI (w.setCell ⟨g, j, none⟩ (.int .i64 z)) base (.slice (some ⟨g, 0, none⟩) n cap) (xs.set j z) ∧ w.grownBy (w.setCell ⟨g, j, none⟩ (.int .i64 z)) (some g) := by
  have hn : n = xs.length := by
    rcases h.1.2 with ⟨hv, _⟩ | ⟨g', cap', cur, hv, _⟩
    · cases hv
    · injection hv
  subst hn
  obtain ⟨h1, h2⟩ := h.1.stored j (.int .i64 z)
  refine ⟨⟨?_, fun y hy => ?_⟩, h2⟩
  · rw [List.length_set]
    simpa [ints, List.map_set] using h1
  · rcases List.mem_or_eq_of_mem_set hy with hy | rfl
    · exact h.2 y hy
    · exact hz
theorem OwI.cellAt {g cap : Nat} (h : OwI w base (.slice (some ⟨g, 0, none⟩) n cap) xs) (j : Nat) (hj : j < xs.length) : w.cell? ⟨g, j, none⟩ = some (.int .i64 xs[j]) := by
  have hn : n = xs.length := by
    rcases h.1.2 with ⟨hv, _⟩ | ⟨g', cap', cur, hv, _⟩
    · cases hv
    · injection hv
  subst hn
  rw [h.1.cellAt j (by omega)]
  simp [ints, hj]
theorem OwI.free {g cap : Nat} (h : OwI w base (.slice (some ⟨g, 0, none⟩) n cap) xs) (j : Nat) : w.frozen? ⟨g, j, none⟩ = false := by
  have hn : n = xs.length := by
    rcases h.1.2 with ⟨hv, _⟩ | ⟨g', cap', cur, hv, _⟩
    · cases hv
    · injection hv
  subst hn
  exact h.1.frozenAt j
/-- What a cut 'v[k:]' reads as; the address as the walk leaves it. -/
theorem RdV.cut (h : RdV t 1 w v n cs) {k cap : Nat} {A : Option Addr} (hv : v = .slice A n cap) (hk : k ≤ n) :
    RdV t 1 w (.slice (if cap = k then A else A.map (·.add k)) (n - k) (cap - k)) (n - k) (cs.drop k) := by
  obtain ⟨hl, A', cap', hv', hc, hm, hn, hb⟩ := h
  rw [hv'] at hv
  obtain ⟨rfl, -, rfl⟩ : A' = A ∧ True ∧ cap' = cap := by simpa using hv
  refine ⟨by simp [hl], _, _, rfl, by omega, by omega, ?_, fun h0 => ?_⟩
  · split
    · omega
    · intro h; cases A' with
      | none => have := hn rfl; omega
      | some a => cases h
  · obtain ⟨b, off, cur, fr, rfl, hh, hx⟩ := hb (by omega)
    rw [if_neg (by omega)]
    refine ⟨b, off + k, cur, fr, by simp [Addr.add_lit], hh, fun i hi => ?_⟩
    rw [List.getElem_drop, Nat.add_assoc]
    exact hx _ _
/-- What a cut 'v[:k]' reads as. -/
theorem RdV.head (h : RdV t 1 w v n cs) {k cap : Nat} {A : Option Addr} (hv : v = .slice A n cap) (hk : k ≤ n) : RdV t 1 w (.slice A k cap) k (cs.take k) := by
  obtain ⟨hl, A', cap', hv', hc, hm, hn, hb⟩ := h
  rw [hv'] at hv
  obtain ⟨rfl, -, rfl⟩ : A' = A ∧ True ∧ cap' = cap := by simpa using hv
  refine ⟨by simp [hl]; omega, _, _, rfl, by omega, hm, hn, fun h0 => ?_⟩
  obtain ⟨b, off, cur, fr, rfl, hh, hx⟩ := hb (by omega)
  refine ⟨b, off, cur, fr, rfl, hh, fun i hi => ?_⟩
  rw [List.getElem_take]
  exact hx _ _

theorem RdI.arg (h : RdI w v xs) : ArgI w v xs := by
  obtain ⟨A, cap, hv, hc, hm, _, hb⟩ := h.1.cell
  refine ⟨A, cap, hv, hc, hm, h.2, fun h0 => ?_⟩
  obtain ⟨b, off, hA, _, hx⟩ := hb h0
  refine ⟨b, off, hA, fun i hi => ?_⟩
  rw [hx i (by rw [ints_length]; exact hi), ints_get]
theorem RdI.at {A : Option Addr} {m cap : Nat} (h : RdI w (.slice A m cap) xs) (h0 : 0 < xs.length) :
    ∃ b off, A = some ⟨b, off, none⟩ ∧ b < w.heap.size ∧ ∀ i (hi : i < xs.length), w.cell? ⟨b, off + i, none⟩ = some (.int .i64 xs[i]) := by
  obtain ⟨A', cap', hv, hc, hm, _, hb⟩ := h.1.cell
  obtain ⟨b, off, hA, hlt, hx⟩ := hb h0
  injection hv with hv
  refine ⟨b, off, hv.trans hA, hlt, fun i hi => ?_⟩
  rw [hx i (by rw [ints_length]; exact hi), ints_get]
theorem RdI.below (h : RdI w v xs) (hb : Below w.heap.size w w') : RdI w' v xs := ⟨h.1.below hb, h.2⟩
theorem RdI.drewN (h : RdI w v xs) (n : Nat) : RdI (w.drewN n) v xs := h
theorem RdI.drew (h : RdI w v xs) : RdI w.drew v xs := h
theorem RdI.alloc (h : RdI w v xs) (o : Obj) : RdI (w.alloc o) v xs := ⟨h.1.alloc o, h.2⟩
theorem RdI.grown (h : RdI w v xs) {row : Option Nat} (hg : w.grownBy w' row) (hne : ∀ b, v.ownBlock = some b → row = some b → False) : RdI w' v xs := ⟨h.1.grown hg hne, h.2⟩
theorem RdI.cut (h : RdI w v xs) {k cap : Nat} {A : Option Addr} (hv : v = .slice A xs.length cap) (hk : k ≤ xs.length) :
    RdI w (.slice (if cap = k then A else A.map (·.add k)) (xs.length - k) (cap - k)) (xs.drop k) := by
  refine ⟨?_, fun x hx => h.2 x (List.mem_of_mem_drop hx)⟩
  have := h.1.cut hv hk
  simpa [ints] using this
theorem RdI.head (h : RdI w v xs) {k cap : Nat} {A : Option Addr} (hv : v = .slice A xs.length cap) (hk : k ≤ xs.length) : RdI w (.slice A k cap) (xs.take k) := by
  refine ⟨?_, fun x hx => h.2 x (List.mem_of_mem_take hx)⟩
  have := h.1.head hv hk
  simpa [ints, Nat.min_eq_left hk] using this
theorem RdII.below {L : List (List Int)} (h : RdII w v L) (hb : Below w.heap.size w w') : RdII w' v L := by
  obtain ⟨vs, h1, h2, h3⟩ := h
  exact ⟨vs, h1, h2.below hb, fun i hi hi' => (h3 i hi hi').below hb⟩
theorem RdII.drewN {L : List (List Int)} (h : RdII w v L) (k : Nat) : RdII (w.drewN k) v L := h
theorem RdII.form {L : List (List Int)} (h : RdII w v L) : ∃ A cap, v = .slice A L.length cap ∧ L.length ≤ cap ∧ cap ≤ maxLen ∧ (A = none → cap = 0) := by
  obtain ⟨vs, h1, h2, h3⟩ := h
  obtain ⟨A, cap, hv, hc, hm, hn, _⟩ := h2.cell
  exact ⟨A, cap, hv, hc, hm, hn⟩
theorem RdII.at {A : Option Addr} {m cap : Nat} {L : List (List Int)} (h : RdII w (.slice A m cap) L) {k : Nat} (hk : k < L.length) :
    ∃ b off A1 cap1, A = some ⟨b, off, none⟩ ∧ b < w.heap.size ∧ w.cell? ⟨b, off + k, none⟩ = some (.slice A1 L[k].length cap1) ∧ L[k].length ≤ cap1 ∧ cap1 ≤ maxLen ∧ RdI w (.slice A1 L[k].length cap1) L[k] := by
  obtain ⟨vs, h1, h2, h3⟩ := h
  obtain ⟨A', cap', hv, hc, hm, _, hb⟩ := h2.cell
  obtain ⟨b, off, hA, hlt, hx⟩ := hb (by omega)
  injection hv with hv
  have hr := h3 k hk (by omega)
  obtain ⟨A1, cap1, hv1, hc1, hm1, _⟩ := hr.1.cell
  refine ⟨b, off, A1, cap1, hv.trans hA, hlt, ?_, hc1, hm1, ?_⟩
  · rw [hx k (by omega), hv1]
  · rw [← hv1]; exact hr
theorem OwI.rd (h : OwI w base v xs) : RdI w v xs := ⟨RdV.of_own h.1, h.2⟩
theorem OwI.arg (h : OwI w base v xs) : ArgI w v xs := h.rd.arg
theorem OwI.mono {base' : Nat} (h : OwI w base v xs) (hb : base' ≤ base) : OwI w base' v xs := by
  refine ⟨⟨h.1.1, ?_⟩, h.2⟩
  rcases h.1.2 with h0 | ⟨g, cap, cur, hv, hg, r⟩
  · exact .inl h0
  · exact .inr ⟨g, cap, cur, hv, Nat.le_trans hb hg, r⟩
theorem ownsRow_below {e : TypeId} {sz : Nat} (h : w.ownsRow base e sz v n cs) (hb : Below w.heap.size w w') : w'.ownsRow base e sz v n cs := by
  refine ⟨h.1, ?_⟩
  rcases h.2 with h0 | ⟨g, cap, cur, hv, hg, hh, r⟩
  · exact .inl h0
  · exact .inr ⟨g, cap, cur, hv, hg, by rw [hb.block g (lt_of_heap hh)]; exact hh, r⟩
theorem OwI.drew (h : OwI w base v xs) : OwI w.drew base v xs := h
theorem OwI.far (h : OwI w base v xs) {p : Addr} (hp : p.block < base) (u : Value) : OwI (w.setCell p u) base v xs := ⟨ownsRow_setCell_below h.1 hp u, h.2⟩
theorem OwI.below (h : OwI w base v xs) (hb : Below w.heap.size w w') : OwI w' base v xs := ⟨ownsRow_below h.1 hb, h.2⟩
theorem OwI.drewN (h : OwI w base v xs) (k : Nat) : OwI (w.drewN k) base v xs := h
theorem OwI.kept {row : Option Nat} (h : OwI w base v xs) (hg : w.grownBy w' row) (hne : v.ownBlock = none ∨ v.ownBlock ≠ row) : OwI w' base v xs := ⟨h.1.kept hg hne, h.2⟩
/-- The shape of an owned row's value. -/
theorem owns_form {e : TypeId} {sz : Nat} (h : w.ownsRow base e sz v n cs) : ∃ A cap, v = .slice A n cap ∧ n ≤ cap ∧ cap ≤ maxLen ∧ (A = none → cap = 0) ∧ (0 < n → ∃ g, A = some ⟨g, 0, none⟩ ∧ base ≤ g ∧ g < w.heap.size) := by
  rcases h.2 with ⟨rfl, rfl⟩ | ⟨g, cap, cur, rfl, hg, hh, hnc, hcm, _⟩
  · exact ⟨none, 0, rfl, Nat.le_refl _, by simp [maxLen], fun _ => rfl, fun h => absurd h (by simp)⟩
  · exact ⟨_, cap, rfl, hnc, hcm, (fun h => by cases h), fun _ => ⟨g, rfl, hg, lt_of_heap hh⟩⟩
/-- 'out[:k]' of an owned row. -/
theorem owns_head {e : TypeId} {sz : Nat} (h : w.ownsRow base e sz v n cs) {A : Option Addr} {cap k : Nat} (hv : v = .slice A n cap) (hk : k ≤ n) : w.ownsRow base e sz (.slice A k cap) k (cs.take (k * sz)) := by
  refine ⟨by rw [List.length_take, h.1]; exact Nat.min_eq_left (Nat.mul_le_mul_right _ hk), ?_⟩
  rcases h.2 with ⟨hv', rfl⟩ | ⟨g, cap', cur, hv', hg, hh, hnc, hcm, hcs, htake⟩
  · rw [hv'] at hv
    obtain ⟨rfl, -, rfl⟩ : none = A ∧ True ∧ 0 = cap := by simpa using hv
    exact .inl ⟨by obtain rfl : k = 0 := by omega
                   rfl, by omega⟩
  · rw [hv'] at hv
    obtain ⟨rfl, -, rfl⟩ : some ⟨g, 0, none⟩ = A ∧ True ∧ cap' = cap := by simpa using hv
    refine .inr ⟨g, _, cur, rfl, hg, hh, by omega, hcm, hcs, ?_⟩
    rw [← htake, List.take_take, Nat.min_eq_left (Nat.mul_le_mul_right _ hk)]
theorem ArgI.below (h : ArgI w v xs) (hb : Below w.heap.size w w') : ArgI w' v xs := by
  obtain ⟨A, cap, hv, hc, hm, hr, hx⟩ := h
  refine ⟨A, cap, hv, hc, hm, hr, fun h0 => ?_⟩
  obtain ⟨b, off, hA, hx⟩ := hx h0
  exact ⟨b, off, hA, fun i hi => (hb.cell (World.block_lt_of_cell? w _ (hx i hi))).trans (hx i hi)⟩
theorem ArgI.drewN (h : ArgI w v xs) (k : Nat) : ArgI (w.drewN k) v xs := h
theorem bel_drewN {B : Nat} {a : World} (h : Below B a w) (k : Nat) : Below B a (w.drewN k) := ⟨h.os, h.tape, h.output, h.size, h.block⟩
end

theorem quiet_add_left {P : Program} {f : FuncId} {args : Array Value} {w : World} {a n : Nat} {v : Value}
    (h : Calls P f args (w.drewN (a + n)) fun e w' => e = .returned v ∧ w.drewN (a + n) = w') :
    Calls P f args (w.drewN (a + n)) fun e w'' => e = .returned v ∧ ∃ m, w'' = w.drewN (a + m) :=
  h.mono fun _ _ ⟨he, hm⟩ => ⟨he, n, hm.symm⟩
theorem quiet_left {P : Program} {f : FuncId} {args : Array Value} {w : World} {n : Nat} {v : Value}
    (h : Calls P f args (w.drewN n) fun e w' => e = .returned v ∧ w.drewN n = w') : Calls P f args (w.drewN n) fun e w'' => e = .returned v ∧ ∃ m, w'' = w.drewN m :=
  h.mono fun _ _ ⟨he, hm⟩ => ⟨he, n, hm.symm⟩
theorem I64_wrap0 (x : Int) : I64 (wrap64 x) := by
  unfold I64 wrap64; omega
theorem wrap_i64_eq (x : Int) : IntKind.i64.wrap x = wrap64 x := by
  rw [IntKind.wrap_i64]; unfold wrap64; rfl
theorem I64s_nil : I64s [] := fun _ h => by cases h
theorem OwI_lit (w : World) (xs : List Int) (hx : I64s xs) (hl : xs.length ≤ 1099511627776) {base : Nat} (hb : base ≤ w.heap.size) : OwI (w.alloc (.cells (ints xs).toArray 3)) base (.slice (some ⟨w.heap.size, 0, none⟩) xs.length xs.length) xs :=
  ⟨by have := World.ownsRow_lit (e := 3) (size := 1) w (ints xs).toArray xs.length hb (by unfold maxLen; omega) (by simp); simpa using this, hx⟩
theorem OwI_litN (w : World) (xs : List Int) (N : Nat) (hN : w.heap.size = N) (hx : I64s xs) (hl : xs.length ≤ 1099511627776) {base : Nat} (hb : base ≤ N) : OwI (w.alloc (.cells (ints xs).toArray 3)) base (.slice (some ⟨N, 0, none⟩) xs.length xs.length) xs := by
  subst hN; exact OwI_lit w xs hx hl hb
theorem bcell {W w1 : World} (hb : Below W.heap.size W w1) : (∀ b o, b < W.heap.size → w1.cell? ⟨b, o, none⟩ = W.cell? ⟨b, o, none⟩) ∧ (∀ b o, b < W.heap.size → w1.frozen? ⟨b, o, none⟩ = W.frozen? ⟨b, o, none⟩) :=
  ⟨fun b o h => hb.cell (p := ⟨b, o, none⟩) h, fun b o h => hb.frozen (p := ⟨b, o, none⟩) h⟩
theorem bcellN {N : Nat} {W w1 : World} (hb : Below N W w1) : (∀ b o, b < N → w1.cell? ⟨b, o, none⟩ = W.cell? ⟨b, o, none⟩) ∧ (∀ b o, b < N → w1.frozen? ⟨b, o, none⟩ = W.frozen? ⟨b, o, none⟩) :=
  ⟨fun b o h => hb.cell (p := ⟨b, o, none⟩) h, fun b o h => hb.frozen (p := ⟨b, o, none⟩) h⟩
theorem ret_bool {a b : Bool} (h : a = b) : Ending.returned (.bool a) = .returned (.bool b) := by rw [h]
theorem ret_int {k : IntKind} {a b : Int} (h : a = b) : Ending.returned (.int k a) = .returned (.int k b) := by rw [h]
theorem take_eq_succ {α} {xs ys : List α} {k : Nat} (h : xs.take k = ys.take k) (hx : k < xs.length) (hy : k < ys.length) (he : xs[k] = ys[k]) : xs.take (k + 1) = ys.take (k + 1) := by
  rw [List.take_succ_eq_append_getElem hx, List.take_succ_eq_append_getElem hy, h, he]
theorem one_cell_new {w : World} {u : Value} {t : TypeId} {news : List Value} (hn : news = [u]) : ∀ j x, news[j]? = some x → (w.alloc (.cells #[u] t)).cell? ((⟨w.heap.size, 0, none⟩ : Addr).add j) = some x := by
  subst hn
  intro j x hj
  match j, hj with
  | 0, hj => simp at hj; subst hj; simp [Addr.add]
theorem cell_new1 (w : World) (u : Value) (t : TypeId) : (w.alloc (.cells #[u] t)).cell? ⟨w.heap.size, 0, none⟩ = some u := by
  exact cell_one_new w u t 0 u rfl
theorem OwI.alloc {w : World} {base : Nat} {v : Value} {xs : List Int} (h : OwI w base v xs) (o : Obj) : OwI (w.alloc o) base v xs := ⟨h.1.alloc o, h.2⟩

/-- 'out = append(out, x)' onto an owned row of ints. -/
theorem push_int {w : World} {ops : Array Oper} {rest : List Oper} {o : Oper} {a : Act} {Q : Exit → Act → World → Prop} (hgd : o.guard = none) (s x : Operand)
    (ho : o.op = .call { callee := .builtin .append, args := #[s, x], argTypes := #[30, 30] })
    (base : Nat) (v : Value) (xs : List Int) (hown : OwI w base v xs) (hs : a.eval s = v) (b : Nat) (z : Int) (hx : a.eval x = .slice (some ⟨b, 0, none⟩) 1 1)
    (hc : w.cell? ⟨b, 0, none⟩ = some (.int .i64 z)) (hz : I64 z) (hl : xs.length ≤ 1099511627776) (hbase : base ≤ w.heap.size)
    (h : ∀ v' w', OwI w' base v' (xs ++ [z]) → w.grownBy w' v.ownBlock → (v'.ownBlock = v.ownBlock ∨ v'.ownBlock = some w.heap.size) → wpList Try.prog ops Q rest (a.put o.dst v') w') :
    wpList Try.prog ops Q (o :: rest) a w := by
  obtain ⟨i0, hi0, hz0, hz1, hz2⟩ := info_parts int_info
  refine wpList_append_own_at _ hgd s x 30 ho base 3 i0 (.int .i64 0) 1 8 Try.underlying30 hi0 hz0 hz1 hz2 rfl (by decide) v xs.length (ints xs) hs hown.1 ⟨b, 0, none⟩ 1 1 [.int .i64 z] hx rfl ?_ ?_ (by unfold maxLen; omega) (by omega) hbase ?_
  · intro j u hj
    match j, hj with
    | 0, hj => simp at hj; subst hj; simpa [Addr.add] using hc
  · intro u hu; simp at hu; subst hu; rfl
  · intro v' w' h1 h2 h3 h5
    exact h v' w' ⟨by simpa [ints] using h1, fun y hy => by
      rcases List.mem_append.1 hy with hy | hy
      · exact hown.2 y hy
      · simp at hy; subst hy; exact hz⟩ h2 h5

theorem owI_cut {w : World} {base : Nat} {A : Option Addr} {n cap : Nat} {xs : List Int} (h : OwI w base (.slice A n cap) xs) {k : Nat} (hk : k ≤ xs.length) : OwI w base (.slice A k cap) (xs.take k) := by
  obtain ⟨A', cap', hv, _⟩ := owns_form h.1
  injection hv with h1 h2 h3
  subst h2
  refine ⟨?_, fun x hx => h.2 x (List.mem_of_mem_take hx)⟩
  have := owns_head h.1 (k := k) rfl hk
  simpa [ints, Nat.min_eq_left hk] using this
theorem OwI.form {w : World} {base : Nat} {v : Value} {xs : List Int} (h : OwI w base v xs) : ∃ A cap, v = .slice A xs.length cap ∧ xs.length ≤ cap ∧ cap ≤ maxLen ∧ (A = none → cap = 0) ∧ (0 < xs.length → ∃ g, A = some ⟨g, 0, none⟩ ∧ base ≤ g ∧ g < w.heap.size) := owns_form h.1
/-- 'append(out, ys...)', out an owned row, ys a row that is read: at the operation. -/
theorem wp_append_ints {w : World} {o : Oper} {a : Act} {K : Act → World → Prop} {Q : Exit → Act → World → Prop} (s x : Operand)
    (ho : o.op = .call { callee := .builtin .append, args := #[s, x], argTypes := #[30, 30] })
    (base : Nat) (v : Value) (xs : List Int) (hown : OwI w base v xs) (hs : a.eval s = v) (u : Value) (ys : List Int) (hr : RdI w u ys) (hx : a.eval x = u)
    (hl : xs.length + ys.length ≤ 1099511627776) (hbase : base ≤ w.heap.size)
    (h : ∀ v' w', OwI w' base v' (xs ++ ys) → w.grownBy w' v.ownBlock → (v'.ownBlock = v.ownBlock ∨ v'.ownBlock = some w.heap.size) → K (a.put o.dst v') w') :
    o.wp Try.prog a w K Q := by
  obtain ⟨i0, hi0, hz0, hz1, hz2⟩ := info_parts int_info
  obtain ⟨A, cap, rfl, hc, hm, hn, hb⟩ := hr.1.cell
  rcases A with _ | ad
  · have h0 : ys = [] := List.eq_nil_of_length_eq_zero (by
      rcases Nat.eq_zero_or_pos ys.length with h0 | h0
      · exact h0
      · obtain ⟨_, _, h, _⟩ := hb h0; cases h)
    subst h0
    obtain rfl := hn rfl
    have hrun := run_append_owned_none (P := Try.prog) w base 30 o.type 3 i0 1 Try.underlying30 hi0 v xs.length (ints xs) hown.1
    unfold Oper.wp execOp
    simp only [ho, resolve, invoke, builtin, Sem.run_bind, Sem.run_pure, Result.andThen_ok, List.map_toArray, List.map_cons, List.map_nil, hs, hx, List.length_nil, hrun]
    exact h v w (by simpa using hown) (World.grownBy.refl _ _) (.inl rfl)
  · obtain ⟨v', w', hrun, h1, h2, _, h5⟩ := run_append_own_at (P := Try.prog) w base 30 o.type 3 i0 (.int .i64 0) 1 8 Try.underlying30 hi0 hz0 hz1 hz2 rfl (by decide) v xs.length (ints xs) hown.1 ad ys.length cap (ints ys) (by simp) (by
      intro j y hj
      have hj' : j < ys.length := by simpa using (List.getElem?_eq_some_iff.1 hj).1
      obtain ⟨b, off, had, _, hcl⟩ := hb (by omega)
      have had := Option.some.inj had
      subst had
      rw [Addr.add_lit, hcl j (by simpa using hj'), ← hj]
      simp [hj']) (ints_oneCell _ _) (by unfold maxLen; omega) (by omega) hbase
    unfold Oper.wp execOp
    simp only [ho, resolve, invoke, builtin, Sem.run_bind, Sem.run_pure, Result.andThen_ok, List.map_toArray, List.map_cons, List.map_nil, hs, hx, hrun]
    exact h v' w' ⟨by simpa [ints] using h1, fun y hy => by
      rcases List.mem_append.1 hy with hy | hy
      · exact hown.2 y hy
      · exact hr.2 y hy⟩ h2 h5
/-- The same in a list of operations. -/
theorem append_ints {w : World} {ops : Array Oper} {rest : List Oper} {o : Oper} {a : Act} {Q : Exit → Act → World → Prop} (hgd : o.guard = none) (s x : Operand)
    (ho : o.op = .call { callee := .builtin .append, args := #[s, x], argTypes := #[30, 30] })
    (base : Nat) (v : Value) (xs : List Int) (hown : OwI w base v xs) (hs : a.eval s = v) (u : Value) (ys : List Int) (hr : RdI w u ys) (hx : a.eval x = u)
    (hl : xs.length + ys.length ≤ 1099511627776) (hbase : base ≤ w.heap.size)
    (h : ∀ v' w', OwI w' base v' (xs ++ ys) → w.grownBy w' v.ownBlock → (v'.ownBlock = v.ownBlock ∨ v'.ownBlock = some w.heap.size) → wpList Try.prog ops Q rest (a.put o.dst v') w') :
    wpList Try.prog ops Q (o :: rest) a w :=
  wpList_plain hgd fun _ hK => wp_append_ints s x ho base v xs hown hs u ys hr hx hl hbase fun v' w' h1 h2 h3 => hK _ _ (h v' w' h1 h2 h3)
/-- The same as a step of a region that draws its order. -/
theorem step_append_ints {w : World} {ops : Array Oper} {o : Oper} {a : Act} {K : Act → World → Prop} {Q : Exit → Act → World → Prop} {E : Prop} (hgd : o.guard = none) (s x : Operand)
    (ho : o.op = .call { callee := .builtin .append, args := #[s, x], argTypes := #[30, 30] })
    (base : Nat) (v : Value) (xs : List Int) (hown : OwI w base v xs) (hs : a.eval s = v) (u : Value) (ys : List Int) (hr : RdI w u ys) (hx : a.eval x = u)
    (hl : xs.length + ys.length ≤ 1099511627776) (hbase : base ≤ w.heap.size)
    (h : ∀ v' w', OwI w' base v' (xs ++ ys) → w.grownBy w' v.ownBlock → (v'.ownBlock = v.ownBlock ∨ v'.ownBlock = some w.heap.size) → K (a.put o.dst v') w') :
    if Region.wanted o (yielded ops a.tmps) = true then Oper.wp Try.prog o a w K Q else E := by
  have hw : Region.wanted o (yielded ops a.tmps) = true := by simp [Region.wanted, hgd]
  rw [if_pos hw]
  exact wp_append_ints s x ho base v xs hown hs u ys hr hx hl hbase h
theorem ints_info : (Try.prog.info? 30).map (fun i => (i.zero, i.size, i.bytes)) = some (some (.slice none 0 0), 1, 24) := by kernel_rfl
/-- 'parts = append(parts, x)', x a slice of ints. -/
theorem push_row {w : World} {ops : Array Oper} {rest : List Oper} {o : Oper} {a : Act} {Q : Exit → Act → World → Prop} (hgd : o.guard = none) (s x : Operand)
    (ho : o.op = .call { callee := .builtin .append, args := #[s, x], argTypes := #[24, 24] })
    (base : Nat) (v : Value) (n : Nat) (vs : List Value) (hown : w.ownsRow base 30 1 v n vs) (hs : a.eval s = v) (b : Nat) (z : Value) (hx : a.eval x = .slice (some ⟨b, 0, none⟩) 1 1)
    (hc : w.cell? ⟨b, 0, none⟩ = some z) (hz : z.oneCell' = true) (hl : n ≤ 1099511627776) (hbase : base ≤ w.heap.size)
    (h : ∀ v' w', w'.ownsRow base 30 1 v' (n + 1) (vs ++ [z]) → w.grownBy w' v.ownBlock → (v'.ownBlock = v.ownBlock ∨ v'.ownBlock = some w.heap.size) → wpList Try.prog ops Q rest (a.put o.dst v') w') :
    wpList Try.prog ops Q (o :: rest) a w := by
  obtain ⟨i0, hi0, hz0, hz1, hz2⟩ := info_parts ints_info
  refine wpList_append_own_at _ hgd s x 24 ho base 30 i0 (.slice none 0 0) 1 24 Try.underlying24 hi0 hz0 hz1 hz2 rfl (by decide) v n vs hs hown ⟨b, 0, none⟩ 1 1 [z] hx rfl ?_ ?_ (by unfold maxLen; omega) (by omega) hbase ?_
  · intro j u hj
    match j, hj with
    | 0, hj => simp at hj; subst hj; simpa [Addr.add] using hc
  · intro u hu; simp at hu; subst hu; exact hz
  · intro v' w' h1 h2 h3 h5
    exact h v' w' h1 h2 h5
theorem rows_lit (w : World) (vs : List Value) (hl : vs.length ≤ 1099511627776) {base : Nat} (hb : base ≤ w.heap.size) : (w.alloc (.cells vs.toArray 30)).ownsRow base 30 1 (.slice (some ⟨w.heap.size, 0, none⟩) vs.length vs.length) vs.length vs := by
  have := World.ownsRow_lit (e := 30) (size := 1) w vs.toArray vs.length hb (by unfold maxLen; omega) (by simp)
  simpa using this
/-- A cut of one element. -/
theorem RdI.one {w : World} {b off cap n k : Nat} {xs : List Int} (h : RdI w (.slice (some ⟨b, off, none⟩) n cap) xs) (hk : k < xs.length) : RdI w (.slice (some ⟨b, off + k, none⟩) 1 (cap - k)) [xs[k]] := by
  obtain ⟨⟨hl, A', cap', hv, hc, hm, hn, hb⟩, hr⟩ := h
  injection hv with h1 h2 h3
  subst h1 h2 h3
  obtain ⟨b', off', cur, fr, hA, hh, hx⟩ := hb (by omega)
  have e1 : b = b' ∧ off = off' := by simpa using hA
  obtain ⟨rfl, rfl⟩ := e1
  refine ⟨⟨rfl, _, _, rfl, by simp; omega, by omega, (fun h => by cases h), fun _ => ⟨b, off + k, cur, fr, rfl, hh, fun i hi => ?_⟩⟩, fun x hx => ?_⟩
  · obtain rfl : i = 0 := by simp at hi; omega
    have := hx k (by simpa using hk)
    simpa using this
  · simp at hx
    subst hx
    exact hr _ (by simp)
/-- 'Below' behind such an append. -/
theorem bel_push {B base : Nat} {w0 w w1 : World} {v : Value} {o : Obj} {e : TypeId} {sz n : Nat} {cs : List Value} (hb : Below B w0 w) (hB : B ≤ w.heap.size) (ho : w.ownsRow base e sz v n cs) (hbB : B ≤ base) (hg : (w.alloc o).grownBy w1 v.ownBlock) : Below B w0 w1 :=
  (hb.alloc hB o).grown hg (by simp; omega) fun k hk => by have := ho.lt k hk; omega
theorem one_cells (xs : List Int) : ∀ u ∈ ints xs, u.oneCell' = true := ints_oneCell _ _

end Go.Proofs.Ytjmjhhdjlompfaa
