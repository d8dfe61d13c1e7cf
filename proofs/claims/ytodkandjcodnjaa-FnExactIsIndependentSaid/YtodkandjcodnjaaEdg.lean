/- The reference's l14Edges: the edges among the pairs of one component. The reference's l14Pairs: the pairs reached from one. Plain: pairs of vertices of two folded graphs: components of the pullback, their edges and ranks. -/
import Derived.Test.YtodkandjcodnjaaRankS
import Derived.Test.YtodkandjcodnjaaTrim
import Derived.Test.YtodkandjcodnjaaCanS
namespace Go.Proofs.Ytodkandjcodnjaa
set_option maxRecDepth 20000
set_option linter.unusedVariables false
set_option linter.unusedSimpArgs false
open Go.RowKit

theorem coreB_foldC {g : GrD} (h : coreB g = true) : foldB g = true := by
  unfold coreB at h
  simp only [Bool.and_eq_true] at h
  exact h.1.1
theorem letters_mem {r : Nat} {x : Int} : x ∈ lettersL r ↔ (1 ≤ x ∧ x ≤ r) ∨ (-(r : Int) ≤ x ∧ x ≤ -1) := by
  induction r with
  | zero => simp [lettersL]; omega
  | succ n ih =>
    unfold lettersL
    rw [List.mem_append, ih]
    simp
    omega
/-- A step can be taken back. -/
theorem nextV_mem {es : List EdD} {v x : Int} (h : 0 ≤ nextV es v x) : ∃ e ∈ es, mt v x e = some (nextV es v x) := by
  unfold nextV at *
  cases hs : stepsL es v x with
  | nil => rw [hs] at h; simp at h
  | cons y l =>
    have hy : y ∈ stepsL es v x := by rw [hs]; simp
    unfold stepsL at hy
    obtain ⟨e, he, hm⟩ := List.mem_filterMap.1 hy
    exact ⟨e, he, by simpa using hm⟩
theorem nextV_of {es : List EdD} (hf : Fol es) {v x y : Int} {e : EdD} (he : e ∈ es) (hm : mt v x e = some y) : nextV es v x = y := by
  have hy : y ∈ stepsL es v x := List.mem_filterMap.2 ⟨e, he, hm⟩
  have h1 := steps_one hf v x
  unfold nextV
  cases hs : stepsL es v x with
  | nil => rw [hs] at hy; simp at hy
  | cons z l =>
    rw [hs] at h1 hy
    have : l = [] := by simpa using h1
    subst this
    simp at hy
    simp [hy]
theorem nextV_back {g : GrD} (hg : grB g = true) (hf : Fol g.2.2) {v x : Int} (hx : -3 ≤ x ∧ x ≤ 3) (h : 0 ≤ nextV g.2.2 v x) : nextV g.2.2 (nextV g.2.2 v x) (-x) = v := by
  obtain ⟨e, he, hm⟩ := nextV_mem h
  refine nextV_of hf he ?_
  generalize nextV g.2.2 v x = y at *
  have hw1 : wrap64 (-x) = -x := IntWalk.wrap64_in _ ⟨by omega, by omega⟩
  have hw2 : wrap64 (- -x) = x := by rw [Int.neg_neg]; exact IntWalk.wrap64_in _ ⟨by omega, by omega⟩
  unfold mt at hm ⊢
  by_cases hp : 0 < x
  · rw [if_pos hp] at hm
    split at hm
    · rename_i a
      injection hm with hm
      rw [if_neg (by omega), if_pos (by omega), hw2, if_pos ⟨a.1, hm⟩, a.2]
    · cases hm
  · rw [if_neg hp] at hm
    by_cases hn : x < 0
    · rw [if_pos hn, hw1] at hm
      split at hm
      · rename_i a
        injection hm with hm
        rw [if_pos (by omega), if_pos ⟨a.1, hm⟩, a.2]
      · cases hm
    · rw [if_neg hn] at hm; cases hm

/-- A pair (u, v) is the number u * B + v. -/
def pnx (ea eb : List EdD) (B : Nat) (p : Nat) (x : Int) : Option Nat :=
  if 0 ≤ nextV ea ((p / B : Nat) : Int) x ∧ 0 ≤ nextV eb ((p % B : Nat) : Int) x then some ((nextV ea ((p / B : Nat) : Int) x).toNat * B + (nextV eb ((p % B : Nat) : Int) x).toNat) else none
def pst (ea eb : List EdD) (B : Nat) (p : Nat) (o : List Nat) (x : Int) : List Nat :=
  match pnx ea eb B p x with
  | some q => if q ∈ o then o else o ++ [q]
  | none => o
def bfsF (ea eb : List EdD) (B : Nat) (ls : List Int) : Nat → Nat → List Nat → List Nat
  | 0, _, o => o
  | f + 1, i, o => match o[i]? with
    | some p => bfsF ea eb B ls f (i + 1) (ls.foldl (pst ea eb B p) o)
    | none => o

structure Two (a b : GrD) (A B : Nat) : Prop where
  ga : grB a = true
  gb : grB b = true
  fa : Fol a.2.2
  fb : Fol b.2.2
  sa : a.2.1 = (A : Int)
  sb : b.2.1 = (B : Int)
section
variable {a b : GrD} {A B : Nat} {p q : Nat} {x : Int} {o : List Nat} {ls : List Int}
theorem Two.bd (h : Two a b A B) : (1 ≤ A ∧ A ≤ 40) ∧ (1 ≤ B ∧ B ≤ 40) := by
  have h1 := (grB_parts h.ga).2.1
  have h2 := (grB_parts h.gb).2.1
  have h3 := h.sa
  have h4 := h.sb
  omega
theorem pnx_lt (h : Two a b A B) (hq : pnx a.2.2 b.2.2 B p x = some q) : q < A * B := by
  unfold pnx at hq
  split at hq
  · rename_i hc
    injection hq with hq
    rcases nextV_range h.ga ((p / B : Nat) : Int) x with h1 | h1
    · omega
    rcases nextV_range h.gb ((p % B : Nat) : Int) x with h2 | h2
    · omega
    have h3 := h.sa
    have h4 := h.sb
    have e1 : (nextV a.2.2 ((p / B : Nat) : Int) x).toNat + 1 ≤ A := by omega
    have e2 : (nextV b.2.2 ((p % B : Nat) : Int) x).toNat < B := by omega
    have := Nat.mul_le_mul_right B e1
    rw [Nat.add_mul, Nat.one_mul] at this
    omega
  · cases hq
theorem pnx_parts (h : Two a b A B) (hq : pnx a.2.2 b.2.2 B p x = some q) : ((q / B : Nat) : Int) = nextV a.2.2 ((p / B : Nat) : Int) x ∧ ((q % B : Nat) : Int) = nextV b.2.2 ((p % B : Nat) : Int) x := by
  unfold pnx at hq
  split at hq
  · rename_i hc
    injection hq with hq
    rcases nextV_range h.gb ((p % B : Nat) : Int) x with h2 | h2
    · omega
    have h4 := h.sb
    obtain ⟨_, hB⟩ := h.bd
    have e2 : (nextV b.2.2 ((p % B : Nat) : Int) x).toNat < B := by omega
    rw [← hq]
    constructor
    · rw [Nat.mul_comm, Nat.mul_add_div (by omega), Nat.div_eq_of_lt e2]
      omega
    · rw [Nat.mul_comm, Nat.mul_add_mod, Nat.mod_eq_of_lt e2]
      omega
  · cases hq
theorem pnx_back (h : Two a b A B) (hx : -3 ≤ x ∧ x ≤ 3) (hq : pnx a.2.2 b.2.2 B p x = some q) : pnx a.2.2 b.2.2 B q (-x) = some p := by
  have hp := pnx_parts h hq
  have hc : 0 ≤ nextV a.2.2 ((p / B : Nat) : Int) x ∧ 0 ≤ nextV b.2.2 ((p % B : Nat) : Int) x := by
    unfold pnx at hq
    split at hq
    · assumption
    · cases hq
  unfold pnx
  rw [hp.1, hp.2, nextV_back h.ga h.fa hx hc.1, nextV_back h.gb h.fb hx hc.2, if_pos ⟨Int.natCast_nonneg _, Int.natCast_nonneg _⟩, Int.toNat_natCast, Int.toNat_natCast]
  have := Nat.div_add_mod p B
  rw [Nat.mul_comm] at this
  rw [this]
theorem pst_sub (hy : p ∈ o) (q : Nat) (x : Int) : p ∈ pst a.2.2 b.2.2 B q o x := by
  unfold pst
  cases pnx a.2.2 b.2.2 B q x with
  | none => exact hy
  | some z =>
    simp only
    split
    · exact hy
    · exact List.mem_append_left _ hy
theorem pfold_sub (ls : List Int) (q : Nat) : ∀ (o : List Nat), p ∈ o → p ∈ ls.foldl (pst a.2.2 b.2.2 B q) o := by
  induction ls with
  | nil => intro o h; exact h
  | cons x ls ih => intro o h; exact ih _ (pst_sub h q x)
theorem pst_prefix {i y : Nat} (hi : o[i]? = some y) (q : Nat) (x : Int) : (pst a.2.2 b.2.2 B q o x)[i]? = some y := by
  unfold pst
  cases pnx a.2.2 b.2.2 B q x with
  | none => exact hi
  | some z =>
    simp only
    split
    · exact hi
    · rw [List.getElem?_append_left (List.getElem?_eq_some_iff.1 hi).1]; exact hi
theorem pfold_prefix {i y : Nat} (ls : List Int) (q : Nat) : ∀ (o : List Nat), o[i]? = some y → (ls.foldl (pst a.2.2 b.2.2 B q) o)[i]? = some y := by
  induction ls with
  | nil => intro o h; exact h
  | cons x ls ih => intro o h; exact ih _ (pst_prefix h q x)
theorem pfold_has (ls : List Int) (q : Nat) : ∀ (o : List Nat) (x : Int) (z : Nat), x ∈ ls → pnx a.2.2 b.2.2 B q x = some z → z ∈ ls.foldl (pst a.2.2 b.2.2 B q) o := by
  induction ls with
  | nil => intro o x z hx; cases hx
  | cons y ls ih =>
    intro o x z hx hz
    rcases List.mem_cons.1 hx with rfl | hx
    · refine pfold_sub ls q _ ?_
      unfold pst
      rw [hz]
      simp only
      split
      · assumption
      · simp
    · exact ih _ x z hx hz
/-- What holds of all pairs so far and is kept by steps from them holds of the next ones. -/
theorem pfold_all {S : Nat → Prop} (hs : ∀ p x q, S p → x ∈ ls → pnx a.2.2 b.2.2 B p x = some q → S q) {q : Nat} (hq : S q) : ∀ (l2 : List Int) (o : List Nat), (∀ x ∈ l2, x ∈ ls) → (∀ p ∈ o, S p) → ∀ p ∈ l2.foldl (pst a.2.2 b.2.2 B q) o, S p := by
  intro l2
  induction l2 with
  | nil => intro o _ ho; exact ho
  | cons x l2 ih =>
    intro o hl ho
    refine ih _ (fun y hy => hl y (List.mem_cons_of_mem _ hy)) fun p hp => ?_
    unfold pst at hp
    cases hz : pnx a.2.2 b.2.2 B q x with
    | none => rw [hz] at hp; exact ho p hp
    | some z =>
      rw [hz] at hp
      simp only at hp
      split at hp
      · exact ho p hp
      · rcases List.mem_append.1 hp with hp | hp
        · exact ho p hp
        · rw [List.mem_singleton.1 hp]
          exact hs q x z hq (hl x (by simp)) hz
theorem bfs_all {S : Nat → Prop} (hs : ∀ p x q, S p → x ∈ ls → pnx a.2.2 b.2.2 B p x = some q → S q) : ∀ (f i : Nat) (o : List Nat), (∀ p ∈ o, S p) → ∀ p ∈ bfsF a.2.2 b.2.2 B ls f i o, S p := by
  intro f
  induction f with
  | zero => intro i o ho; exact ho
  | succ f ih =>
    intro i o ho
    unfold bfsF
    cases hi : o[i]? with
    | none => exact ho
    | some p => exact ih _ _ (pfold_all hs (ho p (List.mem_of_getElem? hi)) ls o (fun _ h => h) ho)
theorem pst_nodup (h : o.Nodup) (q : Nat) (x : Int) : (pst a.2.2 b.2.2 B q o x).Nodup := by
  unfold pst
  cases pnx a.2.2 b.2.2 B q x with
  | none => exact h
  | some z =>
    simp only
    split
    · exact h
    · rename_i hz
      rw [List.nodup_append]
      exact ⟨h, by simp, fun y hy z' hz' e => by rw [List.mem_singleton.1 hz'] at e; exact hz (e ▸ hy)⟩
theorem pfold_nodup (ls : List Int) (q : Nat) : ∀ (o : List Nat), o.Nodup → (ls.foldl (pst a.2.2 b.2.2 B q) o).Nodup := by
  induction ls with
  | nil => intro o h; exact h
  | cons x ls ih => intro o h; exact ih _ (pst_nodup h q x)
theorem bfs_nodup (ls : List Int) : ∀ (f i : Nat) (o : List Nat), o.Nodup → (bfsF a.2.2 b.2.2 B ls f i o).Nodup := by
  intro f
  induction f with
  | zero => intro i o h; exact h
  | succ f ih =>
    intro i o h
    unfold bfsF
    cases hi : o[i]? with
    | none => exact h
    | some p => exact ih _ _ (pfold_nodup ls p o h)
theorem nodup_lt {n : Nat} {o : List Nat} (h : o.Nodup) (hl : ∀ p ∈ o, p < n) : o.length ≤ n := by
  have h1 : (o.map fun v => ((v : Nat) : Int)).Nodup := by
    unfold List.Nodup at *
    rw [List.pairwise_map]
    exact h.imp fun hab e => hab (by omega)
  have := nodup_len n (o.map fun v => ((v : Nat) : Int)) h1 fun y hy => by
    obtain ⟨v, hv, rfl⟩ := List.mem_map.1 hy
    have := hl v hv
    omega
  simpa using this
/-- All that is reached has been stepped from: the list is closed. -/
theorem bfs_closed (h : Two a b A B) (hx : ∀ x ∈ ls, -3 ≤ x ∧ x ≤ 3) : ∀ (f i : Nat) (o : List Nat), o.Nodup → (∀ p ∈ o, p < A * B) → i + f = A * B + 1 → i ≤ o.length →
    (∀ (j : Nat) (p : Nat), j < i → o[j]? = some p → ∀ x q, x ∈ ls → pnx a.2.2 b.2.2 B p x = some q → q ∈ o) →
    ∀ p ∈ bfsF a.2.2 b.2.2 B ls f i o, ∀ x q, x ∈ ls → pnx a.2.2 b.2.2 B p x = some q → q ∈ bfsF a.2.2 b.2.2 B ls f i o := by
  intro f
  induction f with
  | zero =>
    intro i o hn hl hf hi _
    have := nodup_lt hn hl
    omega
  | succ f ih =>
    intro i o hn hl hf hi hc
    unfold bfsF
    cases ho : o[i]? with
    | none =>
      simp only
      intro p hp x q hx hq
      obtain ⟨j, hj⟩ := List.mem_iff_getElem?.1 hp
      refine hc j p ?_ hj x q hx hq
      have h1 := (List.getElem?_eq_some_iff.1 hj).1
      have h2 := List.getElem?_eq_none_iff.1 ho
      omega
    | some p =>
      simp only
      have hlen : i < o.length := (List.getElem?_eq_some_iff.1 ho).1
      have hmono : ∀ y, y ∈ o → y ∈ ls.foldl (pst a.2.2 b.2.2 B p) o := fun y hy => pfold_sub ls p o hy
      have hlt2 : o.length ≤ (ls.foldl (pst a.2.2 b.2.2 B p) o).length := by
        have hk : o[o.length - 1]? = some (o[o.length - 1]'(by omega)) := List.getElem?_eq_getElem (by omega)
        have := (List.getElem?_eq_some_iff.1 (pfold_prefix (a := a) (b := b) (B := B) ls p o hk)).1
        omega
      refine ih (i + 1) _ (pfold_nodup ls p o hn) ?_ (by omega) (by omega) ?_
      · exact pfold_all (S := fun q => q < A * B) (fun p x q _ _ hq => pnx_lt h hq) (hl p (List.mem_of_getElem? ho)) ls o (fun _ h => h) hl
      · intro j p' hj hp' x q hxl hq
        rcases Nat.lt_or_ge j i with h1 | h1
        · have h2 : o[j]? = some (o[j]'(by omega)) := List.getElem?_eq_getElem (by omega)
          have h3 := pfold_prefix (a := a) (b := b) (B := B) ls p o h2
          rw [hp'] at h3
          injection h3 with h3
          exact hmono q (hc j p' h1 (by rw [h2, ← h3]) x q hxl hq)
        · obtain rfl : j = i := by omega
          have h3 := pfold_prefix (a := a) (b := b) (B := B) ls p o ho
          rw [hp'] at h3
          injection h3 with h3
          subst h3
          exact pfold_has ls p' o x q hxl hq
/-- The pairs reached from one. -/
def prsL (a b : GrD) (A B : Nat) (ls : List Int) (p : Nat) : List Nat := bfsF a.2.2 b.2.2 B ls (A * B + 1) 0 [p]
theorem prs_closed (h : Two a b A B) (hx : ∀ x ∈ ls, -3 ≤ x ∧ x ≤ 3) (hp : p < A * B) : ∀ q ∈ prsL a b A B ls p, ∀ x z, x ∈ ls → pnx a.2.2 b.2.2 B q x = some z → z ∈ prsL a b A B ls p :=
  bfs_closed h hx (A * B + 1) 0 [p] (by simp) (fun q hq => by rw [List.mem_singleton.1 hq]; exact hp) (by omega) (by omega) (fun j _ hj => by omega)
theorem prs_lt (h : Two a b A B) (hp : p < A * B) : ∀ q ∈ prsL a b A B ls p, q < A * B :=
  bfs_all (S := fun q => q < A * B) (fun _ _ _ _ _ hq => pnx_lt h hq) _ _ _ fun q hq => by rw [List.mem_singleton.1 hq]; exact hp
theorem prs_nodup (ls : List Int) : (prsL a b A B ls p).Nodup := bfs_nodup ls _ _ _ (by simp)
theorem prs_self (h : Two a b A B) : p ∈ prsL a b A B ls p := by
  have : ∀ (f i : Nat) (o : List Nat), p ∈ o → p ∈ bfsF a.2.2 b.2.2 B ls f i o := by
    intro f
    induction f with
    | zero => intro i o ho; exact ho
    | succ f ih =>
      intro i o ho
      unfold bfsF
      cases o[i]? with
      | none => exact ho
      | some q => exact ih _ _ (pfold_sub ls q o ho)
  exact this _ _ _ (by simp)
/-- From outside a closed set nothing of it is reached. -/
theorem prs_out (h : Two a b A B) (hx : ∀ x ∈ ls, (-3 ≤ x ∧ x ≤ 3) ∧ -x ∈ ls) {M : List Nat} (hM : ∀ q ∈ M, ∀ x z, x ∈ ls → pnx a.2.2 b.2.2 B q x = some z → z ∈ M) (hp : p ∉ M) : ∀ q ∈ prsL a b A B ls p, q ∉ M :=
  bfs_all (S := fun q => q ∉ M) (fun q x z hq hxl hz hzM => hq (hM z hzM (-x) q (hx x hxl).2 (pnx_back h (hx x hxl).1 hz))) _ _ _ fun q hq => by rw [List.mem_singleton.1 hq]; exact hp
def edgN (ea eb : List EdD) (B r : Nat) (p : Nat) : Nat := ((List.range r).filter fun (i : Nat) => (pnx ea eb B p ((i : Int) + 1)).isSome).length
def edgL (ea eb : List EdD) (B r : Nat) (o : List Nat) : Nat := (o.map (edgN ea eb B r)).sum
def prk (a b : GrD) (A B r : Nat) (p : Nat) : Int := (edgL a.2.2 b.2.2 B r (prsL a b A B (lettersL r) p) : Int) - (prsL a b A B (lettersL r) p).length + 1
/-- The components' ranks in the order of their first pairs: what is marked, what is put out. -/
def cst (a b : GrD) (A B r : Nat) (s : List Nat × List Int) (i : Nat) : List Nat × List Int :=
  if i ∈ s.1 then s else (s.1 ++ prsL a b A B (lettersL r) i, s.2 ++ [prk a b A B r i])
def compS (a b : GrD) (A B r k : Nat) : List Nat × List Int := (List.range k).foldl (cst a b A B r) ([], [])
theorem compS_succ (a b : GrD) (A B r k : Nat) : compS a b A B r (k + 1) = cst a b A B r (compS a b A B r k) k := by
  unfold compS
  rw [List.range_succ, List.foldl_append]
  rfl
theorem letters_ok {r : Nat} (hr : r ≤ 3) : ∀ x ∈ lettersL r, (-3 ≤ x ∧ x ≤ 3) ∧ -x ∈ lettersL r := fun x hx => by
  rw [letters_mem] at *
  omega
/-- The marked pairs are closed. -/
theorem compS_closed (h : Two a b A B) {r : Nat} (hr : r ≤ 3) : ∀ k, k ≤ A * B → (∀ q ∈ (compS a b A B r k).1, q < A * B) ∧ ∀ q ∈ (compS a b A B r k).1, ∀ x z, x ∈ lettersL r → pnx a.2.2 b.2.2 B q x = some z → z ∈ (compS a b A B r k).1 := by
  intro k
  induction k with
  | zero => intro _; exact ⟨fun q hq => absurd hq (by simp [compS]), fun q hq => absurd hq (by simp [compS])⟩
  | succ k ih =>
    intro hk
    obtain ⟨i1, i2⟩ := ih (by omega)
    rw [compS_succ]
    unfold cst
    split
    · exact ⟨i1, i2⟩
    · refine ⟨fun q hq => ?_, fun q hq x z hx hz => ?_⟩
      · rcases List.mem_append.1 hq with hq | hq
        · exact i1 q hq
        · exact prs_lt h (by omega) q hq
      · rcases List.mem_append.1 hq with hq | hq
        · exact List.mem_append_left _ (i2 q hq x z hx hz)
        · exact List.mem_append_right _ (prs_closed h (fun x hx => (letters_ok hr x hx).1) (by omega) q hq x z hx hz)
end
def ns (o : List Nat) : List Int := o.map fun v => ((v : Nat) : Int)
theorem ns_len (o : List Nat) : (ns o).length = o.length := by simp [ns]
theorem ns_get (o : List Nat) (k : Nat) (h : k < o.length) : (ns o)[k]'(by rw [ns_len]; exact h) = ((o[k] : Nat) : Int) := by simp [ns]
theorem ns_snoc (o : List Nat) (q : Nat) : ns (o ++ [q]) = ns o ++ [(q : Int)] := by simp [ns]
def seenL (n : Nat) (o : List Nat) : List Bool := (List.range n).map fun q => decide (q ∈ o)
theorem seenL_len (n : Nat) (o : List Nat) : (seenL n o).length = n := by simp [seenL]
theorem seenL_get (n : Nat) (o : List Nat) (q : Nat) (h : q < n) : (seenL n o)[q]'(by rw [seenL_len]; exact h) = decide (q ∈ o) := by simp [seenL]
theorem seenL_nil (n : Nat) : seenL n [] = List.replicate n false := by
  refine List.ext_getElem (by simp [seenL]) fun i h1 h2 => ?_
  rw [List.getElem_replicate]
  simp [seenL]
theorem seenL_set (n : Nat) (o : List Nat) (q : Nat) : (seenL n o).set q true = seenL n (o ++ [q]) := by
  refine List.ext_getElem (by simp [seenL]) fun i h1 h2 => ?_
  rw [List.getElem_set]
  have hi : i < n := by simpa [seenL] using h2
  have e1 := seenL_get n o i hi
  have e2 := seenL_get n (o ++ [q]) i hi
  rw [e2]
  by_cases h : q = i
  · subst h; simp
  · rw [if_neg h, e1]
    simp [Ne.symm h]
theorem quoB (p B : Nat) : Int.tdiv (p : Int) (B : Int) = ((p / B : Nat) : Int) := by
  rw [Int.tdiv_eq_ediv_of_nonneg (Int.natCast_nonneg _)]; rfl
theorem remB (p B : Nat) : Int.tmod (p : Int) (B : Int) = ((p % B : Nat) : Int) := by
  rw [Int.tmod_eq_emod_of_nonneg (Int.natCast_nonneg _)]; rfl
set_option maxHeartbeats 1000000 in
theorem l14Pairs_any (va vb : Value) (a b : GrD) (A B r p0 u0 v0 : Nat) (w : World) (ha : ArgG w va a) (hb : ArgG w vb b) (h2 : Two a b A B) (hra : a.1 = (r : Int)) (hrb : b.1 = (r : Int)) (hp0 : p0 < A * B) (huv : p0 = u0 * B + v0) :
    Calls Try.prog 34 #[va, vb, .int .i64 u0, .int .i64 v0] w fun e w' => ∃ s, e = .returned s ∧ OwI w' w.heap.size s (ns (prsL a b A B (lettersL r) p0)) ∧ Below w.heap.size w w' := by
  have H2 := Lib.hid h2
  have HGA := Lib.hid ha
  have HGB := Lib.hid hb
  have ONEA := Lib.hid (steps_one h2.fa)
  have ONEB := Lib.hid (steps_one h2.fb)
  obtain ⟨⟨hA1, hA2⟩, hB1, hB2⟩ := h2.bd
  have hr3 : r ≤ 3 ∧ 1 ≤ r := by have := (grB_parts h2.ga).1; omega
  obtain ⟨n, hn⟩ : ∃ n, n = A * B := ⟨_, rfl⟩
  have hn1 : n ≤ 1600 := by rw [hn]; exact Nat.mul_le_mul hA2 hB2
  have HPR : Hid (prsL a b A B (lettersL r) p0 = bfsF a.2.2 b.2.2 B (lettersL r) (n + 1) 0 [p0]) := Lib.hid (by rw [hn]; rfl)
  have HFA : Hid (∀ (ls : List Int) (p : Nat) (o : List Nat), p < n → (∀ q ∈ o, q < n) → ∀ q ∈ ls.foldl (pst a.2.2 b.2.2 B p) o, q < n) := Lib.hid fun ls p o hp ho => by
    rw [hn] at *
    exact pfold_all (S := fun q => q < A * B) (fun p x q _ _ hq => pnx_lt h2 hq) hp ls o (fun _ h => h) ho
  have HPX : Hid (∀ p x q, pnx a.2.2 b.2.2 B p x = some q → q < n) := Lib.hid fun p x q hq => by rw [hn]; exact pnx_lt h2 hq
  have NVA : Hid (∀ u x, nextV a.2.2 u x = -1 ∨ (0 ≤ nextV a.2.2 u x ∧ nextV a.2.2 u x < 40)) := Lib.hid fun u x => by
    rcases nextV_range h2.ga u x with e | e
    · exact .inl e
    · have := h2.sa; exact .inr ⟨e.1, by omega⟩
  have NVB : Hid (∀ u x, nextV b.2.2 u x = -1 ∨ (0 ≤ nextV b.2.2 u x ∧ nextV b.2.2 u x < 40)) := Lib.hid fun u x => by
    rcases nextV_range h2.gb u x with e | e
    · exact .inl e
    · have := h2.sb; exact .inr ⟨e.1, by omega⟩
  have hp1 : p0 < n := by omega
  have hll := lettersL_len r
  have HLE : Hid (∀ W : World, Calls Try.prog 45 #[.int .i64 r] W fun e w' => ∃ s, e = .returned s ∧ OwI w' W.heap.size s (lettersL r) ∧ Below W.heap.size W w') := Lib.hid fun W => l5Letters_any r W (by omega)
  generalize prsL a b A B (lettersL r) p0 = PR at *
  generalize lettersL r = ls at *
  have sa := h2.sa
  have sb := h2.sb
  obtain ⟨Aa, capa, rfl⟩ : ∃ A' cap, va = .agg #[.int .i64 r, .int .i64 A, .slice A' a.2.2.length cap] := by
    obtain ⟨s, hv, _, _, ha⟩ := HGA.out
    obtain ⟨A', cap, rfl⟩ := ha.form
    exact ⟨A', cap, by rw [hv, hra, sa]⟩
  obtain ⟨Ab, capb, rfl⟩ : ∃ A' cap, vb = .agg #[.int .i64 r, .int .i64 B, .slice A' b.2.2.length cap] := by
    obtain ⟨s, hv, _, _, ha⟩ := HGB.out
    obtain ⟨A', cap, rfl⟩ := ha.form
    exact ⟨A', cap, by rw [hv, hrb, sb]⟩
  have hmul : IntKind.i64.wrap ((A : Int) * (B : Int)) = (n : Int) := by
    have e : (A : Int) * (B : Int) = (n : Int) := by rw [hn]; simp
    rw [e, IntKind.wrap_i64]
    omega
  have HN := Lib.hid hn
  have hmu : (u0 : Int) * (B : Int) + (v0 : Int) = (p0 : Int) := by rw [huv]; simp
  have hmu1 : IntKind.i64.wrap ((u0 : Int) * (B : Int)) = (u0 : Int) * (B : Int) := by
    have : (0 : Int) ≤ (u0 : Int) * (B : Int) := Int.mul_nonneg (Int.natCast_nonneg _) (Int.natCast_nonneg _)
    rw [IntKind.wrap_i64]
    omega
  have hmu2 : IntKind.i64.wrap ((u0 : Int) * (B : Int) + (v0 : Int)) = (p0 : Int) := by rw [hmu, IntKind.wrap_i64]; omega
  clear huv hmu
  have HLL := Lib.hid hll
  clear ha hb h2 hra hrb hp0 sa sb hn hll
  go_enter Try.func34, Try.ntmps34
  obtain ⟨i0, hi0, hz0, hz1, hz2⟩ := info_parts bool_info
  go_wp2_with (at_make; refine wpList_make_full _ rfl _ _ 51 rfl (w.heap.size + 1 + 1) 4 i0 (.bool false) 1 Try.underlying51 hi0 hz0 hz1 _ _ _ _ n rfl rfl rfl rfl (by rw [hz2]; omega) (by unfold maxLen; omega) (by simp) ?_)
  have bx : Below w.heap.size w ((w.alloc (Obj.cells #[Value.int IntKind.i64 r, Value.int IntKind.i64 A, .slice Aa a.2.2.length capa] 36)).alloc (Obj.cells #[Value.int IntKind.i64 r, Value.int IntKind.i64 B, .slice Ab b.2.2.length capb] 36)) := (by repeat (first | exact Below.refl _ _ | (refine Below.setCell ?_ (by first | omega | (simp <;> omega)) _) | (refine bel_drewN ?_ _) | (refine Below.drew ?_) | (refine Below.alloc ?_ (by first | omega | (simp <;> omega)) _)))
  obtain ⟨W0, hW0⟩ : ∃ W, W = (w.alloc (Obj.cells #[Value.int IntKind.i64 r, Value.int IntKind.i64 A, .slice Aa a.2.2.length capa] 36)).alloc (Obj.cells #[Value.int IntKind.i64 r, Value.int IntKind.i64 B, .slice Ab b.2.2.length capb] 36) := ⟨_, rfl⟩
  rw [← hW0] at bx ⊢
  have hsW : W0.heap.size = w.heap.size + 1 + 1 := by rw [hW0]; simp
  have A0 : Hid (W0.cell? ⟨w.heap.size, 0, none⟩ = some (.int .i64 r)) := Lib.hid (by rw [hW0]; simp [go_sem])
  have A1 : Hid (W0.cell? ⟨w.heap.size, 1, none⟩ = some (.int .i64 A)) := Lib.hid (by rw [hW0]; simp [go_sem])
  have A2 : Hid (W0.cell? ⟨w.heap.size, 2, none⟩ = some (.slice Aa a.2.2.length capa)) := Lib.hid (by rw [hW0]; simp [go_sem])
  have B0 : Hid (W0.cell? ⟨w.heap.size + 1, 0, none⟩ = some (.int .i64 r)) := Lib.hid (by rw [hW0]; simp [go_sem])
  have B1 : Hid (W0.cell? ⟨w.heap.size + 1, 1, none⟩ = some (.int .i64 B)) := Lib.hid (by rw [hW0]; simp [go_sem])
  have B2 : Hid (W0.cell? ⟨w.heap.size + 1, 2, none⟩ = some (.slice Ab b.2.2.length capb)) := Lib.hid (by rw [hW0]; simp [go_sem])
  clear hW0
  rw [← hsW]
  have hl0 : w.heap.size < W0.heap.size := by omega
  have hl1 : w.heap.size + 1 < W0.heap.size := by omega
  have BX := Lib.hid bx
  have HSW := Lib.hid hsW
  clear bx hsW
  intro w2 hown0 hgrow0
  have own0 : OwB w2 W0.heap.size (.slice (some ⟨W0.heap.size, 0, none⟩) n n) (seenL n []) := by
    unfold OwB
    rw [seenL_len, seenL_nil]
    have : bools (List.replicate n false) = List.replicate n (Value.bool false) := by simp [bools]
    rw [this]
    simpa [toList_madeCells_one] using hown0
  have hP2 : W0.heap.size < w2.heap.size := (own0.lt W0.heap.size rfl).2
  have B02 : Below W0.heap.size W0 w2 := (Below.refl W0.heap.size W0).grown hgrow0 (Nat.le_refl _) (fun k h => by cases h)
  have q1 := (B02.cell (p := ⟨w.heap.size + 1, 1, none⟩) hl1).trans B1.out
  have OB0 := Lib.hid own0
  have HB02 := Lib.hid B02
  have q0 := (B02.cell (p := ⟨w.heap.size, 0, none⟩) hl0).trans A0.out
  have q0' := (B02.cell (p := ⟨w.heap.size + 1, 0, none⟩) hl1).trans B0.out
  have hc0 := own0.cellAt p0 (by rw [seenL_len]; exact hp1)
  have hf0 := own0.free p0
  have hp1i : (p0 : Int) < (n : Int) := by omega
  have OB1 := Lib.hid (own0.set p0 true)
  have n0 : ¬ W0.heap.size = w.heap.size := by omega
  have n1 : ¬ W0.heap.size = w.heap.size + 1 := by omega
  have hlw0 : w.heap.size < w2.heap.size := by omega
  have hlw1 : w.heap.size + 1 < w2.heap.size := by omega
  clear hown0 own0 hgrow0 B02
  go_wp2_with fail
  have oO : OwI ((w2.setCell ⟨W0.heap.size, p0, none⟩ (.bool true)).alloc (.cells #[Value.int IntKind.i64 p0] 3)) (W0.heap.size + 1) (.slice (some ⟨w2.heap.size, 0, none⟩) 1 1) (ns [p0]) := OwI_litN _ [(p0 : Int)] w2.heap.size (by simp) (fun x hx => by simp at hx; subst hx; exact ⟨by omega, by omega⟩) (by simp) (by omega)
  have oB : OwB ((w2.setCell ⟨W0.heap.size, p0, none⟩ (.bool true)).alloc (.cells #[Value.int IntKind.i64 p0] 3)) W0.heap.size (.slice (some ⟨W0.heap.size, 0, none⟩) n n) (seenL n [p0]) := by
    have h1 := OB1.out.1
    rw [seenL_set] at h1
    exact h1.below ((Below.refl _ _).alloc (Nat.le_refl _) _)
  have bS : Below W0.heap.size W0 ((w2.setCell ⟨W0.heap.size, p0, none⟩ (.bool true)).alloc (.cells #[Value.int IntKind.i64 p0] 3)) := (HB02.out.setCell (p := ⟨W0.heap.size, p0, none⟩) (by show W0.heap.size ≤ _; exact Nat.le_refl _) _).alloc (by simp; omega) _
  have sS : ((w2.setCell ⟨W0.heap.size, p0, none⟩ (.bool true)).alloc (.cells #[Value.int IntKind.i64 p0] 3)).heap.size = w2.heap.size + 1 := by simp
  generalize (w2.setCell ⟨W0.heap.size, p0, none⟩ (.bool true)).alloc (.cells #[Value.int IntKind.i64 p0] 3) = wS at oO oB bS sS ⊢
  refine (HLE.out wS).mono ?_
  rintro e w3 ⟨rl, rfl, ol, bl⟩
  have s3 := bl.size
  obtain ⟨Al, capl, rfl, hcl, hml, _, hfl⟩ := ol.form
  obtain ⟨gl, rfl, hgl1, hgl2⟩ := hfl (by have := HLL.out; omega)
  unfold maxLen at hml
  have OL := Lib.hid ol.rd
  have OO := Lib.hid (oO.below bl)
  have OB := Lib.hid (oB.below bl)
  have HB3 := Lib.hid (bS.trans (bl.mono (by omega)))
  have HPR0 := Lib.hid HPR.out
  clear hfl ol bl oO oB bS q0 q0' q1 hc0 hf0 OB1 OB0 HB02
  go_wp2
  go_loopw [10, 12] (fun out i wo => ∃ (k : Nat) (o : List Nat), k ≤ o.length ∧ i = .int .i64 k ∧ o.Nodup ∧ (∀ q ∈ o, q < n) ∧ PR = bfsF a.2.2 b.2.2 B ls (n + 1 - k) k o ∧ OwI wo (W0.heap.size + 1) out (ns o) ∧ OwB wo W0.heap.size (.slice (some ⟨W0.heap.size, 0, none⟩) n n) (seenL n o) ∧ RdI wo (.slice (some ⟨gl, 0, none⟩) ls.length capl) ls ∧ out.ownBlock ≠ some gl ∧ gl < wo.heap.size ∧ Below W0.heap.size W0 wo) (fun _ i _ => n + 1 - (intOf i).toNat)
  case atStart => exact ⟨0, [p0], by simp, rfl, by simp, fun q hq => by rw [List.mem_singleton.1 hq]; exact hp1, HPR.out, OO.out, OB.out, OL.out, by simp [Value.ownBlock]; omega, hgl2, HB3.out⟩
  case round =>
    obtain ⟨k, o, hk, rfl, hnd, hlo, hpr, hown, hob, hrd, hne, hgw, hbel⟩ := hrel
    obtain ⟨wo, rfl⟩ : ∃ wo : World, wo = wr := ⟨_, rfl⟩
    have hol := nodup_lt hnd hlo
    have HND := Lib.hid hnd
    have HLO := Lib.hid hlo
    have HP := Lib.hid hpr
    have HOB := Lib.hid hob
    have HRD := Lib.hid hrd
    have HB2 := Lib.hid hbel
    have hsz := hbel.size
    obtain ⟨A1', cap1, rfl, _, _, _, hf2⟩ := hown.form
    rw [ns_len] at hf2 hown hne ⊢
    have HO := Lib.hid hown
    have HNE := Lib.hid hne
    have hgP : gl ≠ W0.heap.size := by omega
    clear hnd hlo hpr hob hrd hne hbel
    by_cases hlt : k < o.length
    · obtain ⟨p, hp⟩ : ∃ p, o[k]? = some p := ⟨o[k], by simp⟩
      have hkp : o[k] = p := by rw [List.getElem?_eq_getElem hlt] at hp; injection hp
      have hpn : p < n := HLO.out p (List.mem_of_getElem? hp)
      have HCF : Hid (PR = bfsF a.2.2 b.2.2 B ls (n + 1 - (k + 1)) (k + 1) (ls.foldl (pst a.2.2 b.2.2 B p) o)) := Lib.hid (by
        rw [HP.out, show n + 1 - k = (n + 1 - (k + 1)) + 1 by omega]
        conv => lhs; unfold bfsF
        rw [hp])
      have HPU : Hid (∀ m : Nat, ((ls.take m).foldl (pst a.2.2 b.2.2 B p) o)[k]? = some p) := Lib.hid fun m => pfold_prefix (a := a) (b := b) (B := B) _ p o hp
      have HSU : Hid (∀ (m : Nat) (hm : m < ls.length), (ls.take (m + 1)).foldl (pst a.2.2 b.2.2 B p) o = pst a.2.2 b.2.2 B p ((ls.take m).foldl (pst a.2.2 b.2.2 B p) o) ls[m]) := Lib.hid fun m hm => by rw [List.take_succ_eq_append_getElem hm, List.foldl_append]; rfl
      have HNDm : Hid (∀ m : Nat, ((ls.take m).foldl (pst a.2.2 b.2.2 B p) o).Nodup) := Lib.hid fun m => pfold_nodup (a := a) (b := b) (B := B) _ p o HND.out
      have HLOm : Hid (∀ m : Nat, ∀ q ∈ (ls.take m).foldl (pst a.2.2 b.2.2 B p) o, q < n) := Lib.hid fun m => HFA.out _ p o hpn HLO.out
      obtain ⟨un, hun⟩ : ∃ un, un = p / B := ⟨_, rfl⟩
      obtain ⟨vn, hvn⟩ : ∃ vn, vn = p % B := ⟨_, rfl⟩
      have HUN := Lib.hid hun
      have HVN := Lib.hid hvn
      have hun2 : un ≤ 1600 := by rw [hun]; exact Nat.le_trans (Nat.div_le_self _ _) (by omega)
      have hvn2 : vn ≤ 1600 := by rw [hvn]; exact Nat.le_trans (Nat.mod_le _ _) (by omega)
      have hdiv : wrap64 ((p : Int) / (B : Int)) = (un : Int) := by
        have : (p : Int) / (B : Int) = (un : Int) := by rw [hun]; rfl
        rw [this]
        exact IntWalk.wrap64_in _ ⟨by omega, by omega⟩
      have hmod : (p : Int) % (B : Int) = (vn : Int) := by rw [hvn]; rfl
      have HAA : Hid (∀ W, Below W0.heap.size W0 W → ArgG W (.agg #[.int .i64 r, .int .i64 A, .slice Aa a.2.2.length capa]) a) := Lib.hid fun W hb => HGA.out.below (BX.out.trans (hb.mono (by omega)))
      have HAB : Hid (∀ W, Below W0.heap.size W0 W → ArgG W (.agg #[.int .i64 r, .int .i64 B, .slice Ab b.2.2.length capb]) b) := Lib.hid fun W hb => HGB.out.below (BX.out.trans (hb.mono (by omega)))
      have HNA : Hid (∀ x W, ArgG W (.agg #[.int .i64 r, .int .i64 A, .slice Aa a.2.2.length capa]) a → _) := Lib.hid fun x W h => specNextVertex_any _ a (un : Int) x W h (ONEA.out (un : Int) x)
      have HNB : Hid (∀ x W, ArgG W (.agg #[.int .i64 r, .int .i64 B, .slice Ab b.2.2.length capb]) b → _) := Lib.hid fun x W h => specNextVertex_any _ b (vn : Int) x W h (ONEB.out (vn : Int) x)
      clear hp hkp hf2 hown hun hvn
      go_wp2
      go_loopw [10, 13] (fun out j wr => ∃ m : Nat, m ≤ ls.length ∧ j = .int .i64 m ∧ OwI wr (W0.heap.size + 1) out (ns ((ls.take m).foldl (pst a.2.2 b.2.2 B p) o)) ∧ OwB wr W0.heap.size (.slice (some ⟨W0.heap.size, 0, none⟩) n n) (seenL n ((ls.take m).foldl (pst a.2.2 b.2.2 B p) o)) ∧ RdI wr (.slice (some ⟨gl, 0, none⟩) ls.length capl) ls ∧ out.ownBlock ≠ some gl ∧ gl < wr.heap.size ∧ Below W0.heap.size W0 wr) (fun _ j _ => ls.length - (intOf j).toNat)
      case atStart =>
        exact ⟨0, Nat.zero_le _, rfl, HO.out, HOB.out, HRD.out, HNE.out, hgw, HB2.out⟩
      case round =>
        obtain ⟨m, hm1, rfl, hown, hob, hrd, hne, hblr, hbi⟩ := hrel
        have hsi := hbi.size
        have HBI := Lib.hid hbi
        have p0' := (hbi.cell (p := ⟨w.heap.size, 0, none⟩) hl0).trans A0.out
        have p1' := (hbi.cell (p := ⟨w.heap.size, 1, none⟩) hl0).trans A1.out
        have p2' := (hbi.cell (p := ⟨w.heap.size, 2, none⟩) hl0).trans A2.out
        have p3' := (hbi.cell (p := ⟨w.heap.size + 1, 0, none⟩) hl1).trans B0.out
        have p4' := (hbi.cell (p := ⟨w.heap.size + 1, 1, none⟩) hl1).trans B1.out
        have p5' := (hbi.cell (p := ⟨w.heap.size + 1, 2, none⟩) hl1).trans B2.out
        have HRR := Lib.hid hrd
        have HNR := Lib.hid hne
        have HOBR := Lib.hid hob
        have HOM := Lib.hid hown
        have hP := hob.lt W0.heap.size rfl
        clear hbi hob
        by_cases hlt2 : m < ls.length
        · have hlm := nodup_lt (HNDm.out m) (HLOm.out m)
          have hpu := HPU.out m
          have HS := Lib.hid (HSU.out m hlt2)
          obtain ⟨_, _, hAl, _, hcl2⟩ := hrd.at (by omega)
          obtain ⟨rfl, rfl⟩ : gl = _ ∧ 0 = _ := by simpa using hAl
          have c0 := hcl2 m hlt2
          rw [Nat.zero_add] at c0
          generalize ls[m] = x at c0 HS
          generalize (ls.take m).foldl (pst a.2.2 b.2.2 B p) o = om at *
          have hkm : k < om.length := (List.getElem?_eq_some_iff.1 hpu).1
          have hkg : om[k] = p := by rw [List.getElem?_eq_getElem hkm] at hpu; injection hpu
          obtain ⟨A2', cap2, rfl, _, _, _, hf2⟩ := hown.form
          obtain ⟨b2, rfl, hb21, hb22⟩ := hf2 (by rw [ns_len]; omega)
          have d0 := hown.cellAt k (by rw [ns_len]; exact hkm)
          rw [ns_get om k hkm, hkg] at d0
          rw [ns_len] at HOM ⊢
          clear hcl2 hAl hown hrd hf2 hpu hkg
          go_wp2_with fail
          have f0 := BelW.cell p0' (show w.heap.size < wr.heap.size by omega)
          have f1 := BelW.cell p1' (show w.heap.size < wr.heap.size by omega)
          have f2 := BelW.cell p2' (show w.heap.size < wr.heap.size by omega)
          have f3 := BelW.cell p3' (show w.heap.size + 1 < wr.heap.size by omega)
          have f4 := BelW.cell p4' (show w.heap.size + 1 < wr.heap.size by omega)
          have f5 := BelW.cell p5' (show w.heap.size + 1 < wr.heap.size by omega)
          have f6 := BelW.cell c0 hblr
          have f7 := BelW.cell d0 hb22
          (refine wp_region_quiet_bel (by kernel_rfl) (by kernel_rfl) ?_; (repeat (go_big_quiet_step (first | (go_at_call 46; exact Calls.bel_of (HNA.out x _ (HAA.out _ (HBI.out.trans ((BelW.h _).mono (by omega))))))))); refine wpQuiet_nil ?_; intro wq hw'; obtain ⟨pq, hw''⟩ := hw'; have bq := pq.h; rw [← hw''] at bq; clear hw'' pq)
          clear f0 f1 f2 f3 f4 f5 f6 f7
          have sq := bq.size
          have HQ := Lib.hid (HBI.out.trans (bq.mono (by omega)))
          have HOQ := Lib.hid (HOM.out.below bq)
          have HRQ := Lib.hid (HRR.out.below bq)
          have HBQ := Lib.hid (HOBR.out.below bq)
          have k0 := (bq.cell (p := ⟨w.heap.size, 0, none⟩) (show w.heap.size < wr.heap.size by omega)).trans p0'
          have k1 := (bq.cell (p := ⟨w.heap.size, 1, none⟩) (show w.heap.size < wr.heap.size by omega)).trans p1'
          have k2 := (bq.cell (p := ⟨w.heap.size, 2, none⟩) (show w.heap.size < wr.heap.size by omega)).trans p2'
          have k3 := (bq.cell (p := ⟨w.heap.size + 1, 0, none⟩) (show w.heap.size + 1 < wr.heap.size by omega)).trans p3'
          have k4 := (bq.cell (p := ⟨w.heap.size + 1, 1, none⟩) (show w.heap.size + 1 < wr.heap.size by omega)).trans p4'
          have k5 := (bq.cell (p := ⟨w.heap.size + 1, 2, none⟩) (show w.heap.size + 1 < wr.heap.size by omega)).trans p5'
          have c1 := (bq.cell (p := ⟨gl, m, none⟩) hblr).trans c0
          have d1 := (bq.cell (p := ⟨b2, k, none⟩) hb22).trans d0
          clear bq p0' p1' p2' p3' p4' p5' c0 d0
          go_wp2_with fail
          have f0 := BelW.cell k0 (show w.heap.size < wq.heap.size by omega)
          have f1 := BelW.cell k1 (show w.heap.size < wq.heap.size by omega)
          have f2 := BelW.cell k2 (show w.heap.size < wq.heap.size by omega)
          have f3 := BelW.cell k3 (show w.heap.size + 1 < wq.heap.size by omega)
          have f4 := BelW.cell k4 (show w.heap.size + 1 < wq.heap.size by omega)
          have f5 := BelW.cell k5 (show w.heap.size + 1 < wq.heap.size by omega)
          have f6 := BelW.cell c1 (show gl < wq.heap.size by omega)
          have f7 := BelW.cell d1 (show b2 < wq.heap.size by omega)
          (refine wp_region_quiet_bel (by kernel_rfl) (by kernel_rfl) ?_; (repeat (go_big_quiet_step (first | (go_at_call 46; exact Calls.bel_of (HNB.out x _ (HAB.out _ (HQ.out.trans ((BelW.h _).mono (by omega))))))))); refine wpQuiet_nil ?_; intro wz hw'; obtain ⟨pq, hw''⟩ := hw'; have bz := pq.h; rw [← hw''] at bz; clear hw'' pq)
          clear f0 f1 f2 f3 f4 f5 f6 f7
          have sz := bz.size
          have HZ := Lib.hid (HQ.out.trans (bz.mono (by omega)))
          have HOZ := Lib.hid (HOQ.out.below bz)
          have HRZ := Lib.hid (HRQ.out.below bz)
          have HBZ := Lib.hid (HBQ.out.below bz)
          have j4 := (bz.cell (p := ⟨w.heap.size + 1, 1, none⟩) (show w.heap.size + 1 < wq.heap.size by omega)).trans k4
          clear bz k0 k1 k2 k3 k4 k5 c1 d1
          have NA := Lib.hid (NVA.out un x)
          have NB := Lib.hid (NVB.out vn x)
          have PX : Hid (pst a.2.2 b.2.2 B p om x = if 0 ≤ nextV a.2.2 un x ∧ 0 ≤ nextV b.2.2 vn x then (if (nextV a.2.2 un x).toNat * B + (nextV b.2.2 vn x).toNat ∈ om then om else om ++ [(nextV a.2.2 un x).toNat * B + (nextV b.2.2 vn x).toNat]) else om) := Lib.hid (by
            unfold pst pnx
            rw [← HUN.out, ← HVN.out]
            split
            · rename_i z hz
              split at hz
              · rename_i hc
                rw [if_pos hc]
                injection hz with hz
                rw [hz]
              · cases hz
            · rename_i hz
              split at hz
              · cases hz
              · rename_i hc
                rw [if_neg hc])
          have PN : Hid (0 ≤ nextV a.2.2 un x ∧ 0 ≤ nextV b.2.2 vn x → (nextV a.2.2 un x).toNat * B + (nextV b.2.2 vn x).toNat < n) := Lib.hid fun hc => by
            refine HPX.out p x _ ?_
            unfold pnx
            rw [← HUN.out, ← HVN.out, if_pos hc]
          generalize nextV a.2.2 un x = y1 at *
          generalize nextV b.2.2 vn x = y2 at *
          rcases NA.out with hy | hy
          · subst hy
            have F : Hid (pst a.2.2 b.2.2 B p om x = om) := Lib.hid (by rw [PX.out, if_neg (by omega)])
            go_wp2
            go_roundw
            case rel => exact ⟨m + 1, by omega, by go_num, by rw [HS.out, F.out]; exact HOZ.out, by rw [HS.out, F.out]; exact HBZ.out, HRZ.out, HNR.out, by omega, HZ.out⟩
            case measure => simp [intOf]; omega
          rcases NB.out with hz | hz
          · subst hz
            have hy0 : (0 : Int) ≤ y1 := hy.1
            have F : Hid (pst a.2.2 b.2.2 B p om x = om) := Lib.hid (by rw [PX.out, if_neg (by omega)])
            go_wp2
            go_roundw
            case rel => exact ⟨m + 1, by omega, by go_num, by rw [HS.out, F.out]; exact HOZ.out, by rw [HS.out, F.out]; exact HBZ.out, HRZ.out, HNR.out, by omega, HZ.out⟩
            case measure => simp [intOf]; omega
          obtain ⟨s1, rfl⟩ : ∃ s1 : Nat, y1 = (s1 : Int) := ⟨y1.toNat, by omega⟩
          obtain ⟨t1, rfl⟩ : ∃ t1 : Nat, y2 = (t1 : Int) := ⟨y2.toNat, by omega⟩
          simp only [Int.toNat_natCast] at PX PN
          have hqn := PN.out ⟨hy.1, hz.1⟩
          have PY : Hid (pst a.2.2 b.2.2 B p om x = if s1 * B + t1 ∈ om then om else om ++ [s1 * B + t1]) := Lib.hid (by rw [PX.out, if_pos ⟨hy.1, hz.1⟩])
          obtain ⟨q, hq⟩ : ∃ q, q = s1 * B + t1 := ⟨_, rfl⟩
          rw [← hq] at PY hqn
          have hqi : (s1 : Int) * (B : Int) + (t1 : Int) = (q : Int) := by rw [hq]; simp
          have hw1 : IntKind.i64.wrap ((s1 : Int) * (B : Int)) = (s1 : Int) * (B : Int) := by
            have : (0 : Int) ≤ (s1 : Int) * (B : Int) := Int.mul_nonneg (Int.natCast_nonneg _) (Int.natCast_nonneg _)
            rw [IntKind.wrap_i64]
            omega
          have hw2 : IntKind.i64.wrap ((s1 : Int) * (B : Int) + (t1 : Int)) = (q : Int) := by rw [hqi, IntKind.wrap_i64]; omega
          have hs0 : (0 : Int) ≤ (s1 : Int) := hy.1
          have ht0 : (0 : Int) ≤ (t1 : Int) := hz.1
          have hqn' : (q : Int) < (n : Int) := by omega
          have cq := HBZ.out.cellAt q (by rw [seenL_len]; exact hqn)
          rw [seenL_get n om q hqn] at cq
          have fq := HBZ.out.free q
          clear PX PN hq hqi hy hz NA NB
          by_cases hmem : q ∈ om
          · have F : Hid (pst a.2.2 b.2.2 B p om x = om) := Lib.hid (by rw [PY.out, if_pos hmem])
            have hd : decide (q ∈ om) = true := by simp [hmem]
            rw [hd] at cq
            clear hmem hd
            go_wp2
            go_roundw
            case rel => exact ⟨m + 1, by omega, by go_num, by rw [HS.out, F.out]; exact HOZ.out, by rw [HS.out, F.out]; exact HBZ.out, HRZ.out, HNR.out, by omega, HZ.out⟩
            case measure => simp [intOf]; omega
          · have F : Hid (pst a.2.2 b.2.2 B p om x = om ++ [q]) := Lib.hid (by rw [PY.out, if_neg hmem])
            have hd : decide (q ∈ om) = false := by simp [hmem]
            rw [hd] at cq
            clear hmem hd
            have HY : Hid (I64 (q : Int)) := Lib.hid ⟨by omega, by omega⟩
            have hset := HBZ.out.set q true
            rw [seenL_set] at hset
            have HOS : Hid (OwI (wz.setCell ⟨W0.heap.size, q, none⟩ (.bool true)) (W0.heap.size + 1) (.slice (some ⟨b2, 0, none⟩) om.length cap2) (ns om)) := Lib.hid (HOZ.out.far (p := ⟨W0.heap.size, q, none⟩) (by show W0.heap.size < _; omega) _)
            have HBS := Lib.hid hset.1
            have HRS : Hid (RdI (wz.setCell ⟨W0.heap.size, q, none⟩ (.bool true)) (.slice (some ⟨gl, 0, none⟩) ls.length capl) ls) := Lib.hid (HRZ.out.grown hset.2 fun x hx hx' => by simp [Value.ownBlock] at hx hx'; omega)
            have HZS : Hid (Below W0.heap.size W0 (wz.setCell ⟨W0.heap.size, q, none⟩ (.bool true))) := Lib.hid (HZ.out.setCell (by show W0.heap.size ≤ W0.heap.size; omega) _)
            have hS : (wz.setCell ⟨W0.heap.size, q, none⟩ (.bool true)).heap.size = wz.heap.size := by simp
            have hnl := ns_len om
            clear hset
            go_wp2_with (at_builtin; refine push_int rfl (.tmp 104) (.tmp 111) rfl _ _ _ (OwI.alloc HOS.out _) rfl _ _ rfl (by simp [go_sem]) HY.out (by first | omega | (simp <;> omega)) (by first | omega | (simp <;> omega)) ?_; intro v9 wv9 o9 g9 p9)
            have hz9 := g9.size
            simp at hz9
            go_roundw
            case rel =>
              refine ⟨m + 1, by omega, by go_num, by rw [HS.out, F.out, ns_snoc]; exact o9, by rw [HS.out, F.out]; exact (HBS.out.below ((Below.refl _ _).alloc (Nat.le_refl _) _)).kept g9 (.inr (by simp [Value.ownBlock]; omega)), (HRS.out.alloc _).grown g9 (fun x hx hx' => ?_), fun e => ?_, by omega, bel_push HZS.out (by omega) HOS.out.1 (by omega) g9⟩
              · have := HNR.out
                simp [Value.ownBlock] at hx hx' this
                omega
              · rcases p9 with p9 | p9
                · rw [p9] at e; exact HNR.out e
                · rw [p9] at e; simp at e; omega
            case measure => simp [intOf]; omega
        · obtain rfl : m = ls.length := by omega
          rw [List.take_length] at hown HOBR
          have hndm := HNDm.out ls.length
          have hlom := HLOm.out ls.length
          rw [List.take_length] at hndm hlom
          have HN1 := Lib.hid hndm
          have HN2 := Lib.hid hlom
          have HOM2 := Lib.hid hown
          have hlen : k + 1 ≤ (ls.foldl (pst a.2.2 b.2.2 B p) o).length := by
            have := HPU.out ls.length
            rw [List.take_length] at this
            have := (List.getElem?_eq_some_iff.1 this).1
            omega
          have hll2 := nodup_lt hndm hlom
          clear hown hrd hne hndm hlom p0' p1' p2' p3' p4' p5' HOM
          go_wp2
          go_roundw
          case rel => exact ⟨k + 1, _, hlen, by go_num, HN1.out, HN2.out, HCF.out, HOM2.out, HOBR.out, HRR.out, HNR.out, hblr, HBI.out⟩
          case measure => simp [intOf]; omega
    · obtain rfl : k = o.length := by omega
      have F : Hid (PR = o) := Lib.hid (by
        rw [HP.out]
        cases n + 1 - o.length with
        | zero => rfl
        | succ f => unfold bfsF; rw [List.getElem?_eq_none (Nat.le_refl _)])
      clear hf2 hown
      have HBW : Hid (Below w.heap.size w wo) := Lib.hid (BX.out.trans (HB2.out.mono (by omega)))
      have hbase : w.heap.size ≤ W0.heap.size + 1 := by omega
      go_wp2
      exact bodyPost_ret (v := .slice A1' o.length cap1) (by simp [results, Try.results34]) rfl ⟨_, rfl, by rw [F.out]; exact HO.out.mono hbase, HBW.out⟩
def cntE (ea eb : List EdD) (B p m : Nat) : Nat := ((List.range m).filter fun (i : Nat) => (pnx ea eb B p ((i : Int) + 1)).isSome).length
theorem cntE_succ (ea eb : List EdD) (B p m : Nat) : cntE ea eb B p (m + 1) = cntE ea eb B p m + if (pnx ea eb B p ((m : Int) + 1)).isSome then 1 else 0 := by
  unfold cntE
  rw [List.range_succ, List.filter_append, List.length_append]
  congr 1
  simp only [List.filter_cons, List.filter_nil]
  split <;> rfl
theorem cntE_le (ea eb : List EdD) (B p m : Nat) : cntE ea eb B p m ≤ m := by
  have := List.length_filter_le (fun (i : Nat) => (pnx ea eb B p ((i : Int) + 1)).isSome) (List.range m)
  simpa [cntE] using this
theorem edgL_succ (ea eb : List EdD) (B r : Nat) (o : List Nat) (k : Nat) (h : k < o.length) : edgL ea eb B r (o.take (k + 1)) = edgL ea eb B r (o.take k) + cntE ea eb B o[k] r := by
  unfold edgL
  rw [List.take_succ_eq_append_getElem h, List.map_append, List.sum_append]
  simp [edgN, cntE]
theorem edgL_le (ea eb : List EdD) (B r : Nat) (hr : r ≤ 3) (o : List Nat) : edgL ea eb B r o ≤ 3 * o.length := by
  unfold edgL
  induction o with
  | nil => simp
  | cons p o ih =>
    have := cntE_le ea eb B p r
    have e : edgN ea eb B r p = cntE ea eb B p r := rfl
    simp only [List.map_cons, List.sum_cons, List.length_cons]
    omega
set_option maxHeartbeats 1000000 in
theorem l14Edges_any (va vb vo : Value) (a b : GrD) (A B r : Nat) (o : List Nat) (w : World) (ha : ArgG w va a) (hb : ArgG w vb b) (ho : RdI w vo (ns o)) (h2 : Two a b A B) (hra : a.1 = (r : Int)) (hrb : b.1 = (r : Int)) (hlo : ∀ q ∈ o, q < A * B) (hol : o.length ≤ 1600) :
    Calls Try.prog 35 #[va, vb, vo] w fun e w' => e = .returned (.int .i64 (edgL a.2.2 b.2.2 B r o : Nat)) ∧ Below w.heap.size w w' := by
  have HGA := Lib.hid ha
  have HGB := Lib.hid hb
  have HOR := Lib.hid ho
  have ONEA := Lib.hid (steps_one h2.fa)
  have ONEB := Lib.hid (steps_one h2.fb)
  obtain ⟨⟨hA1, hA2⟩, hB1, hB2⟩ := h2.bd
  have hr3 : r ≤ 3 ∧ 1 ≤ r := by have := (grB_parts h2.ga).1; omega
  have hn1 : A * B ≤ 1600 := Nat.mul_le_mul hA2 hB2
  have HLO : Hid (∀ k (hk : k < o.length), o[k] < 1600) := Lib.hid fun k hk => Nat.lt_of_lt_of_le (hlo o[k] (by simp)) hn1
  have HES : Hid (∀ k (h : k < o.length), edgL a.2.2 b.2.2 B r (o.take (k + 1)) = edgL a.2.2 b.2.2 B r (o.take k) + cntE a.2.2 b.2.2 B o[k] r) := Lib.hid fun k h => edgL_succ _ _ _ _ o k h
  have HEL : Hid (∀ k, k ≤ o.length → edgL a.2.2 b.2.2 B r (o.take k) ≤ 4800) := Lib.hid fun k hk => by
    have := edgL_le a.2.2 b.2.2 B r hr3.1 (o.take k)
    rw [List.length_take] at this
    omega
  have HE0 : Hid (edgL a.2.2 b.2.2 B r (o.take 0) = 0) := Lib.hid rfl
  have HEE : Hid (edgL a.2.2 b.2.2 B r o = edgL a.2.2 b.2.2 B r (o.take o.length)) := Lib.hid (by rw [List.take_length])
  generalize edgL a.2.2 b.2.2 B r o = EE at *
  have sa := h2.sa
  have sb := h2.sb
  obtain ⟨Aa, capa, rfl⟩ : ∃ A' cap, va = .agg #[.int .i64 r, .int .i64 A, .slice A' a.2.2.length cap] := by
    obtain ⟨s, hv, _, _, ha⟩ := HGA.out
    obtain ⟨A', cap, rfl⟩ := ha.form
    exact ⟨A', cap, by rw [hv, hra, sa]⟩
  obtain ⟨Ab, capb, rfl⟩ : ∃ A' cap, vb = .agg #[.int .i64 r, .int .i64 B, .slice A' b.2.2.length cap] := by
    obtain ⟨s, hv, _, _, ha⟩ := HGB.out
    obtain ⟨A', cap, rfl⟩ := ha.form
    exact ⟨A', cap, by rw [hv, hrb, sb]⟩
  obtain ⟨Ao, capo, rfl, hco, hmo, _⟩ := ho.arg
  rw [ns_len] at hco HOR ⊢
  unfold maxLen at hmo
  clear ha hb h2 hra hrb hlo sa sb ho hn1
  go_enter Try.func35, Try.ntmps35
  go_wp2
  have bx : Below w.heap.size w ((w.alloc (Obj.cells #[Value.int IntKind.i64 r, Value.int IntKind.i64 A, .slice Aa a.2.2.length capa] 36)).alloc (Obj.cells #[Value.int IntKind.i64 r, Value.int IntKind.i64 B, .slice Ab b.2.2.length capb] 36)) := (by repeat (first | exact Below.refl _ _ | (refine Below.setCell ?_ (by first | omega | (simp <;> omega)) _) | (refine bel_drewN ?_ _) | (refine Below.drew ?_) | (refine Below.alloc ?_ (by first | omega | (simp <;> omega)) _)))
  obtain ⟨W0, hW0⟩ : ∃ W, W = (w.alloc (Obj.cells #[Value.int IntKind.i64 r, Value.int IntKind.i64 A, .slice Aa a.2.2.length capa] 36)).alloc (Obj.cells #[Value.int IntKind.i64 r, Value.int IntKind.i64 B, .slice Ab b.2.2.length capb] 36) := ⟨_, rfl⟩
  rw [← hW0] at bx ⊢
  have hsW : W0.heap.size = w.heap.size + 1 + 1 := by rw [hW0]; simp
  have A0 : Hid (W0.cell? ⟨w.heap.size, 0, none⟩ = some (.int .i64 r)) := Lib.hid (by rw [hW0]; simp [go_sem])
  have A1 : Hid (W0.cell? ⟨w.heap.size, 1, none⟩ = some (.int .i64 A)) := Lib.hid (by rw [hW0]; simp [go_sem])
  have A2 : Hid (W0.cell? ⟨w.heap.size, 2, none⟩ = some (.slice Aa a.2.2.length capa)) := Lib.hid (by rw [hW0]; simp [go_sem])
  have B0 : Hid (W0.cell? ⟨w.heap.size + 1, 0, none⟩ = some (.int .i64 r)) := Lib.hid (by rw [hW0]; simp [go_sem])
  have B1 : Hid (W0.cell? ⟨w.heap.size + 1, 1, none⟩ = some (.int .i64 B)) := Lib.hid (by rw [hW0]; simp [go_sem])
  have B2 : Hid (W0.cell? ⟨w.heap.size + 1, 2, none⟩ = some (.slice Ab b.2.2.length capb)) := Lib.hid (by rw [hW0]; simp [go_sem])
  clear hW0
  have hl0 : w.heap.size < W0.heap.size := by omega
  have hl1 : w.heap.size + 1 < W0.heap.size := by omega
  have BX := Lib.hid bx
  have HCK : Hid (∀ (k : Nat) (hk : k < o.length) (wr : World), Below W0.heap.size W0 wr → ∃ bo offo, Ao = some ⟨bo, offo, none⟩ ∧ bo < wr.heap.size ∧ wr.cell? ⟨bo, offo + k, none⟩ = some (.int .i64 ((o[k] : Nat) : Int))) := Lib.hid fun k hk wr hb => by
    obtain ⟨bo, offo, hA, hbo, hc⟩ := (HOR.out.below (BX.out.trans (hb.mono (by omega)))).at (by rw [ns_len]; omega)
    have := hc k (by rw [ns_len]; exact hk)
    rw [ns_get o k hk] at this
    exact ⟨bo, offo, hA, hbo, this⟩
  clear bx hsW
  go_loopw [7, 8] (fun c i wo => ∃ k : Nat, k ≤ o.length ∧ i = .int .i64 k ∧ c = .int .i64 (edgL a.2.2 b.2.2 B r (o.take k) : Nat) ∧ Below W0.heap.size W0 wo) (fun _ i _ => o.length - (intOf i).toNat)
  case atStart => exact ⟨0, Nat.zero_le _, rfl, by rw [HE0.out]; rfl, Below.refl _ _⟩
  case round =>
    obtain ⟨k, hk, rfl, rfl, hbel⟩ := hrel
    obtain ⟨wo, rfl⟩ : ∃ wo : World, wo = wr := ⟨_, rfl⟩
    have HB2 := Lib.hid hbel
    by_cases hlt : k < o.length
    · have hpn := HLO.out k hlt
      have HS := Lib.hid (HES.out k hlt)
      have he1 := HEL.out k hk
      have HCP := Lib.hid (HCK.out k hlt)
      obtain ⟨bo, offo, rfl, _, _⟩ := HCP.out wo hbel
      generalize hp : o[k] = p at *
      generalize edgL a.2.2 b.2.2 B r (o.take k) = E0 at *
      obtain ⟨un, hun⟩ : ∃ un, un = p / B := ⟨_, rfl⟩
      obtain ⟨vn, hvn⟩ : ∃ vn, vn = p % B := ⟨_, rfl⟩
      have HUN := Lib.hid hun
      have HVN := Lib.hid hvn
      have hun2 : un ≤ 1600 := by rw [hun]; exact Nat.le_trans (Nat.div_le_self _ _) (by omega)
      have hdiv : wrap64 ((p : Int) / (B : Int)) = (un : Int) := by
        have : (p : Int) / (B : Int) = (un : Int) := by rw [hun]; rfl
        rw [this]
        exact IntWalk.wrap64_in _ ⟨by omega, by omega⟩
      have hmod : (p : Int) % (B : Int) = (vn : Int) := by rw [hvn]; rfl
      have HAA : Hid (∀ W, Below W0.heap.size W0 W → ArgG W (.agg #[.int .i64 r, .int .i64 A, .slice Aa a.2.2.length capa]) a) := Lib.hid fun W hb => HGA.out.below (BX.out.trans (hb.mono (by omega)))
      have HAB : Hid (∀ W, Below W0.heap.size W0 W → ArgG W (.agg #[.int .i64 r, .int .i64 B, .slice Ab b.2.2.length capb]) b) := Lib.hid fun W hb => HGB.out.below (BX.out.trans (hb.mono (by omega)))
      clear hp hun hvn hbel HCK
      go_wp2
      go_loopw [7, 9] (fun c j wr => ∃ m : Nat, m ≤ r ∧ j = .int .i64 ((m : Int) + 1) ∧ c = .int .i64 ((E0 + cntE a.2.2 b.2.2 B p m : Nat) : Int) ∧ Below W0.heap.size W0 wr) (fun _ j _ => r + 1 - (intOf j).toNat)
      case atStart => exact ⟨0, Nat.zero_le _, rfl, rfl, HB2.out⟩
      case round =>
        obtain ⟨m, hm1, rfl, rfl, hbi⟩ := hrel
        have hsi := hbi.size
        have HBI := Lib.hid hbi
        have p0' := (hbi.cell (p := ⟨w.heap.size, 0, none⟩) hl0).trans A0.out
        have p1' := (hbi.cell (p := ⟨w.heap.size, 1, none⟩) hl0).trans A1.out
        have p2' := (hbi.cell (p := ⟨w.heap.size, 2, none⟩) hl0).trans A2.out
        have p3' := (hbi.cell (p := ⟨w.heap.size + 1, 0, none⟩) hl1).trans B0.out
        have p4' := (hbi.cell (p := ⟨w.heap.size + 1, 1, none⟩) hl1).trans B1.out
        have p5' := (hbi.cell (p := ⟨w.heap.size + 1, 2, none⟩) hl1).trans B2.out
        by_cases hlt2 : m < r
        · have hmi : (m : Int) + 1 ≤ (r : Int) := by omega
          obtain ⟨bo', offo', hbo', hbw, hck⟩ := HCP.out wr hbi
          obtain ⟨rfl, rfl⟩ : bo = bo' ∧ offo = offo' := by simpa using hbo'
          have ST := Lib.hid (cntE_succ a.2.2 b.2.2 B p m)
          have CL := cntE_le a.2.2 b.2.2 B p m
          have PX : Hid ((pnx a.2.2 b.2.2 B p ((m : Int) + 1)).isSome = (decide (0 ≤ nextV a.2.2 un ((m : Int) + 1)) && decide (0 ≤ nextV b.2.2 vn ((m : Int) + 1)))) := Lib.hid (by
            unfold pnx
            rw [← HUN.out, ← HVN.out]
            split
            · rename_i hc
              simp [hc.1, hc.2]
            · rename_i hc
              rcases Classical.em (0 ≤ nextV a.2.2 un ((m : Int) + 1)) with h1 | h1
              · have h2 : ¬ 0 ≤ nextV b.2.2 vn ((m : Int) + 1) := fun h => hc ⟨h1, h⟩
                simp [h2]
              · simp [h1])
          have HNA := Lib.hid (fun W h => specNextVertex_any (.agg #[.int .i64 r, .int .i64 A, .slice Aa a.2.2.length capa]) a (un : Int) ((m : Int) + 1) W h (ONEA.out (un : Int) _))
          have HNB := Lib.hid (fun W h => specNextVertex_any (.agg #[.int .i64 r, .int .i64 B, .slice Ab b.2.2.length capb]) b (vn : Int) ((m : Int) + 1) W h (ONEB.out (vn : Int) _))
          generalize nextV a.2.2 un ((m : Int) + 1) = y1 at *
          generalize nextV b.2.2 vn ((m : Int) + 1) = y2 at *
          generalize cntE a.2.2 b.2.2 B p m = cm at *
          clear hbo' hbi
          by_cases hy : 0 ≤ y1
          · by_cases hz : 0 ≤ y2
            · have F : Hid (cntE a.2.2 b.2.2 B p (m + 1) = cm + 1) := Lib.hid (by rw [ST.out, PX.out]; simp [hy, hz])
              go_wp2_with fail
              have f0 := BelW.cell p0' (show w.heap.size < wr.heap.size by omega)
              have f1 := BelW.cell p1' (show w.heap.size < wr.heap.size by omega)
              have f2 := BelW.cell p2' (show w.heap.size < wr.heap.size by omega)
              have f3 := BelW.cell p3' (show w.heap.size + 1 < wr.heap.size by omega)
              have f4 := BelW.cell p4' (show w.heap.size + 1 < wr.heap.size by omega)
              have f5 := BelW.cell p5' (show w.heap.size + 1 < wr.heap.size by omega)
              have f6 := BelW.cell hck hbw
              (refine wp_region_quiet_bel (by kernel_rfl) (by kernel_rfl) ?_; (repeat (go_big_quiet_step (first | (go_at_call 46; with_reducible exact Calls.bel_of (HNA.out _ (HAA.out _ (HBI.out.trans ((BelW.h _).mono (by omega)))))) | (go_at_call 46; with_reducible exact Calls.bel_of (HNB.out _ (HAB.out _ (HBI.out.trans ((BelW.h _).mono (by omega))))))))); refine wpQuiet_nil ?_; intro wq hw'; obtain ⟨pq, hw''⟩ := hw'; have bq := pq.h; rw [← hw''] at bq; clear hw'' pq)
              have HQ := Lib.hid (HBI.out.trans (bq.mono (by omega)))
              clear bq f0 f1 f2 f3 f4 f5 f6 p0' p1' p2' p3' p4' p5' hck
              go_wp2
              go_roundw
              case rel => exact ⟨m + 1, by omega, by go_num, by rw [F.out]; go_num, HQ.out⟩
              case measure => simp [intOf]; omega
            · have F : Hid (cntE a.2.2 b.2.2 B p (m + 1) = cm) := Lib.hid (by rw [ST.out, PX.out]; simp [hy, hz])
              go_wp2_with fail
              have f0 := BelW.cell p0' (show w.heap.size < wr.heap.size by omega)
              have f1 := BelW.cell p1' (show w.heap.size < wr.heap.size by omega)
              have f2 := BelW.cell p2' (show w.heap.size < wr.heap.size by omega)
              have f3 := BelW.cell p3' (show w.heap.size + 1 < wr.heap.size by omega)
              have f4 := BelW.cell p4' (show w.heap.size + 1 < wr.heap.size by omega)
              have f5 := BelW.cell p5' (show w.heap.size + 1 < wr.heap.size by omega)
              have f6 := BelW.cell hck hbw
              (refine wp_region_quiet_bel (by kernel_rfl) (by kernel_rfl) ?_; (repeat (go_big_quiet_step (first | (go_at_call 46; with_reducible exact Calls.bel_of (HNA.out _ (HAA.out _ (HBI.out.trans ((BelW.h _).mono (by omega)))))) | (go_at_call 46; with_reducible exact Calls.bel_of (HNB.out _ (HAB.out _ (HBI.out.trans ((BelW.h _).mono (by omega))))))))); refine wpQuiet_nil ?_; intro wq hw'; obtain ⟨pq, hw''⟩ := hw'; have bq := pq.h; rw [← hw''] at bq; clear hw'' pq)
              have HQ := Lib.hid (HBI.out.trans (bq.mono (by omega)))
              clear bq f0 f1 f2 f3 f4 f5 f6 p0' p1' p2' p3' p4' p5' hck
              go_wp2
              go_roundw
              case rel => exact ⟨m + 1, by omega, by go_num, by rw [F.out]; rfl, HQ.out⟩
              case measure => simp [intOf]; omega
          · have F : Hid (cntE a.2.2 b.2.2 B p (m + 1) = cm) := Lib.hid (by rw [ST.out, PX.out]; simp [hy])
            have hyd : decide (0 ≤ y1) = false := by simp; omega
            go_wp2_with fail
            have f0 := BelW.cell p0' (show w.heap.size < wr.heap.size by omega)
            have f1 := BelW.cell p1' (show w.heap.size < wr.heap.size by omega)
            have f2 := BelW.cell p2' (show w.heap.size < wr.heap.size by omega)
            have f3 := BelW.cell p3' (show w.heap.size + 1 < wr.heap.size by omega)
            have f4 := BelW.cell p4' (show w.heap.size + 1 < wr.heap.size by omega)
            have f5 := BelW.cell p5' (show w.heap.size + 1 < wr.heap.size by omega)
            have f6 := BelW.cell hck hbw
            (refine wp_region_quiet_bel (by kernel_rfl) (by kernel_rfl) ?_; (repeat (go_big_quiet_step (first | (go_at_call 46; with_reducible exact Calls.bel_of (HNA.out _ (HAA.out _ (HBI.out.trans ((BelW.h _).mono (by omega)))))) | (go_at_call 46; with_reducible exact Calls.bel_of (HNB.out _ (HAB.out _ (HBI.out.trans ((BelW.h _).mono (by omega))))))))); refine wpQuiet_nil ?_; intro wq hw'; obtain ⟨pq, hw''⟩ := hw'; have bq := pq.h; rw [← hw''] at bq; clear hw'' pq)
            have HQ := Lib.hid (HBI.out.trans (bq.mono (by omega)))
            clear bq f0 f1 f2 f3 f4 f5 f6 p0' p1' p2' p3' p4' p5' hck
            go_wp2
            go_roundw
            case rel => exact ⟨m + 1, by omega, by go_num, by rw [F.out]; rfl, HQ.out⟩
            case measure => simp [intOf]; omega
        · obtain rfl : m = r := by omega
          have CL := cntE_le a.2.2 b.2.2 B p m
          have hni : ¬ (m : Int) + 1 ≤ (m : Int) := by omega
          generalize hcm : cntE a.2.2 b.2.2 B p m = cm at *
          have HCM := Lib.hid hcm
          clear hcm hbi
          go_wp2
          go_roundw
          case rel => exact ⟨k + 1, by omega, by go_num, by rw [HS.out], HBI.out⟩
          case measure => simp [intOf]; omega
    · obtain rfl : k = o.length := by omega
      have F : Hid (EE = edgL a.2.2 b.2.2 B r (o.take o.length)) := HEE
      clear hbel
      generalize edgL a.2.2 b.2.2 B r (o.take o.length) = E0 at *
      go_wp2
      exact bodyPost_ret (v := .int .i64 (E0 : Nat)) (by simp [results, Try.results35]) rfl ⟨by rw [F.out], BX.out.trans (HB2.out.mono (by omega))⟩
end Go.Proofs.Ytodkandjcodnjaa
