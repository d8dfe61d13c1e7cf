/- The order in which the vertices of a folded graph are found: plain Lean. -/
import Derived.Test.YtbflljcafbneaaaReach
import Derived.Test.YtbflljcafbneaaaGrF
import Derived.Test.YtbflljcafbneaaaLet
namespace Go.Proofs.Ytbflljcafbneaaa
set_option maxRecDepth 20000
set_option linter.unusedVariables false
set_option linter.unusedSimpArgs false
open Go.RowKit

/-- Steps in a folded graph: at most one; into the graph. -/
theorem mt_clash {v x y y' : Int} {e e' : EdD} (h : mt v x e = some y) (h' : mt v x e' = some y') : clash e e' = true := by
  unfold mt at h h'
  by_cases hp : 0 < x
  · rw [if_pos hp] at h h'
    split at h
    · rename_i a
      split at h'
      · rename_i b
        unfold clash
        simp [a.1, a.2, b.1, b.2]
      · cases h'
    · cases h
  · rw [if_neg hp] at h h'
    by_cases hn : x < 0
    · rw [if_pos hn] at h h'
      split at h
      · rename_i a
        split at h'
        · rename_i b
          unfold clash
          simp [a.1, a.2, b.1, b.2]
        · cases h'
      · cases h
    · rw [if_neg hn] at h; cases h
theorem steps_one {es : List EdD} (h : Fol es) (v x : Int) : (stepsL es v x).length ≤ 1 := by
  unfold stepsL
  unfold Fol at h
  induction es with
  | nil => simp
  | cons e es ih =>
    have p := List.pairwise_cons.1 h
    rw [List.filterMap_cons]
    cases hm : mt v x e with
    | none => exact ih p.2
    | some y =>
      have : es.filterMap (mt v x) = [] := by
        rw [List.filterMap_eq_nil_iff]
        intro e' he'
        cases hm' : mt v x e' with
        | none => rfl
        | some y' =>
          have := mt_clash hm hm'
          rw [p.1 e' he'] at this
          cases this
      simp [this]
theorem edge_of_gr {g : GrD} (h : grB g = true) {e : EdD} (he : e ∈ g.2.2) : (0 ≤ e.1 ∧ e.1 < g.2.1) ∧ (1 ≤ e.2.1 ∧ e.2.1 ≤ g.1) ∧ (0 ≤ e.2.2 ∧ e.2.2 < g.2.1) := by
  obtain ⟨h1, h2, _, h4⟩ := grB_parts h
  obtain ⟨k, hk, rfl⟩ := List.getElem_of_mem he
  have := h4 k hk
  have ho : edgeOk g.1 g.2.1 g.2.2[k] = true := by
    rcases Nat.eq_zero_or_pos k with rfl | h0
    · rw [okE_zero hk] at this; exact this
    · rw [okE_pos h0 hk, Bool.and_eq_true] at this; exact this.1
  unfold edgeOk at ho
  rw [IntWalk.wrap64_in (g.2.1 - 1) ⟨by omega, by omega⟩] at ho
  simp only [Bool.and_eq_true, inB_iff] at ho
  omega
theorem nextV_range {g : GrD} (h : grB g = true) (v x : Int) : nextV g.2.2 v x = -1 ∨ (0 ≤ nextV g.2.2 v x ∧ nextV g.2.2 v x < g.2.1) := by
  unfold nextV stepsL
  cases hs : g.2.2.filterMap (mt v x) with
  | nil => exact .inl rfl
  | cons y l =>
    right
    have hy : y ∈ g.2.2.filterMap (mt v x) := by rw [hs]; simp
    obtain ⟨e, he, hm⟩ := List.mem_filterMap.1 hy
    obtain ⟨a, _, b⟩ := edge_of_gr h he
    show 0 ≤ y ∧ y < g.2.1
    unfold mt at hm
    split at hm
    · split at hm
      · injection hm with hm; subst hm; exact b
      · cases hm
    · split at hm
      · split at hm
        · injection hm with hm; subst hm; exact a
        · cases hm
      · cases hm
theorem let_of_gr {g : GrD} (h : grB g = true) : ∀ e ∈ g.2.2, 1 ≤ e.2.1 := fun _ he => (edge_of_gr h he).2.1.1

/-- One letter at a vertex; all letters; all vertices found so far, in their order. -/
def cstep (es : List EdD) (u : Int) (o : List Int) (x : Int) : List Int :=
  if 0 ≤ nextV es u x then (if hasB o (nextV es u x) then o else o ++ [nextV es u x]) else o
def canF (es : List EdD) (ls : List Int) : Nat → Nat → List Int → List Int
  | 0, _, o => o
  | f + 1, i, o => match o[i]? with
    | none => o
    | some u => canF es ls f (i + 1) (ls.foldl (cstep es u) o)
def canO (g : GrD) : List Int := canF g.2.2 (lettersL g.1.toNat) 41 0 [0]
/-- What such a list always is. -/
def OrdOk (n : Int) (o : List Int) : Prop := o.Nodup ∧ (∀ y ∈ o, 0 ≤ y ∧ y < n) ∧ o[0]? = some 0
theorem nodup_len : ∀ (n : Nat) (o : List Int), o.Nodup → (∀ y ∈ o, 0 ≤ y ∧ y < n) → o.length ≤ n
  | 0, [], _, _ => Nat.le_refl _
  | 0, y :: o, _, h => by have := h y (by simp); omega
  | n + 1, o, hd, h => by
    by_cases hm : (n : Int) ∈ o
    · have h1 := List.length_erase_of_mem hm
      have h2 := nodup_len n (o.erase n) (hd.erase _) fun y hy => by
        have hy' := (hd.mem_erase_iff).1 hy
        have := h y hy'.2
        have : y ≠ (n : Int) := hy'.1
        omega
      have : 0 < o.length := List.length_pos_of_mem hm
      omega
    · have := nodup_len n o hd fun y hy => by
        have := h y hy
        have : y ≠ (n : Int) := fun e => hm (e ▸ hy)
        omega
      omega
theorem OrdOk.len {n : Int} {o : List Int} (h : OrdOk n o) (hn : n ≤ 40) (hn0 : 0 ≤ n) : o.length ≤ 40 := by
  have := nodup_len n.toNat o h.1 fun y hy => by have := h.2.1 y hy; omega
  omega
theorem cstep_ok {g : GrD} (hg : grB g = true) {u : Int} {o : List Int} (x : Int) (h : OrdOk g.2.1 o) : OrdOk g.2.1 (cstep g.2.2 u o x) := by
  unfold cstep
  split
  · rename_i h0
    split
    · exact h
    · rename_i hb
      have hb' : nextV g.2.2 u x ∉ o := hasB_not (by simpa using hb)
      refine ⟨List.nodup_append.2 ⟨h.1, by simp, fun a ha b hb e => ?_⟩, fun y hy => ?_, ?_⟩
      · simp at hb
        subst hb e
        exact hb' ha
      · rcases List.mem_append.1 hy with hy | hy
        · exact h.2.1 y hy
        · simp at hy
          subst hy
          rcases nextV_range hg u x with e | e
          · omega
          · exact e
      · have : 0 < o.length := by
          have := h.2.2
          cases o with
          | nil => cases this
          | cons _ _ => simp
        rw [List.getElem?_append_left this]
        exact h.2.2
  · exact h
theorem cfold_ok {g : GrD} (hg : grB g = true) {u : Int} (ls : List Int) {o : List Int} (h : OrdOk g.2.1 o) : OrdOk g.2.1 (ls.foldl (cstep g.2.2 u) o) := by
  induction ls generalizing o with
  | nil => exact h
  | cons x ls ih => exact ih (cstep_ok hg x h)
theorem cfold_prefix (es : List EdD) (u : Int) (ls : List Int) (o : List Int) (i : Nat) (y : Int) (h : o[i]? = some y) : (ls.foldl (cstep es u) o)[i]? = some y := by
  induction ls generalizing o with
  | nil => exact h
  | cons x ls ih =>
    refine ih _ ?_
    unfold cstep
    split
    · split
      · exact h
      · rw [List.getElem?_append_left (List.getElem?_eq_some_iff.1 h).1]; exact h
    · exact h
theorem cfold_succ (es : List EdD) (u : Int) (ls o : List Int) (k : Nat) (h : k < ls.length) : (ls.take (k + 1)).foldl (cstep es u) o = cstep es u ((ls.take k).foldl (cstep es u) o) ls[k] := by
  rw [List.take_succ_eq_append_getElem h, List.foldl_append]
  rfl
theorem OrdOk.one {n : Int} (h : 1 ≤ n) : OrdOk n [0] := ⟨by simp, fun y hy => by simp at hy; omega, rfl⟩
theorem canF_end (es : List EdD) (ls : List Int) (f : Nat) (o : List Int) : canF es ls f o.length o = o := by
  cases f with
  | zero => rfl
  | succ f => unfold canF; rw [List.getElem?_eq_none (Nat.le_refl _)]
theorem canF_step (es : List EdD) (ls : List Int) (f i : Nat) (o : List Int) (h : i < o.length) : canF es ls (f + 1) i o = canF es ls f (i + 1) (ls.foldl (cstep es o[i]) o) := by
  rw [canF, List.getElem?_eq_getElem h]
theorem canF_ok {g : GrD} (hg : grB g = true) (ls : List Int) (f i : Nat) {o : List Int} (h : OrdOk g.2.1 o) : OrdOk g.2.1 (canF g.2.2 ls f i o) := by
  induction f generalizing i o with
  | zero => exact h
  | succ f ih =>
    unfold canF
    split
    · exact h
    · exact ih _ (cfold_ok hg ls h)
theorem canO_ok {g : GrD} (hg : grB g = true) : OrdOk g.2.1 (canO g) := canF_ok hg _ _ _ (OrdOk.one (grB_parts hg).2.1.1)
end Go.Proofs.Ytbflljcafbneaaa
