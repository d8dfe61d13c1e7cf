/- The order in which the vertices of a folded graph are found: plain Lean. The vertices that are reached from one: the reference's ReachedFrom. Which vertices are connected: plain Lean. -/
import Derived.Test.YtgoghkboklehnaaOrd
import Derived.Test.YtgoghkboklehnaaHas
import Derived.Test.YtgoghkboklehnaaGrD
import Derived.Test.YtgoghkboklehnaaGrB
import Derived.Test.YtgoghkboklehnaaGrF
import Derived.Test.YtgoghkboklehnaaLet
namespace Go.Proofs.Ytgoghkboklehnaa
set_option maxRecDepth 20000
set_option linter.unusedVariables false
set_option linter.unusedSimpArgs false
open Go.RowKit

inductive Conn (es : List EdD) (v : Int) : Int → Prop
  | base : Conn es v v
  | fwd (e : EdD) (he : e ∈ es) (h : Conn es v e.1) : Conn es v e.2.2
  | back (e : EdD) (he : e ∈ es) (h : Conn es v e.2.2) : Conn es v e.1
def stepR (o : List Int) (e : EdD) : List Int :=
  if e.2.2 ∈ (if e.1 ∈ o then insF cmpI o e.2.2 else o) then insF cmpI (if e.1 ∈ o then insF cmpI o e.2.2 else o) e.1 else (if e.1 ∈ o then insF cmpI o e.2.2 else o)
theorem insF_mem {xs : List Int} {x y : Int} : y ∈ insF cmpI xs x ↔ y = x ∨ y ∈ xs := by rw [insF_eq]; exact insR_mem x xs cmpI_ord y
theorem insF_srt {xs : List Int} {x : Int} (h : Srt cmpI xs) : Srt cmpI (insF cmpI xs x) := by rw [insF_eq]; exact insR_srt cmpI_ord x xs h
theorem stepR_srt {o : List Int} {e : EdD} (h : Srt cmpI o) : Srt cmpI (stepR o e) := by
  unfold stepR
  have h1 : Srt cmpI (if e.1 ∈ o then insF cmpI o e.2.2 else o) := by split; exact insF_srt h; exact h
  generalize (if e.1 ∈ o then insF cmpI o e.2.2 else o) = o1 at h1 ⊢
  split
  · exact insF_srt h1
  · exact h1
theorem stepR_mem {o : List Int} {e : EdD} {x : Int} : x ∈ stepR o e ↔ x ∈ o ∨ ((e.1 ∈ o ∨ e.2.2 ∈ o) ∧ (x = e.1 ∨ x = e.2.2)) := by
  unfold stepR
  by_cases h1 : e.1 ∈ o
  · simp only [h1, if_true]
    have h2 : e.2.2 ∈ insF cmpI o e.2.2 := insF_mem.2 (.inl rfl)
    rw [if_pos h2, insF_mem, insF_mem]
    constructor
    · rintro (h | h | h)
      · exact .inr ⟨.inl trivial, .inl h⟩
      · exact .inr ⟨.inl trivial, .inr h⟩
      · exact .inl h
    · rintro (h | ⟨_, h | h⟩)
      · exact .inr (.inr h)
      · exact .inl h
      · exact .inr (.inl h)
  · simp only [h1, if_false]
    by_cases h2 : e.2.2 ∈ o
    · rw [if_pos h2, insF_mem]
      constructor
      · rintro (h | h)
        · exact .inr ⟨.inr h2, .inl h⟩
        · exact .inl h
      · rintro (h | ⟨_, h | h⟩)
        · exact .inr h
        · exact .inl h
        · exact .inr (by rw [h]; exact h2)
    · rw [if_neg h2]
      constructor
      · exact .inl
      · rintro (h | ⟨h | h, _⟩)
        · exact h
        · exact absurd h (by simp)
        · exact absurd h h2
def passR (es : List EdD) (o : List Int) : List Int := es.foldl stepR o
theorem passR_srt {es : List EdD} {o : List Int} (h : Srt cmpI o) : Srt cmpI (passR es o) := by
  unfold passR
  induction es generalizing o with
  | nil => exact h
  | cons e es ih => exact ih (stepR_srt h)
theorem passR_mono {es : List EdD} {o : List Int} {x : Int} (h : x ∈ o) : x ∈ passR es o := by
  unfold passR
  induction es generalizing o with
  | nil => exact h
  | cons e es ih => exact ih (stepR_mem.2 (.inl h))
theorem passR_both {es : List EdD} {o : List Int} {e : EdD} (he : e ∈ es) (h : e.1 ∈ o ∨ e.2.2 ∈ o) : e.1 ∈ passR es o ∧ e.2.2 ∈ passR es o := by
  unfold passR
  induction es generalizing o with
  | nil => cases he
  | cons d es ih =>
    rcases List.mem_cons.1 he with rfl | he
    · exact ⟨passR_mono (es := es) (o := stepR o e) (stepR_mem.2 (.inr ⟨h, .inl rfl⟩)), passR_mono (es := es) (o := stepR o e) (stepR_mem.2 (.inr ⟨h, .inr rfl⟩))⟩
    · refine ih he ?_
      rcases h with h | h
      · exact .inl (stepR_mem.2 (.inl h))
      · exact .inr (stepR_mem.2 (.inl h))
theorem passR_sound {es es' : List EdD} {v : Int} {o : List Int} (hsub : ∀ e ∈ es', e ∈ es) (h : ∀ x ∈ o, Conn es v x) : ∀ x ∈ passR es' o, Conn es v x := by
  unfold passR
  induction es' generalizing o with
  | nil => exact h
  | cons e es' ih =>
    refine ih (fun d hd => hsub d (by simp [hd])) fun x hx => ?_
    have he := hsub e (by simp)
    rcases stepR_mem.1 hx with hx | ⟨h1 | h1, rfl | rfl⟩
    · exact h x hx
    · exact h _ h1
    · exact .fwd e he (h _ h1)
    · exact .back e he (h _ h1)
    · exact h _ h1
def Clo (es : List EdD) (o : List Int) : Prop := ∀ e ∈ es, (e.1 ∈ o ↔ e.2.2 ∈ o)
theorem passR_clo {es : List EdD} {o : List Int} (h : Clo es o) : ∀ x, x ∈ passR es o ↔ x ∈ o := by
  have key : ∀ es' : List EdD, (∀ e ∈ es', e ∈ es) → ∀ o', (∀ x, x ∈ o' ↔ x ∈ o) → ∀ x, x ∈ es'.foldl stepR o' ↔ x ∈ o := by
    intro es'
    induction es' with
    | nil => intro _ o' ho; exact ho
    | cons e es' ih =>
      intro hsub o' ho
      refine ih (fun d hd => hsub d (by simp [hd])) _ fun x => ?_
      rw [stepR_mem, ho, ho, ho]
      have := h e (hsub e (by simp))
      constructor
      · rintro (hx | ⟨h1 | h1, rfl | rfl⟩)
        · exact hx
        · exact h1
        · exact this.1 h1
        · exact this.2 h1
        · exact h1
      · exact .inl
  exact key es (fun _ h => h) o fun _ => Iff.rfl
def phi (es : List EdD) (o : List Int) : Nat := (es.filter fun e => decide (e.1 ∈ o ∧ e.2.2 ∈ o)).length
theorem filter_lt {α : Type} {p q : α → Bool} {l : List α} (hpq : ∀ x, p x = true → q x = true) {a : α} (ha : a ∈ l) (hq : q a = true) (hp : p a = false) : (l.filter p).length < (l.filter q).length := by
  have le : ∀ l : List α, (l.filter p).length ≤ (l.filter q).length := by
    intro l
    induction l with
    | nil => simp
    | cons b l ih =>
      rw [List.filter_cons, List.filter_cons]
      split
      · rename_i h
        rw [if_pos (hpq b h)]
        simp; exact ih
      · split
        · simp; omega
        · exact ih
  induction l with
  | nil => cases ha
  | cons b l ih =>
    rw [List.filter_cons, List.filter_cons]
    rcases List.mem_cons.1 ha with rfl | ha
    · rw [if_neg (by simp [hp]), if_pos hq]
      have := le l
      simp; omega
    · have := ih ha
      split
      · rename_i h
        rw [if_pos (hpq b h)]
        simp; exact this
      · split
        · simp; omega
        · exact this
theorem phi_lt {es : List EdD} {o : List Int} (h : ¬ Clo es o) : phi es o < phi es (passR es o) := by
  unfold Clo at h
  have : ∃ e, e ∈ es ∧ ¬ (e.1 ∈ o ↔ e.2.2 ∈ o) := by
    apply Classical.byContradiction
    intro hn
    exact h fun e he => Classical.byContradiction fun hne => hn ⟨e, he, hne⟩
  obtain ⟨e, he, hne⟩ := this
  have hor : e.1 ∈ o ∨ e.2.2 ∈ o := by
    apply Classical.byContradiction
    intro hn
    exact hne ⟨fun h => absurd (.inl h) hn, fun h => absurd (.inr h) hn⟩
  refine filter_lt (fun d hd => ?_) he ?_ ?_
  · simp only [decide_eq_true_eq] at hd ⊢
    exact ⟨passR_mono hd.1, passR_mono hd.2⟩
  · simp only [decide_eq_true_eq]
    exact passR_both he hor
  · rw [decide_eq_false_iff_not]
    exact fun hh => hne ⟨fun _ => hh.2, fun _ => hh.1⟩
def iterR (es : List EdD) (v : Int) : Nat → List Int
  | 0 => [v]
  | i + 1 => passR es (iterR es v i)
theorem iterR_srt (es : List EdD) (v : Int) (i : Nat) : Srt cmpI (iterR es v i) := by
  induction i with
  | zero => simp [iterR, Srt]
  | succ i ih => exact passR_srt ih
theorem iterR_clo (es : List EdD) (v : Int) (i : Nat) : Clo es (iterR es v i) ∨ i ≤ phi es (iterR es v i) := by
  induction i with
  | zero => exact .inr (Nat.zero_le _)
  | succ i ih =>
    by_cases h : Clo es (iterR es v i)
    · left
      intro e he
      show e.1 ∈ passR es _ ↔ e.2.2 ∈ passR es _
      rw [passR_clo h, passR_clo h]
      exact h e he
    · right
      have h1 := phi_lt h
      rcases ih with ih | ih
      · exact absurd ih h
      · show i + 1 ≤ phi es (passR es (iterR es v i))
        omega
def reachL (es : List EdD) (v : Int) : List Int := iterR es v (es.length + 1)
theorem reachL_mem (es : List EdD) (v x : Int) : x ∈ reachL es v ↔ Conn es v x := by
  have hclo : Clo es (reachL es v) := by
    rcases iterR_clo es v (es.length + 1) with h | h
    · exact h
    · have : phi es (iterR es v (es.length + 1)) ≤ es.length := List.length_filter_le _ _
      omega
  have hv : ∀ i, v ∈ iterR es v i := by
    intro i
    induction i with
    | zero => simp [iterR]
    | succ i ih => exact passR_mono ih
  have hs : ∀ i, ∀ x ∈ iterR es v i, Conn es v x := by
    intro i
    induction i with
    | zero => intro x hx; simp [iterR] at hx; subst hx; exact .base
    | succ i ih => exact passR_sound (fun _ h => h) ih
  refine ⟨hs _ x, fun h => ?_⟩
  induction h with
  | base => exact hv _
  | fwd e he _ ih => exact (hclo e he).1 ih
  | back e he _ ih => exact (hclo e he).2 ih
/-- Any set of vertices that holds v, is closed, and holds connected ones alone. -/
theorem conn_of_closed {es : List EdD} {v : Int} {S : Int → Prop} (hv : S v) (hc : ∀ e ∈ es, (S e.1 ↔ S e.2.2)) {x : Int} (h : Conn es v x) : S x := by
  induction h with
  | base => exact hv
  | fwd e he _ ih => exact (hc e he).1 ih
  | back e he _ ih => exact (hc e he).2 ih
theorem hasB_iff {l : List Int} {x : Int} : hasB l x = true ↔ x ∈ l := by
  unfold hasB
  rw [List.any_eq_true]
  constructor
  · rintro ⟨y, hy, h⟩
    have : y = x := by simpa using h
    rw [← this]; exact hy
  · intro h
    exact ⟨x, h, by simp⟩
theorem hasB_not {l : List Int} {x : Int} (h : hasB l x = false) : x ∉ l := fun hm => by
  rw [hasB_iff.2 hm] at h
  cases h
theorem stepR_len (o : List Int) (e : EdD) : (stepR o e).length ≤ o.length + 2 := by
  unfold stepR
  have h1 : (if e.1 ∈ o then insF cmpI o e.2.2 else o).length ≤ o.length + 1 := by
    split
    · exact insF_len _ _
    · omega
  generalize (if e.1 ∈ o then insF cmpI o e.2.2 else o) = o1 at h1 ⊢
  split
  · have := insF_len (c := cmpI) o1 e.1
    omega
  · omega
theorem foldR_len (es : List EdD) (o : List Int) : (es.foldl stepR o).length ≤ o.length + 2 * es.length := by
  induction es generalizing o with
  | nil => simp
  | cons e es ih =>
    have h1 := ih (stepR o e)
    have h2 := stepR_len o e
    simp only [List.foldl_cons, List.length_cons]
    omega
theorem iterR_len (es : List EdD) (v : Int) (i : Nat) (hl : es.length ≤ 120) : (iterR es v i).length ≤ 1 + 240 * i := by
  induction i with
  | zero => simp [iterR]
  | succ i ih =>
    have := foldR_len es (iterR es v i)
    show (passR es (iterR es v i)).length ≤ _
    unfold passR
    omega
def rsL (es : List EdD) (v : Int) (i k : Nat) : List Int := (es.take k).foldl stepR (iterR es v i)
theorem rsL_succ (es : List EdD) (v : Int) (i k : Nat) (h : k < es.length) : rsL es v i (k + 1) = stepR (rsL es v i k) es[k] := by
  unfold rsL
  rw [List.take_succ_eq_append_getElem h, List.foldl_append]
  rfl
theorem rsL_len (es : List EdD) (v : Int) (i k : Nat) (hl : es.length ≤ 120) (hi : i ≤ 121) (hk : k ≤ 120) : (rsL es v i k).length ≤ 100000 := by
  have h1 := iterR_len es v i hl
  have h2 := foldR_len (es.take k) (iterR es v i)
  have h3 : (es.take k).length ≤ k := List.length_take_le _ _
  unfold rsL
  omega
theorem stepR_ff {o : List Int} {e : EdD} (h1 : hasB o e.1 = false) (h2 : hasB o e.2.2 = false) : stepR o e = o := by
  unfold stepR
  rw [if_neg (hasB_not h1), if_neg (hasB_not h2)]
theorem stepR_ft {o : List Int} {e : EdD} (h1 : hasB o e.1 = false) (h2 : hasB o e.2.2 = true) : stepR o e = insF cmpI o e.1 := by
  unfold stepR
  rw [if_neg (hasB_not h1), if_pos (hasB_iff.1 h2)]
theorem stepR_t {o : List Int} {e : EdD} (h1 : hasB o e.1 = true) : stepR o e = insF cmpI (insF cmpI o e.2.2) e.1 := by
  unfold stepR
  rw [if_pos (hasB_iff.1 h1), if_pos (insF_mem.2 (.inl rfl))]
/-- Steps in a folded graph: at most one; into the graph. -/
theorem mt_clash {v x y y' : Int} {e e' : EdD} (h : mt v x e = some y) (h' : mt v x e' = some y') : clash e e' = true := by
  unfold mt at h h'
  by_cases hp : 0 < x
  · rw [if_pos hp] at h h'
    split at h
    · rename_i a
      split at h'
      · rename_i b
        unfold clash
        simp [a.1, a.2, b.1, b.2]
      · cases h'
    · cases h
  · rw [if_neg hp] at h h'
    by_cases hn : x < 0
    · rw [if_pos hn] at h h'
      split at h
      · rename_i a
        split at h'
        · rename_i b
          unfold clash
          simp [a.1, a.2, b.1, b.2]
        · cases h'
      · cases h
    · rw [if_neg hn] at h; cases h
theorem steps_one {es : List EdD} (h : Fol es) (v x : Int) : (stepsL es v x).length ≤ 1 := by
  unfold stepsL
  unfold Fol at h
  induction es with
  | nil => simp
  | cons e es ih =>
    have p := List.pairwise_cons.1 h
    rw [List.filterMap_cons]
    cases hm : mt v x e with
    | none => exact ih p.2
    | some y =>
      have : es.filterMap (mt v x) = [] := by
        rw [List.filterMap_eq_nil_iff]
        intro e' he'
        cases hm' : mt v x e' with
        | none => rfl
        | some y' =>
          have := mt_clash hm hm'
          rw [p.1 e' he'] at this
          cases this
      simp [this]
theorem edge_of_gr {g : GrD} (h : grB g = true) {e : EdD} (he : e ∈ g.2.2) : (0 ≤ e.1 ∧ e.1 < g.2.1) ∧ (1 ≤ e.2.1 ∧ e.2.1 ≤ g.1) ∧ (0 ≤ e.2.2 ∧ e.2.2 < g.2.1) := by
  obtain ⟨h1, h2, _, h4⟩ := grB_parts h
  obtain ⟨k, hk, rfl⟩ := List.getElem_of_mem he
  have := h4 k hk
  have ho : edgeOk g.1 g.2.1 g.2.2[k] = true := by
    rcases Nat.eq_zero_or_pos k with rfl | h0
    · rw [okE_zero hk] at this; exact this
    · rw [okE_pos h0 hk, Bool.and_eq_true] at this; exact this.1
  unfold edgeOk at ho
  rw [IntWalk.wrap64_in (g.2.1 - 1) ⟨by omega, by omega⟩] at ho
  simp only [Bool.and_eq_true, inB_iff] at ho
  omega
theorem nextV_range {g : GrD} (h : grB g = true) (v x : Int) : nextV g.2.2 v x = -1 ∨ (0 ≤ nextV g.2.2 v x ∧ nextV g.2.2 v x < g.2.1) := by
  unfold nextV stepsL
  cases hs : g.2.2.filterMap (mt v x) with
  | nil => exact .inl rfl
  | cons y l =>
    right
    have hy : y ∈ g.2.2.filterMap (mt v x) := by rw [hs]; simp
    obtain ⟨e, he, hm⟩ := List.mem_filterMap.1 hy
    obtain ⟨a, _, b⟩ := edge_of_gr h he
    show 0 ≤ y ∧ y < g.2.1
    unfold mt at hm
    split at hm
    · split at hm
      · injection hm with hm; subst hm; exact b
      · cases hm
    · split at hm
      · split at hm
        · injection hm with hm; subst hm; exact a
        · cases hm
      · cases hm
theorem let_of_gr {g : GrD} (h : grB g = true) : ∀ e ∈ g.2.2, 1 ≤ e.2.1 := fun _ he => (edge_of_gr h he).2.1.1

/-- One letter at a vertex; all letters; all vertices found so far, in their order. -/
def cstep (es : List EdD) (u : Int) (o : List Int) (x : Int) : List Int :=
  if 0 ≤ nextV es u x then (if hasB o (nextV es u x) then o else o ++ [nextV es u x]) else o
def canF (es : List EdD) (ls : List Int) : Nat → Nat → List Int → List Int
  | 0, _, o => o
  | f + 1, i, o => match o[i]? with
    | none => o
    | some u => canF es ls f (i + 1) (ls.foldl (cstep es u) o)
def canO (g : GrD) : List Int := canF g.2.2 (lettersL g.1.toNat) 41 0 [0]
/-- What such a list always is. -/
def OrdOk (n : Int) (o : List Int) : Prop := o.Nodup ∧ (∀ y ∈ o, 0 ≤ y ∧ y < n) ∧ o[0]? = some 0
theorem nodup_len : ∀ (n : Nat) (o : List Int), o.Nodup → (∀ y ∈ o, 0 ≤ y ∧ y < n) → o.length ≤ n
  | 0, [], _, _ => Nat.le_refl _
  | 0, y :: o, _, h => by have := h y (by simp); omega
  | n + 1, o, hd, h => by
    by_cases hm : (n : Int) ∈ o
    · have h1 := List.length_erase_of_mem hm
      have h2 := nodup_len n (o.erase n) (hd.erase _) fun y hy => by
        have hy' := (hd.mem_erase_iff).1 hy
        have := h y hy'.2
        have : y ≠ (n : Int) := hy'.1
        omega
      have : 0 < o.length := List.length_pos_of_mem hm
      omega
    · have := nodup_len n o hd fun y hy => by
        have := h y hy
        have : y ≠ (n : Int) := fun e => hm (e ▸ hy)
        omega
      omega
/-- An order of some vertices, whatever the first one is. -/
def OrdN (n : Int) (o : List Int) : Prop := o.Nodup ∧ (∀ y ∈ o, 0 ≤ y ∧ y < n) ∧ 1 ≤ o.length
theorem OrdOk.toN {n : Int} {o : List Int} (h : OrdOk n o) : OrdN n o := by
  refine ⟨h.1, h.2.1, ?_⟩
  have := h.2.2
  cases o with
  | nil => cases this
  | cons _ _ => simp
theorem OrdOk.len {n : Int} {o : List Int} (h : OrdOk n o) (hn : n ≤ 40) (hn0 : 0 ≤ n) : o.length ≤ 40 := by
  have := nodup_len n.toNat o h.1 fun y hy => by have := h.2.1 y hy; omega
  omega
theorem cstep_ok {g : GrD} (hg : grB g = true) {u : Int} {o : List Int} (x : Int) (h : OrdOk g.2.1 o) : OrdOk g.2.1 (cstep g.2.2 u o x) := by
  unfold cstep
  split
  · rename_i h0
    split
    · exact h
    · rename_i hb
      have hb' : nextV g.2.2 u x ∉ o := hasB_not (by simpa using hb)
      refine ⟨List.nodup_append.2 ⟨h.1, by simp, fun a ha b hb e => ?_⟩, fun y hy => ?_, ?_⟩
      · simp at hb
        subst hb e
        exact hb' ha
      · rcases List.mem_append.1 hy with hy | hy
        · exact h.2.1 y hy
        · simp at hy
          subst hy
          rcases nextV_range hg u x with e | e
          · omega
          · exact e
      · have : 0 < o.length := by
          have := h.2.2
          cases o with
          | nil => cases this
          | cons _ _ => simp
        rw [List.getElem?_append_left this]
        exact h.2.2
  · exact h
theorem cfold_ok {g : GrD} (hg : grB g = true) {u : Int} (ls : List Int) {o : List Int} (h : OrdOk g.2.1 o) : OrdOk g.2.1 (ls.foldl (cstep g.2.2 u) o) := by
  induction ls generalizing o with
  | nil => exact h
  | cons x ls ih => exact ih (cstep_ok hg x h)
theorem cfold_prefix (es : List EdD) (u : Int) (ls : List Int) (o : List Int) (i : Nat) (y : Int) (h : o[i]? = some y) : (ls.foldl (cstep es u) o)[i]? = some y := by
  induction ls generalizing o with
  | nil => exact h
  | cons x ls ih =>
    refine ih _ ?_
    unfold cstep
    split
    · split
      · exact h
      · rw [List.getElem?_append_left (List.getElem?_eq_some_iff.1 h).1]; exact h
    · exact h
theorem cfold_succ (es : List EdD) (u : Int) (ls o : List Int) (k : Nat) (h : k < ls.length) : (ls.take (k + 1)).foldl (cstep es u) o = cstep es u ((ls.take k).foldl (cstep es u) o) ls[k] := by
  rw [List.take_succ_eq_append_getElem h, List.foldl_append]
  rfl
theorem OrdOk.one {n : Int} (h : 1 ≤ n) : OrdOk n [0] := ⟨by simp, fun y hy => by simp at hy; omega, rfl⟩
theorem canF_end (es : List EdD) (ls : List Int) (f : Nat) (o : List Int) : canF es ls f o.length o = o := by
  cases f with
  | zero => rfl
  | succ f => unfold canF; rw [List.getElem?_eq_none (Nat.le_refl _)]
theorem canF_step (es : List EdD) (ls : List Int) (f i : Nat) (o : List Int) (h : i < o.length) : canF es ls (f + 1) i o = canF es ls f (i + 1) (ls.foldl (cstep es o[i]) o) := by
  rw [canF, List.getElem?_eq_getElem h]
theorem canF_ok {g : GrD} (hg : grB g = true) (ls : List Int) (f i : Nat) {o : List Int} (h : OrdOk g.2.1 o) : OrdOk g.2.1 (canF g.2.2 ls f i o) := by
  induction f generalizing i o with
  | zero => exact h
  | succ f ih =>
    unfold canF
    split
    · exact h
    · exact ih _ (cfold_ok hg ls h)
theorem canO_ok {g : GrD} (hg : grB g = true) : OrdOk g.2.1 (canO g) := canF_ok hg _ _ _ (OrdOk.one (grB_parts hg).2.1.1)
end Go.Proofs.Ytgoghkboklehnaa
