/- Which vertices are connected: plain Lean. -/
import Derived.Test.YtbflljcafbneaaaOrd
namespace Go.Proofs.Ytbflljcafbneaaa
set_option maxRecDepth 20000
set_option linter.unusedVariables false
set_option linter.unusedSimpArgs false

inductive Conn (es : List EdD) (v : Int) : Int → Prop
  | base : Conn es v v
  | fwd (e : EdD) (he : e ∈ es) (h : Conn es v e.1) : Conn es v e.2.2
  | back (e : EdD) (he : e ∈ es) (h : Conn es v e.2.2) : Conn es v e.1
def stepR (o : List Int) (e : EdD) : List Int :=
  if e.2.2 ∈ (if e.1 ∈ o then insF cmpI o e.2.2 else o) then insF cmpI (if e.1 ∈ o then insF cmpI o e.2.2 else o) e.1 else (if e.1 ∈ o then insF cmpI o e.2.2 else o)
theorem insF_mem {xs : List Int} {x y : Int} : y ∈ insF cmpI xs x ↔ y = x ∨ y ∈ xs := by rw [insF_eq]; exact insR_mem x xs cmpI_ord y
theorem insF_srt {xs : List Int} {x : Int} (h : Srt cmpI xs) : Srt cmpI (insF cmpI xs x) := by rw [insF_eq]; exact insR_srt cmpI_ord x xs h
theorem stepR_srt {o : List Int} {e : EdD} (h : Srt cmpI o) : Srt cmpI (stepR o e) := by
  unfold stepR
  have h1 : Srt cmpI (if e.1 ∈ o then insF cmpI o e.2.2 else o) := by split; exact insF_srt h; exact h
  generalize (if e.1 ∈ o then insF cmpI o e.2.2 else o) = o1 at h1 ⊢
  split
  · exact insF_srt h1
  · exact h1
theorem stepR_mem {o : List Int} {e : EdD} {x : Int} : x ∈ stepR o e ↔ x ∈ o ∨ ((e.1 ∈ o ∨ e.2.2 ∈ o) ∧ (x = e.1 ∨ x = e.2.2)) := by
  unfold stepR
  by_cases h1 : e.1 ∈ o
  · simp only [h1, if_true]
    have h2 : e.2.2 ∈ insF cmpI o e.2.2 := insF_mem.2 (.inl rfl)
    rw [if_pos h2, insF_mem, insF_mem]
    constructor
    · rintro (h | h | h)
      · exact .inr ⟨.inl trivial, .inl h⟩
      · exact .inr ⟨.inl trivial, .inr h⟩
      · exact .inl h
    · rintro (h | ⟨_, h | h⟩)
      · exact .inr (.inr h)
      · exact .inl h
      · exact .inr (.inl h)
  · simp only [h1, if_false]
    by_cases h2 : e.2.2 ∈ o
    · rw [if_pos h2, insF_mem]
      constructor
      · rintro (h | h)
        · exact .inr ⟨.inr h2, .inl h⟩
        · exact .inl h
      · rintro (h | ⟨_, h | h⟩)
        · exact .inr h
        · exact .inl h
        · exact .inr (by rw [h]; exact h2)
    · rw [if_neg h2]
      constructor
      · exact .inl
      · rintro (h | ⟨h | h, _⟩)
        · exact h
        · exact absurd h (by simp)
        · exact absurd h h2
def passR (es : List EdD) (o : List Int) : List Int := es.foldl stepR o
theorem passR_srt {es : List EdD} {o : List Int} (h : Srt cmpI o) : Srt cmpI (passR es o) := by
  unfold passR
  induction es generalizing o with
  | nil => exact h
  | cons e es ih => exact ih (stepR_srt h)
theorem passR_mono {es : List EdD} {o : List Int} {x : Int} (h : x ∈ o) : x ∈ passR es o := by
  unfold passR
  induction es generalizing o with
  | nil => exact h
  | cons e es ih => exact ih (stepR_mem.2 (.inl h))
theorem passR_both {es : List EdD} {o : List Int} {e : EdD} (he : e ∈ es) (h : e.1 ∈ o ∨ e.2.2 ∈ o) : e.1 ∈ passR es o ∧ e.2.2 ∈ passR es o := by
  unfold passR
  induction es generalizing o with
  | nil => cases he
  | cons d es ih =>
    rcases List.mem_cons.1 he with rfl | he
    · exact ⟨passR_mono (es := es) (o := stepR o e) (stepR_mem.2 (.inr ⟨h, .inl rfl⟩)), passR_mono (es := es) (o := stepR o e) (stepR_mem.2 (.inr ⟨h, .inr rfl⟩))⟩
    · refine ih he ?_
      rcases h with h | h
      · exact .inl (stepR_mem.2 (.inl h))
      · exact .inr (stepR_mem.2 (.inl h))
theorem passR_sound {es es' : List EdD} {v : Int} {o : List Int} (hsub : ∀ e ∈ es', e ∈ es) (h : ∀ x ∈ o, Conn es v x) : ∀ x ∈ passR es' o, Conn es v x := by
  unfold passR
  induction es' generalizing o with
  | nil => exact h
  | cons e es' ih =>
    refine ih (fun d hd => hsub d (by simp [hd])) fun x hx => ?_
    have he := hsub e (by simp)
    rcases stepR_mem.1 hx with hx | ⟨h1 | h1, rfl | rfl⟩
    · exact h x hx
    · exact h _ h1
    · exact .fwd e he (h _ h1)
    · exact .back e he (h _ h1)
    · exact h _ h1
def Clo (es : List EdD) (o : List Int) : Prop := ∀ e ∈ es, (e.1 ∈ o ↔ e.2.2 ∈ o)
theorem passR_clo {es : List EdD} {o : List Int} (h : Clo es o) : ∀ x, x ∈ passR es o ↔ x ∈ o := by
  have key : ∀ es' : List EdD, (∀ e ∈ es', e ∈ es) → ∀ o', (∀ x, x ∈ o' ↔ x ∈ o) → ∀ x, x ∈ es'.foldl stepR o' ↔ x ∈ o := by
    intro es'
    induction es' with
    | nil => intro _ o' ho; exact ho
    | cons e es' ih =>
      intro hsub o' ho
      refine ih (fun d hd => hsub d (by simp [hd])) _ fun x => ?_
      rw [stepR_mem, ho, ho, ho]
      have := h e (hsub e (by simp))
      constructor
      · rintro (hx | ⟨h1 | h1, rfl | rfl⟩)
        · exact hx
        · exact h1
        · exact this.1 h1
        · exact this.2 h1
        · exact h1
      · exact .inl
  exact key es (fun _ h => h) o fun _ => Iff.rfl
def phi (es : List EdD) (o : List Int) : Nat := (es.filter fun e => decide (e.1 ∈ o ∧ e.2.2 ∈ o)).length
theorem filter_lt {α : Type} {p q : α → Bool} {l : List α} (hpq : ∀ x, p x = true → q x = true) {a : α} (ha : a ∈ l) (hq : q a = true) (hp : p a = false) : (l.filter p).length < (l.filter q).length := by
  have le : ∀ l : List α, (l.filter p).length ≤ (l.filter q).length := by
    intro l
    induction l with
    | nil => simp
    | cons b l ih =>
      rw [List.filter_cons, List.filter_cons]
      split
      · rename_i h
        rw [if_pos (hpq b h)]
        simp; exact ih
      · split
        · simp; omega
        · exact ih
  induction l with
  | nil => cases ha
  | cons b l ih =>
    rw [List.filter_cons, List.filter_cons]
    rcases List.mem_cons.1 ha with rfl | ha
    · rw [if_neg (by simp [hp]), if_pos hq]
      have := le l
      simp; omega
    · have := ih ha
      split
      · rename_i h
        rw [if_pos (hpq b h)]
        simp; exact this
      · split
        · simp; omega
        · exact this
theorem phi_lt {es : List EdD} {o : List Int} (h : ¬ Clo es o) : phi es o < phi es (passR es o) := by
  unfold Clo at h
  have : ∃ e, e ∈ es ∧ ¬ (e.1 ∈ o ↔ e.2.2 ∈ o) := by
    apply Classical.byContradiction
    intro hn
    exact h fun e he => Classical.byContradiction fun hne => hn ⟨e, he, hne⟩
  obtain ⟨e, he, hne⟩ := this
  have hor : e.1 ∈ o ∨ e.2.2 ∈ o := by
    apply Classical.byContradiction
    intro hn
    exact hne ⟨fun h => absurd (.inl h) hn, fun h => absurd (.inr h) hn⟩
  refine filter_lt (fun d hd => ?_) he ?_ ?_
  · simp only [decide_eq_true_eq] at hd ⊢
    exact ⟨passR_mono hd.1, passR_mono hd.2⟩
  · simp only [decide_eq_true_eq]
    exact passR_both he hor
  · rw [decide_eq_false_iff_not]
    exact fun hh => hne ⟨fun _ => hh.2, fun _ => hh.1⟩
def iterR (es : List EdD) (v : Int) : Nat → List Int
  | 0 => [v]
  | i + 1 => passR es (iterR es v i)
theorem iterR_srt (es : List EdD) (v : Int) (i : Nat) : Srt cmpI (iterR es v i) := by
  induction i with
  | zero => simp [iterR, Srt]
  | succ i ih => exact passR_srt ih
theorem iterR_clo (es : List EdD) (v : Int) (i : Nat) : Clo es (iterR es v i) ∨ i ≤ phi es (iterR es v i) := by
  induction i with
  | zero => exact .inr (Nat.zero_le _)
  | succ i ih =>
    by_cases h : Clo es (iterR es v i)
    · left
      intro e he
      show e.1 ∈ passR es _ ↔ e.2.2 ∈ passR es _
      rw [passR_clo h, passR_clo h]
      exact h e he
    · right
      have h1 := phi_lt h
      rcases ih with ih | ih
      · exact absurd ih h
      · show i + 1 ≤ phi es (passR es (iterR es v i))
        omega
def reachL (es : List EdD) (v : Int) : List Int := iterR es v (es.length + 1)
theorem reachL_mem (es : List EdD) (v x : Int) : x ∈ reachL es v ↔ Conn es v x := by
  have hclo : Clo es (reachL es v) := by
    rcases iterR_clo es v (es.length + 1) with h | h
    · exact h
    · have : phi es (iterR es v (es.length + 1)) ≤ es.length := List.length_filter_le _ _
      omega
  have hv : ∀ i, v ∈ iterR es v i := by
    intro i
    induction i with
    | zero => simp [iterR]
    | succ i ih => exact passR_mono ih
  have hs : ∀ i, ∀ x ∈ iterR es v i, Conn es v x := by
    intro i
    induction i with
    | zero => intro x hx; simp [iterR] at hx; subst hx; exact .base
    | succ i ih => exact passR_sound (fun _ h => h) ih
  refine ⟨hs _ x, fun h => ?_⟩
  induction h with
  | base => exact hv _
  | fwd e he _ ih => exact (hclo e he).1 ih
  | back e he _ ih => exact (hclo e he).2 ih
/-- Any set of vertices that holds v, is closed, and holds connected ones alone. -/
theorem conn_of_closed {es : List EdD} {v : Int} {S : Int → Prop} (hv : S v) (hc : ∀ e ∈ es, (S e.1 ↔ S e.2.2)) {x : Int} (h : Conn es v x) : S x := by
  induction h with
  | base => exact hv
  | fwd e he _ ih => exact (hc e he).1 ih
  | back e he _ ih => exact (hc e he).2 ih
end Go.Proofs.Ytbflljcafbneaaa
