/- Ordered lists: an element put in its place, as the reference writes it; plain Lean. -/
import Derived.Test.YtgoghkboklehnaaGrA
namespace Go.Proofs.Ytgoghkboklehnaa
set_option maxRecDepth 20000
set_option linter.unusedVariables false
set_option linter.unusedSimpArgs false

/-- A comparison that is a total order. -/
structure TOrd {α : Type} (c : α → α → Int) : Prop where
  zero : ∀ {a b}, c a b = 0 ↔ a = b
  anti : ∀ {a b}, c a b < 0 ↔ 0 < c b a
  trans : ∀ {a b d}, c a b < 0 → c b d < 0 → c a d < 0
theorem cmpI_neg {a b : Int} : cmpI a b < 0 ↔ a < b := by
  unfold cmpI; split
  · simp [*]
  · split <;> omega
theorem cmpI_pos {a b : Int} : 0 < cmpI a b ↔ b < a := by
  unfold cmpI; split
  · omega
  · split <;> omega
theorem cmpI_ord : TOrd cmpI := ⟨cmpI_zero, by intro a b; rw [cmpI_neg, cmpI_pos], by intro a b d h1 h2; rw [cmpI_neg] at *; omega⟩
theorem cmpE_neg {a b : EdD} : cmpE a b < 0 ↔ a.1 < b.1 ∨ (a.1 = b.1 ∧ (a.2.1 < b.2.1 ∨ (a.2.1 = b.2.1 ∧ a.2.2 < b.2.2))) := by
  unfold cmpE
  split
  · rename_i h
    have h' : a.1 ≠ b.1 := fun e => h (cmpI_zero.2 e)
    rw [cmpI_neg]; omega
  · rename_i h
    have h' : a.1 = b.1 := cmpI_zero.1 (by simpa using h)
    split
    · rename_i h2
      have h2' : a.2.1 ≠ b.2.1 := fun e => h2 (cmpI_zero.2 e)
      rw [cmpI_neg]; omega
    · rename_i h2
      have h2' : a.2.1 = b.2.1 := cmpI_zero.1 (by simpa using h2)
      rw [cmpI_neg]; omega
theorem cmpE_pos {a b : EdD} : 0 < cmpE a b ↔ b.1 < a.1 ∨ (a.1 = b.1 ∧ (b.2.1 < a.2.1 ∨ (a.2.1 = b.2.1 ∧ b.2.2 < a.2.2))) := by
  unfold cmpE
  split
  · rename_i h
    have h' : a.1 ≠ b.1 := fun e => h (cmpI_zero.2 e)
    rw [cmpI_pos]; omega
  · rename_i h
    have h' : a.1 = b.1 := cmpI_zero.1 (by simpa using h)
    split
    · rename_i h2
      have h2' : a.2.1 ≠ b.2.1 := fun e => h2 (cmpI_zero.2 e)
      rw [cmpI_pos]; omega
    · rename_i h2
      have h2' : a.2.1 = b.2.1 := cmpI_zero.1 (by simpa using h2)
      rw [cmpI_pos]; omega
theorem cmpE_zero {a b : EdD} : cmpE a b = 0 ↔ a = b := by
  obtain ⟨x, y, z⟩ := a
  obtain ⟨x', y', z'⟩ := b
  have h1 := @cmpE_neg (x, y, z) (x', y', z')
  have h2 := @cmpE_pos (x, y, z) (x', y', z')
  simp only at h1 h2
  constructor
  · intro h
    have n1 : ¬ cmpE (x, y, z) (x', y', z') < 0 := by omega
    have n2 : ¬ 0 < cmpE (x, y, z) (x', y', z') := by omega
    rw [h1] at n1
    rw [h2] at n2
    have e1 : x = x' := by omega
    have e2 : y = y' := by omega
    have e3 : z = z' := by omega
    rw [e1, e2, e3]
  · intro h
    injection h with e1 h
    injection h with e2 e3
    have n1 : ¬ cmpE (x, y, z) (x', y', z') < 0 := by rw [h1]; omega
    have n2 : ¬ 0 < cmpE (x, y, z) (x', y', z') := by rw [h2]; omega
    omega
theorem cmpE_ord : TOrd cmpE := ⟨cmpE_zero, by intro a b; rw [cmpE_neg, cmpE_pos]; omega, by intro a b d h1 h2; rw [cmpE_neg] at *; omega⟩

section
variable {α : Type} {c : α → α → Int}
/-- Strictly ascending. -/
def Srt (c : α → α → Int) (l : List α) : Prop := l.Pairwise fun a b => c a b < 0
theorem TOrd.irrefl (h : TOrd c) (a : α) : ¬ c a a < 0 := by
  have := (h.zero (a := a) (b := a)).2 rfl
  omega
theorem Srt.ext (h : TOrd c) : ∀ {l l' : List α}, Srt c l → Srt c l' → (∀ x, x ∈ l ↔ x ∈ l') → l = l'
  | [], [], _, _, _ => rfl
  | [], b :: l', _, _, hm => absurd ((hm b).2 (by simp)) (by simp)
  | a :: l, [], _, _, hm => absurd ((hm a).1 (by simp)) (by simp)
  | a :: l, b :: l', h1, h2, hm => by
    have p1 := List.pairwise_cons.1 h1
    have p2 := List.pairwise_cons.1 h2
    have e : a = b := by
      have ha := (hm a).1 (by simp)
      have hb := (hm b).2 (by simp)
      rcases List.mem_cons.1 ha with e | ha
      · exact e
      · rcases List.mem_cons.1 hb with e | hb
        · exact e.symm
        · exact absurd (h.trans (p1.1 b hb) (p2.1 a ha)) (h.irrefl a)
    subst e
    congr 1
    refine Srt.ext h p1.2 p2.2 fun x => ⟨fun hx => ?_, fun hx => ?_⟩
    · rcases List.mem_cons.1 ((hm x).1 (by simp [hx])) with rfl | h'
      · exact absurd (p1.1 x hx) (h.irrefl x)
      · exact h'
    · rcases List.mem_cons.1 ((hm x).2 (by simp [hx])) with rfl | h'
      · exact absurd (p2.1 x hx) (h.irrefl x)
      · exact h'
/-- As the reference writes it: one element of the old list at a time. -/
def insS (c : α → α → Int) (x : α) (s : List α × Bool) (y : α) : List α × Bool :=
  if c x y = 0 then (s.1 ++ [y], true) else if c x y < 0 ∧ s.2 = false then (s.1 ++ [x, y], true) else (s.1 ++ [y], s.2)
def insF (c : α → α → Int) (l : List α) (x : α) : List α := if (l.foldl (insS c x) ([], false)).2 then (l.foldl (insS c x) ([], false)).1 else (l.foldl (insS c x) ([], false)).1 ++ [x]
def insR (c : α → α → Int) (x : α) : List α → List α
  | [] => [x]
  | y :: l => if c x y = 0 then y :: l else if c x y < 0 then x :: y :: l else y :: insR c x l
theorem insS_true (x : α) (l acc : List α) : l.foldl (insS c x) (acc, true) = (acc ++ l, true) := by
  induction l generalizing acc with
  | nil => simp
  | cons y l ih =>
    rw [List.foldl_cons]
    have : insS c x (acc, true) y = (acc ++ [y], true) := by unfold insS; split <;> simp
    rw [this, ih]
    simp
theorem insF_eq (l : List α) (x : α) : insF c l x = insR c x l := by
  have key : ∀ l acc : List α, (if (l.foldl (insS c x) (acc, false)).2 then (l.foldl (insS c x) (acc, false)).1 else (l.foldl (insS c x) (acc, false)).1 ++ [x]) = acc ++ insR c x l := by
    intro l
    induction l with
    | nil => intro acc; simp [insR]
    | cons y l ih =>
      intro acc
      rw [List.foldl_cons]
      by_cases h0 : c x y = 0
      · have : insS c x (acc, false) y = (acc ++ [y], true) := by unfold insS; rw [if_pos h0]
        rw [this, insS_true]
        simp [insR, h0]
      · by_cases h1 : c x y < 0
        · have : insS c x (acc, false) y = (acc ++ [x, y], true) := by unfold insS; rw [if_neg h0, if_pos ⟨h1, rfl⟩]
          rw [this, insS_true]
          simp [insR, h0, h1]
        · have : insS c x (acc, false) y = (acc ++ [y], false) := by unfold insS; rw [if_neg h0, if_neg (fun h => h1 h.1)]
          rw [this, ih]
          simp [insR, h0, h1]
  simpa [insF] using key l []
theorem insR_mem (x : α) (l : List α) (h : TOrd c) (y : α) : y ∈ insR c x l ↔ y = x ∨ y ∈ l := by
  induction l with
  | nil => simp [insR]
  | cons a l ih =>
    unfold insR
    split
    · rename_i h0
      have := h.zero.1 h0
      subst this
      simp
    · split
      · simp
      · simp only [List.mem_cons, ih]
        constructor
        · rintro (e | e | e)
          · exact .inr (.inl e)
          · exact .inl e
          · exact .inr (.inr e)
        · rintro (e | e | e)
          · exact .inr (.inl e)
          · exact .inl e
          · exact .inr (.inr e)
theorem insR_srt (h : TOrd c) (x : α) (l : List α) (hl : Srt c l) : Srt c (insR c x l) := by
  induction l with
  | nil => simp [insR, Srt]
  | cons a l ih =>
    have p := List.pairwise_cons.1 hl
    unfold insR
    split
    · exact hl
    · rename_i h0
      split
      · rename_i h1
        refine List.pairwise_cons.2 ⟨fun y hy => ?_, hl⟩
        rcases List.mem_cons.1 hy with rfl | hy
        · exact h1
        · exact h.trans h1 (p.1 y hy)
      · rename_i h1
        refine List.pairwise_cons.2 ⟨fun y hy => ?_, ih p.2⟩
        rcases (insR_mem x l h y).1 hy with rfl | hy
        · have := (h.anti (a := a) (b := y)).2 (by omega)
          exact this
        · exact p.1 y hy
theorem insF_len (l : List α) (x : α) : (insF c l x).length ≤ l.length + 1 := by
  rw [insF_eq]
  induction l with
  | nil => simp [insR]
  | cons a l ih =>
    unfold insR
    split
    · simp
    · split
      · simp
      · simp only [List.length_cons]; omega
/-- A list's elements, each once, in order. -/
def srt (c : α → α → Int) (L : List α) : List α := L.foldl (insF c) []
theorem srt_spec (h : TOrd c) (L : List α) : Srt c (srt c L) ∧ ∀ x, x ∈ srt c L ↔ x ∈ L := by
  have key : ∀ L acc : List α, Srt c acc → Srt c (L.foldl (insF c) acc) ∧ ∀ x, x ∈ L.foldl (insF c) acc ↔ x ∈ acc ∨ x ∈ L := by
    intro L
    induction L with
    | nil => intro acc hs; exact ⟨hs, fun x => by simp⟩
    | cons y L ih =>
      intro acc hs
      rw [List.foldl_cons]
      obtain ⟨h1, h2⟩ := ih (insF c acc y) (by rw [insF_eq]; exact insR_srt h y acc hs)
      refine ⟨h1, fun x => ?_⟩
      rw [h2, insF_eq, insR_mem y acc h]
      simp only [List.mem_cons]
      constructor
      · rintro ((e | e) | e)
        · exact .inr (.inl e)
        · exact .inl e
        · exact .inr (.inr e)
      · rintro (e | e | e)
        · exact .inl (.inr e)
        · exact .inl (.inl e)
        · exact .inr e
  obtain ⟨h1, h2⟩ := key L [] List.Pairwise.nil
  exact ⟨h1, fun x => by simpa [srt] using h2 x⟩
theorem srt_eq (h : TOrd c) {L l : List α} (hs : Srt c l) (hm : ∀ x, x ∈ l ↔ x ∈ L) : l = srt c L :=
  Srt.ext h hs (srt_spec h L).1 fun x => by rw [hm, (srt_spec h L).2]
theorem srt_succ (L : List α) (k : Nat) (hk : k < L.length) : srt c (L.take (k + 1)) = insF c (srt c (L.take k)) L[k] := by
  unfold srt
  rw [List.take_succ_eq_append_getElem hk, List.foldl_append]
  rfl
theorem srt_len (L : List α) : (srt c L).length ≤ L.length := by
  have key : ∀ L acc : List α, (L.foldl (insF c) acc).length ≤ acc.length + L.length := by
    intro L
    induction L with
    | nil => intro acc; simp
    | cons y L ih =>
      intro acc
      have h1 := ih (insF c acc y)
      have h2 := insF_len (c := c) acc y
      simp only [List.foldl_cons, List.length_cons]
      omega
  simpa [srt] using key L []
/-- Neighbours that are alike struck: what slices.Compact leaves. -/
def cpt [DecidableEq α] : List α → List α
  | [] => []
  | [a] => [a]
  | a :: b :: l => if a = b then cpt (b :: l) else a :: cpt (b :: l)
theorem cpt_mem [DecidableEq α] (l : List α) (x : α) : x ∈ cpt l ↔ x ∈ l := by
  match l with
  | [] => simp [cpt]
  | [a] => simp [cpt]
  | a :: b :: l =>
    have ih := cpt_mem (b :: l) x
    unfold cpt
    split
    · rename_i e
      subst e
      rw [ih]
      simp
    · rw [List.mem_cons, ih, List.mem_cons (a := x) (b := a)]
theorem cpt_srt [DecidableEq α] (h : TOrd c) (l : List α) (hl : l.Pairwise fun a b => ¬ 0 < c a b) : Srt c (cpt l) := by
  match l with
  | [] => exact List.Pairwise.nil
  | [a] => simp [cpt, Srt]
  | a :: b :: l =>
    have p := List.pairwise_cons.1 hl
    have ih := cpt_srt h (b :: l) p.2
    unfold cpt
    split
    · exact ih
    · rename_i hne
      refine List.pairwise_cons.2 ⟨fun y hy => ?_, ih⟩
      have hy' := (cpt_mem (b :: l) y).1 hy
      have h1 := p.1 b (by simp)
      have hab : c a b < 0 := by
        have : c a b ≠ 0 := fun e => hne (h.zero.1 e)
        omega
      rcases List.mem_cons.1 hy' with rfl | hy2
      · exact hab
      · have h2 := (List.pairwise_cons.1 p.2).1 y hy2
        by_cases e : c b y = 0
        · rw [← h.zero.1 e]; exact hab
        · exact h.trans hab (by omega)
end
end Go.Proofs.Ytgoghkboklehnaa
