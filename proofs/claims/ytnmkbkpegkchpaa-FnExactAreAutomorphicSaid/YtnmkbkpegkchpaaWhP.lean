/- Whitehead automorphisms as morphisms, and the reduction of cyclic words, in plain Lean. -/
import Derived.Test.YtnmkbkpegkchpaaCycP
import Derived.Test.YtnmkbkpegkchpaaAllWh
import Derived.Test.YtnmkbkpegkchpaaIsWh
import Derived.Test.YtnmkbkpegkchpaaHas
import Derived.Test.YtnmkbkpegkchpaaProd
namespace Go.Proofs.Ytnmkbkpegkchpaa
set_option maxRecDepth 20000
set_option linter.unusedVariables false
set_option linter.unusedSimpArgs false
open Go.RowKit

abbrev MoD := Int × List (List Int)
/-! ## Expanding by a list of words -/
def exp1L (B : List (List Int)) (k : Int) : List (List Int) :=
  if 1 ≤ k ∧ k ≤ B.length then [B.getD (k - 1).toNat []] else if k < 0 ∧ -(B.length : Int) ≤ k then [invL (B.getD (-k - 1).toNat [])] else []
def expParts (B : List (List Int)) (l : List Int) : List (List Int) := (l.take 200).flatMap (exp1L B)
def expL (B : List (List Int)) (l : List Int) : List Int := redLL (expParts B l)
theorem exp_succ (B : List (List Int)) (l : List Int) (k : Nat) (h : k < l.length) : (l.take (k + 1)).flatMap (exp1L B) = (l.take k).flatMap (exp1L B) ++ exp1L B l[k] := by
  rw [List.take_succ_eq_append_getElem h, List.flatMap_append]
  simp
theorem exp1L_len (B : List (List Int)) (k : Int) : (exp1L B k).length ≤ 1 := by
  unfold exp1L; repeat' split
  all_goals simp
theorem flat1_len (B : List (List Int)) (l : List Int) : (l.flatMap (exp1L B)).length ≤ l.length := by
  induction l with
  | nil => simp
  | cons x l ih => have := exp1L_len B x; simp only [List.flatMap_cons, List.length_append, List.length_cons]; omega
theorem invL_lenW (xs : List Int) : (invL xs).length = xs.length := by simp [invL, negL]
theorem getD_le {B : List (List Int)} {M : Nat} (h : ∀ b ∈ B, b.length ≤ M) (i : Nat) : (B.getD i []).length ≤ M := by
  by_cases hi : i < B.length
  · have e : B.getD i [] = B[i] := by simp [List.getD, hi]
    rw [e]; exact h _ (by simp)
  · have e : B.getD i [] = [] := by simp [List.getD, Nat.not_lt.1 hi]
    rw [e]; simp
theorem exp1L_each {B : List (List Int)} {M : Nat} (h : ∀ b ∈ B, b.length ≤ M) (k : Int) : ∀ p ∈ exp1L B k, p.length ≤ M := by
  intro p hp
  unfold exp1L at hp
  repeat' split at hp
  · simp at hp; subst hp; exact getD_le h _
  · simp at hp; subst hp; rw [invL_lenW]; exact getD_le h _
  · cases hp
theorem lenLL_leW {L : List (List Int)} {M : Nat} (h : ∀ p ∈ L, p.length ≤ M) : lenLL L ≤ L.length * M := by
  induction L with
  | nil => simp [lenLL]
  | cons a L ih =>
    have h1 := h a (by simp)
    have h2 := ih fun p hp => h p (by simp [hp])
    unfold lenLL at h2 ⊢
    simp only [List.map_cons, List.sum_cons, List.length_cons, Nat.add_mul]
    omega
theorem flat_each {B : List (List Int)} {M : Nat} (h : ∀ b ∈ B, b.length ≤ M) (l : List Int) : ∀ p ∈ l.flatMap (exp1L B), p.length ≤ M := by
  intro p hp
  obtain ⟨k, _, hp⟩ := List.mem_flatMap.1 hp
  exact exp1L_each h k p hp
theorem expL_len {B : List (List Int)} {M : Nat} (h : ∀ b ∈ B, b.length ≤ M) (l : List Int) : (expL B l).length ≤ (l.take 200).length * M := by
  have h1 := redLL_len (expParts B l)
  have h2 := lenLL_leW (flat_each h (l.take 200))
  have h3 := Nat.mul_le_mul_right M (flat1_len B (l.take 200))
  unfold expL expParts at *
  omega
theorem expL_mem {B : List (List Int)} {l : List Int} {x : Int} (h : x ∈ expL B l) : ∃ b ∈ B, x ∈ b ∨ x ∈ invL b := by
  unfold expL redLL at h
  rcases redL_mem h with h | h
  · cases h
  · obtain ⟨p, hp, hx⟩ := List.mem_flatten.1 h
    obtain ⟨k, _, hp⟩ := List.mem_flatMap.1 hp
    unfold exp1L at hp
    have mem : ∀ i : Nat, x ∈ B.getD i [] ∨ x ∈ invL (B.getD i []) → ∃ b ∈ B, x ∈ b ∨ x ∈ invL b := by
      intro i hi
      by_cases hl : i < B.length
      · have e : B.getD i [] = B[i] := by simp [List.getD, hl]
        rw [e] at hi; exact ⟨_, by simp, hi⟩
      · have e : B.getD i [] = [] := by simp [List.getD, Nat.not_lt.1 hl]
        rw [e] at hi; simp [invL, negL] at hi
    repeat' split at hp
    · simp at hp; subst hp; exact mem _ (.inl hx)
    · simp at hp; subst hp; exact mem _ (.inr hx)
    · cases hp

/-! ## The morphism of a Whitehead automorphism -/
def whImg (d : WhD) (x : Int) : List Int := (if hasB d.2 (-x) then [wrap64 (-d.1)] else []) ++ [x] ++ (if hasB d.2 x then [d.1] else [])
def whImgs (d : WhD) : Nat → List (List Int)
  | 0 => []
  | n + 1 => whImgs d n ++ [whImg d ((n : Int) + 1)]
def whM (r : Int) (d : WhD) : MoD := if whB r d then (r, whImgs d r.toNat) else (0, [])
theorem whImgs_len (d : WhD) (n : Nat) : (whImgs d n).length = n := by
  induction n with
  | zero => rfl
  | succ n ih => simp [whImgs, ih]
theorem whImg_len (d : WhD) (x : Int) : (whImg d x).length ≤ 3 := by
  unfold whImg; repeat' split
  all_goals simp
theorem whImgs_each (d : WhD) (n : Nat) : ∀ p ∈ whImgs d n, p.length ≤ 3 := by
  induction n with
  | zero => intro p hp; cases hp
  | succ n ih =>
    intro p hp
    rcases List.mem_append.1 hp with hp | hp
    · exact ih p hp
    · simp at hp; subst hp; exact whImg_len _ _
theorem whB_rank {r : Int} {d : WhD} (h : whB r d = true) : inB r 1 3 = true ∧ letB r d.1 = true := by
  unfold whB at h
  simp only [Bool.and_eq_true] at h
  exact h.1
theorem whImgs_mem {d : WhD} {n : Nat} {r : Int} (h : letB r d.1 = true) (hr : inB r 1 3 = true) (hn : (n : Int) ≤ r) : ∀ p ∈ whImgs d n, ∀ x ∈ p, letB r x = true := by
  have hb := inB_iff.1 hr
  have hd := (letB_iff hr).1 h
  have hw : wrap64 (-d.1) = -d.1 := IntWalk.wrap64_in _ ⟨by omega, by omega⟩
  induction n with
  | zero => intro p hp; cases hp
  | succ n ih =>
    intro p hp x hx
    rcases List.mem_append.1 hp with hp | hp
    · exact ih (by omega) p hp x hx
    · simp at hp
      subst hp
      unfold whImg at hx
      rw [hw] at hx
      simp only [List.mem_append, List.mem_singleton] at hx
      have : x = -d.1 ∨ x = (n : Int) + 1 ∨ x = d.1 := by
        rcases hx with (hx | hx) | hx
        · split at hx <;> simp at hx; exact .inl hx
        · exact .inr (.inl hx)
        · split at hx <;> simp at hx; exact .inr (.inr hx)
      refine (letB_iff hr).2 ?_
      omega
theorem letB_inv {r x : Int} {p : List Int} (hr : inB r 1 3 = true) (h : ∀ y ∈ p, letB r y = true) (hx : x ∈ invL p) : letB r x = true := by
  unfold invL negL at hx
  simp only [List.mem_reverse, List.mem_map] at hx
  obtain ⟨y, hy, rfl⟩ := hx
  have hb := inB_iff.1 hr
  have := (letB_iff hr).1 (h y hy)
  rw [IntWalk.wrap64_in (-y) ⟨by omega, by omega⟩]
  exact (letB_iff hr).2 (by omega)
theorem letB_I64 {r x : Int} (hr : inB r 1 3 = true) (h : letB r x = true) : I64 x := by
  have hb := inB_iff.1 hr
  have := (letB_iff hr).1 h
  unfold I64; omega

/-! ## The reduction of a cyclic word -/
def whX (r : Int) (d : WhD) (c : List Int) : List Int := expL (whM r d).2 c
def shortF (r : Int) (c : List Int) : Option WhD := (allWh r).find? fun d => decide ((coreF (whX r d c)).length < c.length)
def shF (r : Int) (w : List Int) : WhD × Bool := if wordB r w then (match shortF r (cycF w) with | some d => (d, true) | none => ((0, []), false)) else ((0, []), false)
def redGo (r : Int) : Nat → List Int → List WhD → List Int × List WhD
  | 0, c, l => (c, l)
  | n + 1, c, l => match shortF r c with
    | none => (c, l)
    | some d => redGo r n (cycF (whX r d c)) (l ++ [d])
def redF (r : Int) (w : List Int) : List Int × List WhD := if wordB r w then redGo r 24 (cycF w) [] else ([], [])
theorem redGo_len (r : Int) (n : Nat) (c : List Int) (l : List WhD) : (redGo r n c l).2.length ≤ l.length + n := by
  induction n generalizing c l with
  | zero => simp [redGo]
  | succ n ih =>
    unfold redGo
    split
    · simp
    · refine Nat.le_trans (ih _ _) ?_
      simp; omega
/-- A form as the reduction keeps it. -/
def goodF (r : Int) (c : List Int) : Prop := inB r 1 3 = true ∧ (∀ x ∈ c, letB r x = true) ∧ c.length ≤ 24 ∧ cycF c = c
theorem goodF.I64 {r : Int} {c : List Int} (h : goodF r c) : I64s c := fun x hx => letB_I64 h.1 (h.2.1 x hx)
theorem goodF.word {r : Int} {c : List Int} (h : goodF r c) : wordB r c = true := by
  have := cycF_word h.1 h.2.1 h.I64 (by rw [h.2.2.2]; exact h.2.2.1)
  rw [h.2.2.2] at this
  exact this
theorem goodF_cyc {r : Int} {w : List Int} (h : wordB r w = true) : goodF r (cycF w) := by
  have hr := wordB_rank h
  have hrb : inB r 1 3 = true := inB_iff.2 hr
  have hI : I64s w := fun x hx => letB_I64 hrb (wordB_let h hx)
  exact ⟨hrb, fun x hx => wordB_let h (cycF_mem hx), Nat.le_trans (cycF_len w) (wordB_len h), cycF_cycF hI⟩
theorem whX_let {r : Int} {d : WhD} {c : List Int} (hr : inB r 1 3 = true) : ∀ x ∈ whX r d c, letB r x = true := by
  intro x hx
  obtain ⟨b, hb, hx⟩ := expL_mem hx
  unfold whM at hb
  split at hb
  · rename_i hw
    have h1 := whB_rank hw
    have hb3 := inB_iff.1 hr
    have hm := whImgs_mem h1.2 hr (by omega : ((r.toNat : Nat) : Int) ≤ r) b hb
    rcases hx with hx | hx
    · exact hm x hx
    · exact letB_inv hr hm hx
  · cases hb
theorem shortF_lt {r : Int} {c : List Int} {d : WhD} (h : shortF r c = some d) : (coreF (whX r d c)).length < c.length := by
  have := List.find?_some h
  simpa using this
theorem goodF_next {r : Int} {c : List Int} {d : WhD} (h : goodF r c) (hs : shortF r c = some d) : goodF r (cycF (whX r d c)) := by
  have hl := shortF_lt hs
  have hx : ∀ x ∈ whX r d c, letB r x = true := whX_let h.1
  have hI : I64s (whX r d c) := fun x hx' => letB_I64 h.1 (hx x hx')
  refine ⟨h.1, fun x hx' => hx x (cycF_mem hx'), ?_, cycF_cycF hI⟩
  rw [cycF_clen]
  have := h.2.2.1
  omega
theorem shF_good {r : Int} {c : List Int} (h : goodF r c) : shF r c = match shortF r c with | some d => (d, true) | none => ((0, []), false) := by
  unfold shF
  rw [h.word, if_pos rfl, h.2.2.2]
theorem find_succ (r : Int) (c : List Int) (k : Nat) (h : k < (allWh r).length) :
    ((allWh r).drop k).find? (fun d => decide ((coreF (whX r d c)).length < c.length)) = if decide ((coreF (whX r (allWh r)[k] c)).length < c.length) then some (allWh r)[k] else ((allWh r).drop (k + 1)).find? (fun d => decide ((coreF (whX r d c)).length < c.length)) := by
  rw [List.drop_eq_getElem_cons h, List.find?_cons]
  cases decide ((coreF (whX r (allWh r)[k] c)).length < c.length) <;> rfl
end Go.Proofs.Ytnmkbkpegkchpaa
