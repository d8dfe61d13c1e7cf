/- What FnEquations leans on, in plain Lean: reduction in a free group, the one solution of an equation in which the unknown stands once, the list of all words up to a length, texts of equations. -/
import Derived.Test.YtgoghkboklehnaaSolM
import Derived.Test.YtgoghkboklehnaaSing
import Derived.Test.YtgoghkboklehnaaParS
import Derived.Test.YtgoghkboklehnaaCycP
namespace Go.Proofs.Ytgoghkboklehnaa
set_option maxRecDepth 20000
set_option linter.unusedVariables false
set_option linter.unusedSimpArgs false
open Go.RowKit

/-! ## Reduction -/
def gL (w : List Int) : Prop := ∀ x ∈ w, x ≠ 0 ∧ -3 ≤ x ∧ x ≤ 3
theorem invB_g {a b : Int} (h : a ≠ 0 ∧ -3 ≤ a ∧ a ≤ 3) : invB a b = decide (b = -a) := by
  unfold invB
  rw [Bool.eq_iff_iff]
  simp
  omega
theorem gL_red1 {acc : List Int} {x : Int} (h : gL acc) (hx : x ≠ 0 ∧ -3 ≤ x ∧ x ≤ 3) : gL (red1 acc x) := by
  unfold red1
  split
  · exact fun y hy => h y (List.dropLast_subset _ hy)
  · intro y hy
    rcases List.mem_append.1 hy with hy | hy
    · exact h y hy
    · rw [List.mem_singleton] at hy; subst hy; exact hx
theorem gL_redL {acc w : List Int} (h : gL acc) (hw : gL w) : gL (redL acc w) := by
  unfold redL
  induction w generalizing acc with
  | nil => exact h
  | cons x w ih => exact ih (gL_red1 h (hw x (by simp))) fun y hy => hw y (by simp [hy])
theorem snoc_cases (acc : List Int) : acc = [] ∨ ∃ p l, acc = p ++ [l] := by
  rcases Nat.eq_zero_or_pos acc.length with h | h
  · exact .inl (List.eq_nil_of_length_eq_zero h)
  · exact .inr ⟨acc.dropLast, acc.getLast (by intro e; rw [e] at h; simp at h), (List.dropLast_concat_getLast _).symm⟩
theorem red1_snoc (p : List Int) (l x : Int) : red1 (p ++ [l]) x = if invB l x = true then p else p ++ [l] ++ [x] := by
  unfold red1
  simp
theorem red1_back {acc : List Int} {x : Int} (h : redP acc) (hg : gL acc) (hx : x ≠ 0 ∧ -3 ≤ x ∧ x ≤ 3) : red1 (red1 acc x) (-x) = acc := by
  rcases snoc_cases acc with rfl | ⟨p, l, rfl⟩
  · rw [red1_nil]
    have := red1_snoc [] x (-x)
    simp only [List.nil_append] at this
    rw [this, if_pos (by rw [invB_g hx]; simp)]
  · have hl := hg l (by simp)
    rw [red1_snoc]
    by_cases e : x = -l
    · rw [if_pos (by rw [invB_g hl]; simp [e])]
      rcases snoc_cases p with rfl | ⟨q, m, rfl⟩
      · rw [red1_nil, e]; simp
      · rw [red1_snoc]
        have hm := hg m (by simp)
        have hne : ¬ invB m (-x) = true := by
          intro hb
          rw [invB_g hm, decide_eq_true_eq] at hb
          have hr := h q.length (by simp)
          simp only [List.append_assoc, List.singleton_append, List.getD] at hr
          rw [List.getElem?_append_right (Nat.le_refl _), List.getElem?_append_right (by omega)] at hr
          simp at hr
          rw [invB_g hm] at hr
          have := of_decide_eq_false hr
          omega
        rw [if_neg hne, e]
        simp
    · rw [if_neg (by rw [invB_g hl]; simp [e]), red1_snoc, if_pos (by rw [invB_g hx]; simp)]
theorem redL_app (acc a b : List Int) : redL acc (a ++ b) = redL (redL acc a) b := by unfold redL; rw [List.foldl_append]
theorem redL_one (acc : List Int) (x : Int) : redL acc [x] = red1 acc x := rfl
theorem invL_g {w : List Int} (h : gL w) : invL w = (w.map fun x => -x).reverse := by
  unfold invL negL
  congr 1
  refine List.map_congr_left fun x hx => ?_
  have := h x hx
  exact IntWalk.wrap64_in (-x) ⟨by omega, by omega⟩
theorem invL_cons {x : Int} {w : List Int} (hx : x ≠ 0 ∧ -3 ≤ x ∧ x ≤ 3) : invL (x :: w) = invL w ++ [-x] := by
  unfold invL negL
  have : wrap64 (-x) = -x := IntWalk.wrap64_in (-x) ⟨by omega, by omega⟩
  simp [this]
theorem gL_inv {w : List Int} (h : gL w) : gL (invL w) := by
  rw [invL_g h]
  intro y hy
  simp only [List.mem_reverse, List.mem_map] at hy
  obtain ⟨x, hx, rfl⟩ := hy
  have := h x hx
  omega
theorem invL_invL {w : List Int} (h : gL w) : invL (invL w) = w := by
  rw [invL_g (gL_inv h), invL_g h]
  simp [Function.comp_def]
theorem redL_cancel {w : List Int} : ∀ {acc : List Int}, redP acc → gL acc → gL w → redL acc (w ++ invL w) = acc := by
  induction w with
  | nil => intro acc _ _ _; rfl
  | cons x w ih =>
    intro acc h1 h2 h3
    have hx := h3 x (by simp)
    rw [invL_cons hx, ← List.append_assoc, redL_app, redL_one]
    show red1 (redL (red1 acc x) (w ++ invL w)) (-x) = acc
    rw [ih (red1_red h1) (gL_red1 h2 hx) fun y hy => h3 y (by simp [hy])]
    exact red1_back h1 h2 hx
theorem redL_cancel' {w acc : List Int} (h1 : redP acc) (h2 : gL acc) (h3 : gL w) : redL acc (invL w ++ w) = acc := by
  have := redL_cancel (w := invL w) h1 h2 (gL_inv h3)
  rwa [invL_invL h3] at this
theorem redL_redL {acc : List Int} (h1 : redP acc) (h2 : gL acc) : ∀ {w : List Int}, gL w → redL acc (redL [] w) = redL acc w := by
  have key : ∀ (n : Nat) (w : List Int), w.length = n → gL w → redL acc (redL [] w) = redL acc w := by
    intro n
    induction n with
    | zero => intro w hw _; rw [List.eq_nil_of_length_eq_zero hw]; rfl
    | succ n ih =>
      intro w hw hg
      rcases snoc_cases w with rfl | ⟨p, x, rfl⟩
      · simp at hw
      · have hgp : gL p := fun y hy => hg y (by simp [hy])
        have hx := hg x (by simp)
        have hp := ih p (by simpa using hw) hgp
        have hrp : redP (redL [] p) := redL_red redP_nil
        have hrg : gL (redL [] p) := gL_redL (fun y hy => by cases hy) hgp
        rw [redL_app, redL_app, redL_one, redL_one, ← hp]
        generalize redL [] p = r at *
        rcases snoc_cases r with rfl | ⟨q, l, rfl⟩
        · rw [red1_nil]; rfl
        · have hl := hrg l (by simp)
          rw [red1_snoc]
          by_cases e : x = -l
          · rw [if_pos (by rw [invB_g hl]; simp [e]), redL_app, redL_one]
            have hq1 : redP (redL acc q) := redL_red h1
            have hq2 : gL (redL acc q) := gL_redL h2 fun y hy => hrg y (by simp [hy])
            rw [e]
            exact (red1_back hq1 hq2 hl).symm
          · rw [if_neg (by rw [invB_g hl]; simp [e]), redL_app _ _ [x], redL_one]
  intro w
  exact key w.length w rfl
theorem red_self {w : List Int} (h : redP w) : redL [] w = w := by
  have := redL_id (acc := []) (xs := w) (by simpa using h)
  simpa using this
/-- The one solution: what stands between a and b. -/
theorem one_sol {a s b : List Int} (ha : gL a) (hs : gL s) (hb : gL b) (h : redL [] (a ++ s ++ b) = []) : redL [] s = redL [] (invL a ++ invL b) := by
  have hg0 : gL [] := fun y hy => by cases hy
  have e1 : redL [] (invL a ++ (a ++ s ++ b) ++ invL b) = redL [] s := by
    rw [show invL a ++ (a ++ s ++ b) ++ invL b = (invL a ++ a) ++ (s ++ (b ++ invL b)) by simp only [List.append_assoc], redL_app, redL_cancel' redP_nil hg0 ha, redL_app]
    exact redL_cancel (redL_red redP_nil) (gL_redL hg0 hs) hb
  have hia := gL_redL hg0 (gL_inv ha)
  have e2 : redL [] (invL a ++ (a ++ s ++ b) ++ invL b) = redL [] (invL a ++ invL b) := by
    rw [redL_app [] (invL a ++ (a ++ s ++ b)) (invL b), redL_app [] (invL a) (a ++ s ++ b), redL_app [] (invL a) (invL b)]
    congr 1
    have hg : gL (a ++ s ++ b) := fun y hy => by
      rcases List.mem_append.1 hy with hy | hy
      · rcases List.mem_append.1 hy with hy | hy
        · exact ha y hy
        · exact hs y hy
      · exact hb y hy
    have := redL_redL (acc := redL [] (invL a)) (redL_red redP_nil) hia hg
    rw [h] at this
    exact this.symm
  rw [← e1, e2]
theorem one_is {a s b : List Int} (ha : gL a) (hb : gL b) (hs : s = redL [] (invL a ++ invL b)) : redL [] (a ++ s ++ b) = [] := by
  have hg0 : gL [] := fun y hy => by cases hy
  have hab : gL (invL a ++ invL b) := fun y hy => by
    rcases List.mem_append.1 hy with hy | hy
    · exact gL_inv ha y hy
    · exact gL_inv hb y hy
  rw [redL_app [] (a ++ s) b, redL_app [] a s, hs, redL_redL (redL_red redP_nil) (gL_redL hg0 ha) hab, ← redL_app [] a, ← redL_app [] _ b]
  rw [show a ++ (invL a ++ invL b) ++ b = (a ++ invL a) ++ (invL b ++ b) by simp only [List.append_assoc], redL_app, redL_cancel redP_nil hg0 ha]
  exact redL_cancel' redP_nil hg0 hb
theorem redP_inv {w : List Int} (hg : gL w) (h : redP w) : redP (invL w) := by
  rw [invL_g hg]
  intro i hi
  rw [List.length_reverse, List.length_map] at hi
  have e : ∀ j (hj : j < w.length), ((w.map fun x => -x).reverse).getD j 0 = -(w.getD (w.length - 1 - j) 0) := fun j hj => by
    rw [List.getD_eq_getElem?_getD, List.getElem?_reverse (by simpa using hj), List.getD_eq_getElem?_getD]
    simp only [List.length_map, List.getElem?_map]
    rw [List.getElem?_eq_getElem (by omega)]
    rfl
  rw [e i (by omega), e (i + 1) hi]
  have hr := h (w.length - 1 - (i + 1)) (by omega)
  rw [show w.length - 1 - (i + 1) + 1 = w.length - 1 - i by omega] at hr
  have g1 := hg (w.getD (w.length - 1 - i) 0) (by rw [List.getD_eq_getElem?_getD, List.getElem?_eq_getElem (by omega)]; exact List.getElem_mem _)
  have g2 := hg (w.getD (w.length - 1 - (i + 1)) 0) (by rw [List.getD_eq_getElem?_getD, List.getElem?_eq_getElem (by omega)]; exact List.getElem_mem _)
  rw [invB_g g2] at hr
  rw [invB_g (by omega)]
  have := of_decide_eq_false hr
  rw [decide_eq_false_iff_not]
  omega
end Go.Proofs.Ytgoghkboklehnaa
