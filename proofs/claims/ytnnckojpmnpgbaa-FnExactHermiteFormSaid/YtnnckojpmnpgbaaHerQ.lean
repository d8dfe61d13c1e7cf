/- Plain: the column's rounds of the reference and of the program leave the same; how great the other columns' numbers grow. -/
import Derived.Test.YtnnckojpmnpgbaaHerP
namespace Go.Proofs.Ytnnckojpmnpgbaa
set_option maxRecDepth 20000
set_option linter.unusedVariables false
set_option linter.unusedSimpArgs false
open Go.RowKit

theorem rnd_bd {n : Nat} {rows : List (List Int)} (h : Rect n rows) {c j : Nat} (hc : c < n) (hb : ∀ i, mg rows c i ≤ 4000000000000000000) (hj : mg rows c j ≠ 0) (i : Nat) : mg (rnd rows c j) c i ≤ 4000000000000000000 := by
  rw [rnd_mg h hc hb hj i]
  split
  · exact hb j
  · exact Nat.le_trans (Nat.mod_le _ _) (hb i)
theorem rw_ext {a b : List (List Int)} (hl : a.length = b.length) (h : ∀ i, rw_ a i = rw_ b i) : a = b := by
  refine List.ext_getElem hl fun i h1 h2 => ?_
  have := h i
  unfold rw_ at this
  rw [List.getD_eq_getElem?_getD, List.getD_eq_getElem?_getD, List.getElem?_eq_getElem h1, List.getElem?_eq_getElem h2] at this
  exact this
theorem rnd_none {rows : List (List Int)} {c j : Nat} (h : ∀ i, i ≠ j → mg rows c i = 0) : rnd rows c j = rows ∧ chgF rows c j rows.length = false := by
  have hh : ∀ i, hitR rows c j i = false := fun i => by
    unfold hitR
    by_cases e : i = j
    · simp [e]
    · have := mg_zero.1 (h i e)
      simp [this]
  refine ⟨rw_ext (rnd_len rows c j) fun i => by rw [rnd_get, hh i, if_neg (by decide)], ?_⟩
  unfold chgF
  rw [List.any_eq_false]
  intro i _
  rw [hh i]; decide
theorem pick_only {rows : List (List Int)} {c j : Nat} (hb : ∀ i, mg rows c i ≤ 4000000000000000000) (hj : mg rows c j ≠ 0) (h : ∀ i, i ≠ j → mg rows c i = 0) : pickF rows c rows.length = (j : Int) := by
  rcases pick_spec hb rows.length with ⟨h1, h2⟩ | ⟨h1, h2, h3, h4⟩
  · exact absurd (h2 j (Nat.lt_of_not_le fun hl => hj (mg_out hl))) hj
  · have : (pickF rows c rows.length).toNat = j := Decidable.byContradiction fun e => h3 (h _ e)
    omega
theorem colS_eq {n c : Nat} (hc : c < n) : ∀ f rows, Rect n rows → (∀ i, mg rows c i ≤ 4000000000000000000) → endI c f rows = true → ∀ e b, colS c (f + 1 + e) b rows = colI c f rows := by
  intro f
  induction f with
  | zero => intro rows _ _ h; cases h
  | succ f ih =>
    intro rows hr hb h e b
    rw [show f + 1 + 1 + e = (f + 1 + e) + 1 by omega, colS_succ, colI_succ]
    rw [endI_succ] at h
    rcases pick_spec hb rows.length with ⟨h1, _⟩ | ⟨h1, h2, h3, h4⟩
    · rw [if_pos (by omega), if_pos (by omega)]
    have hneg : ¬ pickF rows c rows.length < 0 := by omega
    simp only [if_neg hneg] at h ⊢
    have hjp : (pickF rows c rows.length) = (((pickF rows c rows.length).toNat : Nat) : Int) := by omega
    generalize pickF rows c rows.length = P at *
    generalize hP : P.toNat = j at *
    by_cases hm : moreF rows c j rows.length = true
    · rw [if_pos hm] at h ⊢
      have hch : chgF rows c j rows.length = true := by
        unfold moreF at hm
        unfold chgF
        rw [List.any_eq_true] at hm ⊢
        obtain ⟨i, hi, hh⟩ := hm
        simp only [Bool.and_eq_true] at hh
        exact ⟨i, hi, hh.1⟩
      rw [if_pos hch]
      exact ih _ (rnd_rect hr c j) (rnd_bd hr hc hb h3) h e P
    · rw [if_neg hm]
      have hz : ∀ i, i ≠ j → mg (rnd rows c j) c i = 0 := fun i hi => Decidable.byContradiction fun hne => hm ((more_spec hr hc).2 ⟨i, hi, hne⟩)
      split
      · rw [show f + 1 + e = (f + e) + 1 by omega, colS_succ]
        have hj1 : mg (rnd rows c j) c j ≠ 0 := by rw [rnd_mg hr hc hb h3, if_pos rfl]; exact h3
        have hp1 := pick_only (rnd_bd hr hc hb h3) hj1 hz
        obtain ⟨q1, q2⟩ := rnd_none hz
        rw [hp1, if_neg (by omega), Int.toNat_natCast, q1, q2, if_neg (by decide), hjp]
      · rfl
/-- What is left of a column. -/
theorem colI_spec {n c : Nat} (hc : c < n) : ∀ f rows, Rect n rows → (∀ i, mg rows c i ≤ 4000000000000000000) → endI c f rows = true →
    (colI c f rows).2.length = rows.length ∧ Rect n (colI c f rows).2 ∧ (∀ i, mg (colI c f rows).2 c i ≤ 4000000000000000000) ∧
    (((colI c f rows).1 = -1 ∧ ∀ i, mg (colI c f rows).2 c i = 0) ∨ (0 ≤ (colI c f rows).1 ∧ (colI c f rows).1.toNat < rows.length ∧ mg (colI c f rows).2 c (colI c f rows).1.toNat ≠ 0 ∧ ∀ i, i ≠ (colI c f rows).1.toNat → mg (colI c f rows).2 c i = 0)) := by
  intro f
  induction f with
  | zero => intro rows _ _ h; cases h
  | succ f ih =>
    intro rows hr hb h
    rw [colI_succ]
    rw [endI_succ] at h
    rcases pick_spec hb rows.length with ⟨h1, h0⟩ | ⟨h1, h2, h3, h4⟩
    · rw [if_pos (by omega)]
      exact ⟨rfl, hr, hb, .inl ⟨rfl, fun i => by
        by_cases hi : i < rows.length
        · exact h0 i hi
        · exact mg_out (rows := rows) (by omega)⟩⟩
    rw [if_neg (by omega)] at h
    rw [if_neg (by omega)]
    generalize pickF rows c rows.length = P at *
    by_cases hm : moreF rows c P.toNat rows.length = true
    · rw [if_pos hm] at h ⊢
      have := ih _ (rnd_rect hr c P.toNat) (rnd_bd hr hc hb h3) h
      rw [rnd_len] at this
      exact this
    · rw [if_neg hm]
      have hz : ∀ i, i ≠ P.toNat → mg (rnd rows c P.toNat) c i = 0 := fun i hi => Decidable.byContradiction fun hne => hm ((more_spec hr hc).2 ⟨i, hi, hne⟩)
      exact ⟨rnd_len _ _ _, rnd_rect hr c _, rnd_bd hr hc hb h3, .inr ⟨h1, h2, by rw [rnd_mg hr hc hb h3, if_pos rfl]; exact h3, hz⟩⟩
/-- A column of zeros stays so. -/
theorem colI_zero {n c t : Nat} (ht : t < n) : ∀ f rows, Rect n rows → (∀ i, mg rows t i = 0) → ∀ i, mg (colI c f rows).2 t i = 0 := by
  intro f
  induction f with
  | zero => intro rows _ h; exact h
  | succ f ih =>
    intro rows hr h
    have hr1 : ∀ j i, mg (rnd rows c j) t i = 0 := fun j i => by
      unfold mg
      rw [rnd_get]
      split
      · rename_i hh
        rw [new_cl hr ht (hit_lt hh), mg_zero.1 (h i), mg_zero.1 (h j)]
        unfold wS
        rw [Int.mul_zero, IntWalk.wrap64_in 0 ⟨by omega, by omega⟩, Int.sub_zero, IntWalk.wrap64_in 0 ⟨by omega, by omega⟩]
        rfl
      · exact h i
    rw [colI_succ]
    split
    · exact h
    · split
      · exact ih _ (rnd_rect hr c _) (hr1 _)
      · exact hr1 _
/-! How the numbers grow. -/
def gX (a b : Nat) : Nat := if 2 * b ≤ a then b * (a + b) else a * a
theorem gX_le {a b : Nat} : gX a b ≤ a * a := by
  unfold gX
  split
  · rename_i h
    have h1 : b * (a + b) ≤ b * (a + a) := Nat.mul_le_mul_left b (by omega)
    have h2 : b * (a + a) = (2 * b) * a := by rw [← Nat.two_mul, ← Nat.mul_assoc, Nat.mul_comm b 2]
    have h3 := Nat.mul_le_mul_right a h
    omega
  · exact Nat.le_refl _
theorem gX_one {a b : Nat} (ha : 2 ≤ a) (hb : 1 ≤ b) (hab : b ≤ a) : 1 + a / b ≤ gX a b := by
  unfold gX
  split
  · have h1 : 1 * (a + b) ≤ b * (a + b) := Nat.mul_le_mul_right _ hb
    have h2 := Nat.div_le_self a b
    omega
  · rename_i h
    have h1 : a / b < 2 := (Nat.div_lt_iff_lt_mul (by omega)).2 (by omega)
    have h2 : 2 * a ≤ a * a := Nat.mul_le_mul_right a ha
    omega
theorem gX_step {a b d : Nat} (hd : 1 ≤ d) (hdb : d < b) (hab : b ≤ a) (h : a < 2 * b → d ≤ a - b) : (1 + a / b) * gX b d ≤ gX a b := by
  by_cases h2 : 2 * b ≤ a
  · have h3 : gX b d ≤ b * b := gX_le
    have h4 : gX a b = b * (a + b) := by unfold gX; rw [if_pos h2]
    rw [h4]
    calc (1 + a / b) * gX b d ≤ (1 + a / b) * (b * b) := Nat.mul_le_mul_left _ h3
      _ = b * (b + a / b * b) := by rw [Nat.add_mul, Nat.one_mul, Nat.mul_add, ← Nat.mul_assoc (a / b), Nat.mul_comm (a / b * b)]
      _ ≤ b * (a + b) := Nat.mul_le_mul_left b (by have := Nat.div_mul_le_self a b; omega)
  · have hq : a / b = 1 := Nat.div_eq_of_lt_le (by omega) (by omega)
    have h4 : gX a b = a * a := by unfold gX; rw [if_neg h2]
    have hda := h (by omega)
    rw [hq, h4]
    unfold gX
    split
    · rename_i h5
      have h6 : d * (b + d) ≤ d * a := Nat.mul_le_mul_left d (by omega)
      have h7 : (2 * d) * a ≤ a * a := Nat.mul_le_mul_right a (by omega)
      rw [Nat.mul_assoc] at h7
      omega
    · rename_i h5
      have h6 : (3 * b) * (3 * b) ≤ (2 * a) * (2 * a) := Nat.mul_le_mul (by omega) (by omega)
      have e1 : (3 * b) * (3 * b) = 9 * (b * b) := by rw [Nat.mul_mul_mul_comm]
      have e2 : (2 * a) * (2 * a) = 4 * (a * a) := by rw [Nat.mul_mul_mul_comm]
      omega
theorem wS_abs {y q z : Int} (h : y.natAbs + q.natAbs * z.natAbs ≤ 4000000000000000000) : (wS y q z).natAbs ≤ y.natAbs + q.natAbs * z.natAbs := by
  unfold wS
  have h1 : (q * z).natAbs = q.natAbs * z.natAbs := Int.natAbs_mul q z
  generalize q.natAbs * z.natAbs = m at *
  generalize q * z = u at *
  rw [IntWalk.wrap64_in u ⟨by omega, by omega⟩, IntWalk.wrap64_in _ ⟨by omega, by omega⟩]
  omega
theorem rnd_grow {n : Nat} {rows : List (List Int)} (h : Rect n rows) {c j t : Nat} (ht : t < n) (hb : ∀ i, mg rows c i ≤ 4000000000000000000) (hj : mg rows c j ≠ 0) {a M : Nat} (ha : ∀ i, mg rows c i ≤ a) (hM : ∀ i, mg rows t i ≤ M) (hbig : M * (1 + a / mg rows c j) ≤ 4000000000000000000) (i : Nat) :
    mg (rnd rows c j) t i ≤ M * (1 + a / mg rows c j) := by
  have hMM : M ≤ M * (1 + a / mg rows c j) := Nat.le_mul_of_pos_right M (Nat.lt_of_lt_of_le Nat.zero_lt_one (Nat.le_add_right 1 _))
  unfold mg
  rw [rnd_get]
  split
  · rename_i hh
    rw [new_cl h ht (hit_lt hh), quoW_abs (hb i)]
    have hq : (Int.tdiv (cl (rw_ rows i) c) (cl (rw_ rows j) c)).natAbs ≤ a / mg rows c j := by
      rw [Int.natAbs_tdiv]
      exact Nat.div_le_div_right (ha i)
    have h1 := Nat.mul_le_mul hq (hM j)
    have h2 := hM i
    have h3 : (cl (rw_ rows i) t).natAbs + (Int.tdiv (cl (rw_ rows i) c) (cl (rw_ rows j) c)).natAbs * (cl (rw_ rows j) t).natAbs ≤ M * (1 + a / mg rows c j) := by
      rw [Nat.mul_add, Nat.mul_one, Nat.mul_comm M]
      exact Nat.add_le_add h2 h1
    exact Nat.le_trans (wS_abs (Nat.le_trans h3 hbig)) h3
  · exact Nat.le_trans (hM i) hMM
theorem colI_grow {n c t : Nat} (hc : c < n) (ht : t < n) : ∀ f rows, Rect n rows → ∀ a M, 2 ≤ a → a ≤ 4000000000000000000 → (∀ i, mg rows c i ≤ a) → (∀ i, mg rows t i ≤ M) →
    0 ≤ pickF rows c rows.length → M * gX a (mg rows c (pickF rows c rows.length).toNat) ≤ 4000000000000000000 → ∀ i, mg (colI c f rows).2 t i ≤ M * gX a (mg rows c (pickF rows c rows.length).toNat) := by
  intro f
  induction f with
  | zero =>
    intro rows hr a M ha ha' hca hM hp hbig i
    have hb : ∀ i, mg rows c i ≤ 4000000000000000000 := fun i => Nat.le_trans (hca i) ha'
    rcases pick_spec hb rows.length with ⟨h1, _⟩ | ⟨h1, h2, h3, h4⟩
    · omega
    have h5 := gX_one ha (Nat.pos_of_ne_zero h3) (hca _)
    exact Nat.le_trans (hM i) (Nat.le_mul_of_pos_right M (Nat.lt_of_lt_of_le Nat.zero_lt_one (Nat.le_trans (Nat.le_add_right 1 _) h5)))
  | succ f ih =>
    intro rows hr a M ha ha' hca hM hp hbig
    have hb : ∀ i, mg rows c i ≤ 4000000000000000000 := fun i => Nat.le_trans (hca i) ha'
    rcases pick_spec hb rows.length with ⟨h1, _⟩ | ⟨h1, h2, h3, h4⟩
    · omega
    rw [colI_succ, if_neg (by omega)]
    generalize (pickF rows c rows.length).toNat = j at *
    have h5 := gX_one ha (Nat.pos_of_ne_zero h3) (hca j)
    have h6 := Nat.mul_le_mul_left M h5
    have hg := rnd_grow hr ht hb h3 hca hM (Nat.le_trans h6 hbig)
    split
    · rename_i hm
      obtain ⟨i1, hi1, hm1⟩ := (more_spec hr hc).1 hm
      have hr1 := rnd_rect hr c j
      have hmg := rnd_mg hr hc hb h3
      have hb1 := rnd_bd hr hc hb h3
      have hle : ∀ i, mg (rnd rows c j) c i ≤ mg rows c j := fun i => by
        rw [hmg i]
        split
        · exact Nat.le_refl _
        · exact Nat.le_of_lt (Nat.mod_lt _ (Nat.pos_of_ne_zero h3))
      have hi1l : i1 < (rnd rows c j).length := Nat.lt_of_not_le fun h => hm1 (mg_out h)
      rcases pick_spec hb1 (rnd rows c j).length with ⟨g1, g0⟩ | ⟨g1, g2, g3, g4⟩
      · exact absurd (g0 i1 hi1l) hm1
      have hd := g4 i1 hi1l hm1
      have hv := hmg i1
      rw [if_neg hi1] at hv
      have hlt : mg (rnd rows c j) c i1 < mg rows c j := by rw [hv]; exact Nat.mod_lt _ (Nat.pos_of_ne_zero h3)
      have hnear : a < 2 * mg rows c j → mg (rnd rows c j) c i1 ≤ a - mg rows c j := fun hlt2 => by
        rw [hv]
        have hm0 : mg rows c i1 ≠ 0 := fun e => hm1 (by rw [hv, e, Nat.zero_mod])
        have hil : i1 < rows.length := by rw [rnd_len] at hi1l; exact hi1l
        have q1 := h4 i1 hil hm0
        have q2 := hca i1
        rw [Nat.mod_eq_sub_mod q1, Nat.mod_eq_of_lt (by omega)]
        omega
      have hst := gX_step (a := a) (b := mg rows c j) (d := mg (rnd rows c j) c (pickF (rnd rows c j) c (rnd rows c j).length).toNat) (by omega) (by omega) (hca j) (fun h => by have := hnear h; omega)
      have hst2 := Nat.mul_le_mul_left M hst
      rw [← Nat.mul_assoc] at hst2
      have := ih (rnd rows c j) hr1 (mg rows c j) (M * (1 + a / mg rows c j)) (by omega) (hb j) hle hg g1 (Nat.le_trans hst2 hbig)
      exact fun i => Nat.le_trans (this i) hst2
    · exact fun i => Nat.le_trans (hg i) h6
/-- In all: by the square of the column's greatest number. -/
theorem colI_sq {n c t : Nat} (hc : c < n) (ht : t < n) {f : Nat} {rows : List (List Int)} (hr : Rect n rows) {a M : Nat} (ha : 2 ≤ a) (hca : ∀ i, mg rows c i ≤ a) (hM : ∀ i, mg rows t i ≤ M) (hbig : M * (a * a) ≤ 4000000000000000000) (ha' : a ≤ 4000000000000000000) : ∀ i, mg (colI c f rows).2 t i ≤ M * (a * a) := by
  have hMM : M ≤ M * (a * a) := by
    rcases Nat.eq_zero_or_pos M with h | h
    · rw [h, Nat.zero_mul]; exact Nat.le_refl _
    · exact Nat.le_mul_of_pos_right M (Nat.mul_pos (by omega) (by omega))
  by_cases hp : 0 ≤ pickF rows c rows.length
  · have h1 : M * gX a (mg rows c (pickF rows c rows.length).toNat) ≤ M * (a * a) := Nat.mul_le_mul_left M gX_le
    exact fun i => Nat.le_trans (colI_grow hc ht f rows hr a M ha ha' hca hM hp (Nat.le_trans h1 hbig) i) h1
  · cases f with
    | zero => exact fun i => Nat.le_trans (hM i) hMM
    | succ f =>
      rw [colI_succ, if_pos (by omega)]
      exact fun i => Nat.le_trans (hM i) hMM
end Go.Proofs.Ytnnckojpmnpgbaa
