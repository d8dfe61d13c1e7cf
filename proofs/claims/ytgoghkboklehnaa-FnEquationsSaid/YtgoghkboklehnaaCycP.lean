/- Cyclic words in plain Lean: the order of words, rotations, the cyclic core, the least rotation; the form of a form is itself. -/
import Derived.Test.YtgoghkboklehnaaWord
import Derived.Test.YtgoghkboklehnaaIsWord
import Derived.Test.YtgoghkboklehnaaCmp
namespace Go.Proofs.Ytgoghkboklehnaa
set_option maxRecDepth 20000
set_option linter.unusedVariables false
set_option linter.unusedSimpArgs false
open Go.RowKit

/-! ## The order -/
def keyL (x : Int) : Int := if x = -9223372036854775808 then 100000000000000000000 else if x < 0 then -2 * x + 1 else 2 * x
theorem cmpL_key {a b : Int} (ha : I64 a) (hb : I64 b) : cmpL a b = cmpI (keyL a) (keyL b) := by
  unfold I64 at ha hb
  unfold cmpL keyL cmpI
  repeat' split
  all_goals omega
theorem keyL_inj {a b : Int} (ha : I64 a) (hb : I64 b) (h : keyL a = keyL b) : a = b := by
  unfold I64 at ha hb
  unfold keyL at h
  repeat' split at h
  all_goals omega
def cmpZ : List Int → List Int → Int
  | x :: xs, y :: ys => if cmpL x y ≠ 0 then cmpL x y else cmpZ xs ys
  | _, _ => 0
def cmpW (a b : List Int) : Int := if a.length = b.length then cmpZ a b else cmpI a.length b.length
theorem cmpZ_drop (a b : List Int) (k : Nat) (h : k < a.length) (h' : k < b.length) : cmpZ (a.drop k) (b.drop k) = if cmpL a[k] b[k] ≠ 0 then cmpL a[k] b[k] else cmpZ (a.drop (k + 1)) (b.drop (k + 1)) := by
  rw [List.drop_eq_getElem_cons h, List.drop_eq_getElem_cons h']
  rfl
theorem cmpZ_end (a b : List Int) : cmpZ (a.drop a.length) b = 0 := by simp [cmpZ]
/-- Strictly before, letter by letter. -/
def ltW : List Int → List Int → Prop
  | x :: xs, y :: ys => keyL x < keyL y ∨ (x = y ∧ ltW xs ys)
  | _, _ => False
theorem cmpZ_lt {a b : List Int} (ha : I64s a) (hb : I64s b) : cmpZ a b < 0 ↔ ltW a b := by
  induction a generalizing b with
  | nil => simp [cmpZ, ltW]
  | cons x a ih =>
    cases b with
    | nil => simp [cmpZ, ltW]
    | cons y b =>
      have hx := ha x (by simp)
      have hy := hb y (by simp)
      have := ih (b := b) (fun z hz => ha z (by simp [hz])) (fun z hz => hb z (by simp [hz]))
      unfold cmpZ ltW
      rw [cmpL_key hx hy]
      unfold cmpI
      by_cases h1 : keyL x < keyL y
      · simp [h1]
      · by_cases h2 : keyL y < keyL x
        · rw [if_neg h1, if_pos h2]
          have : x ≠ y := by rintro rfl; omega
          simp [h1, this]
        · have e : x = y := keyL_inj hx hy (by omega)
          subst e
          simp [this]
theorem getD_app_l (a b : List Int) (i : Nat) (h : i < a.length) : (a ++ b).getD i 0 = a.getD i 0 := by
  simp only [List.getD]; rw [List.getElem?_append_left h]
theorem getD_app_r (a b : List Int) (i : Nat) (h : a.length ≤ i) : (a ++ b).getD i 0 = b.getD (i - a.length) 0 := by
  simp only [List.getD]; rw [List.getElem?_append_right h]
theorem ltW_irrefl (a : List Int) : ¬ ltW a a := by
  induction a with
  | nil => simp [ltW]
  | cons x a ih => unfold ltW; intro h; rcases h with h | ⟨_, h⟩; omega; exact ih h
theorem ltW_trans {a b c : List Int} (h1 : ltW a b) (h2 : ltW b c) : ltW a c := by
  induction a generalizing b c with
  | nil => cases b <;> simp [ltW] at h1
  | cons x a ih =>
    cases b with
    | nil => simp [ltW] at h1
    | cons y b =>
      cases c with
      | nil => simp [ltW] at h2
      | cons z c =>
        unfold ltW at h1 h2 ⊢
        rcases h1 with h1 | ⟨rfl, h1⟩ <;> rcases h2 with h2 | ⟨rfl, h2⟩
        · left; omega
        · left; exact h1
        · left; exact h2
        · right; exact ⟨rfl, ih (b := b) (c := c) h1 h2⟩
theorem ltW_tri {a b : List Int} (ha : I64s a) (hb : I64s b) (hl : a.length = b.length) : ltW a b ∨ a = b ∨ ltW b a := by
  induction a generalizing b with
  | nil => cases b with
    | nil => simp
    | cons y b => simp at hl
  | cons x a ih =>
    cases b with
    | nil => simp at hl
    | cons y b =>
      have hx := ha x (by simp)
      have hy := hb y (by simp)
      have := ih (b := b) (fun z hz => ha z (by simp [hz])) (fun z hz => hb z (by simp [hz])) (by simpa using hl)
      unfold ltW
      rcases Int.lt_trichotomy (keyL x) (keyL y) with h | h | h
      · exact .inl (.inl h)
      · have e := keyL_inj hx hy h
        subst e
        rcases this with h | rfl | h
        · exact .inl (.inr ⟨rfl, h⟩)
        · exact .inr (.inl rfl)
        · exact .inr (.inr (.inr ⟨rfl, h⟩))
      · exact .inr (.inr (.inl h))

/-! ## Rotations -/
def rotF (w : List Int) (k : Nat) : List Int := w.drop k ++ w.take k
theorem rotF_len (w : List Int) (k : Nat) : (rotF w k).length = w.length := by simp [rotF]; omega
theorem rotF_mem {w : List Int} {k : Nat} {x : Int} (h : x ∈ rotF w k) : x ∈ w := by
  rcases List.mem_append.1 h with h | h
  · exact List.mem_of_mem_drop h
  · exact List.mem_of_mem_take h
theorem rotF_I64 {w : List Int} (h : I64s w) (k : Nat) : I64s (rotF w k) := fun x hx => h x (rotF_mem hx)
theorem rotF_zero (w : List Int) : rotF w 0 = w := by simp [rotF]
theorem rotF_getD (w : List Int) (k i : Nat) (hk : k ≤ w.length) (hi : i < w.length) : (rotF w k).getD i 0 = w.getD ((k + i) % w.length) 0 := by
  unfold rotF
  by_cases h : i < w.length - k
  · rw [getD_app_l _ _ _ (by simpa using h), Nat.mod_eq_of_lt (by omega)]
    simp [List.getD, List.getElem?_drop]
  · rw [getD_app_r _ _ _ (by simp; omega), List.length_drop, show (k + i) % w.length = i - (w.length - k) by rw [Nat.mod_eq_sub_mod (by omega), Nat.mod_eq_of_lt (by omega)]; omega]
    simp only [List.getD, List.getElem?_take]
    rw [if_pos (by omega)]
theorem list_ext_getD {a b : List Int} (hl : a.length = b.length) (h : ∀ i, i < a.length → a.getD i 0 = b.getD i 0) : a = b := by
  refine List.ext_getElem hl fun i h1 h2 => ?_
  have := h i h1
  simpa [List.getD, h1, h2] using this
theorem rotF_rotF (w : List Int) (j k : Nat) (hj : j ≤ w.length) (hk : k ≤ w.length) (hn : 0 < w.length) : rotF (rotF w j) k = rotF w ((j + k) % w.length) := by
  refine list_ext_getD (by simp [rotF_len]) fun i hi => ?_
  have hi' : i < w.length := by simpa [rotF_len] using hi
  rw [rotF_getD _ _ _ (by rw [rotF_len]; exact hk) (by rw [rotF_len]; exact hi'), rotF_len, rotF_getD _ _ _ hj (Nat.mod_lt _ hn), rotF_getD _ _ _ (Nat.le_of_lt (Nat.mod_lt _ hn)) hi']
  congr 1
  rw [Nat.add_mod_mod, Nat.mod_add_mod]
  congr 1
  omega
def lrS (w : List Int) (b : List Int × Nat) (k : Nat) : List Int × Nat := if cmpW (rotF w k) b.1 < 0 then (rotF w k, k) else b
def lrAt (w : List Int) : Nat → List Int × Nat
  | 0 => (w, 0)
  | 1 => (w, 0)
  | k + 2 => lrS w (lrAt w (k + 1)) (k + 1)
def lrF (w : List Int) : List Int × Nat := lrAt w w.length
theorem lrAt_succ (w : List Int) (k : Nat) (h : 1 ≤ k) : lrAt w (k + 1) = lrS w (lrAt w k) k := by
  obtain ⟨j, rfl⟩ : ∃ j, k = j + 1 := ⟨k - 1, by omega⟩
  rfl
/-- The best so far is a rotation. -/
theorem lrAt_rot (w : List Int) (k : Nat) : (lrAt w k).1 = rotF w (lrAt w k).2 ∧ ((lrAt w k).2 = 0 ∨ (lrAt w k).2 < k) := by
  induction k with
  | zero => exact ⟨by simp [lrAt, rotF_zero], .inl rfl⟩
  | succ k ih =>
    match k, ih with
    | 0, _ => exact ⟨by simp [lrAt, rotF_zero], .inl rfl⟩
    | j + 1, ih =>
      rw [lrAt_succ _ _ (by omega)]
      unfold lrS
      split
      · exact ⟨rfl, .inr (by simp)⟩
      · exact ⟨ih.1, by have := ih.2; omega⟩
theorem lrF_rot (w : List Int) : (lrF w).1 = rotF w (lrF w).2 ∧ (lrF w).2 ≤ w.length := by
  have := lrAt_rot w w.length
  exact ⟨this.1, by unfold lrF; omega⟩
theorem lrAt_len (w : List Int) (k : Nat) : (lrAt w k).1.length = w.length := by rw [(lrAt_rot w k).1, rotF_len]
theorem lrAt_I64 {w : List Int} (h : I64s w) (k : Nat) : I64s (lrAt w k).1 := by rw [(lrAt_rot w k).1]; exact rotF_I64 h _
theorem cmpW_rot (w : List Int) (k j : Nat) : cmpW (rotF w k) (lrAt w j).1 = cmpZ (rotF w k) (lrAt w j).1 := by
  unfold cmpW; rw [if_pos (by rw [rotF_len, lrAt_len])]
/-- No rotation so far comes before the best. -/
theorem lrAt_least {w : List Int} (h : I64s w) (k j : Nat) (hj : j < k) : ¬ ltW (rotF w j) (lrAt w k).1 := by
  induction k with
  | zero => omega
  | succ k ih =>
    match k, ih with
    | 0, _ =>
      obtain rfl : j = 0 := by omega
      rw [rotF_zero]; exact ltW_irrefl _
    | m + 1, ih =>
      rw [lrAt_succ _ _ (by omega)]
      unfold lrS
      split
      · rename_i hlt
        rw [cmpW_rot, cmpZ_lt (rotF_I64 h _) (lrAt_I64 h _)] at hlt
        rcases Nat.lt_or_eq_of_le (Nat.le_of_lt_succ hj) with hj | rfl
        · exact fun hh => ih hj (ltW_trans hh hlt)
        · exact ltW_irrefl _
      · rename_i hn
        rw [cmpW_rot, cmpZ_lt (rotF_I64 h _) (lrAt_I64 h _)] at hn
        rcases Nat.lt_or_eq_of_le (Nat.le_of_lt_succ hj) with hj | rfl
        · exact ih hj
        · exact hn
theorem lrAt_fix {w : List Int} (h : I64s w) (hn : ∀ j, j < w.length → ¬ ltW (rotF w j) w) (k : Nat) (hk : k ≤ w.length) : lrAt w k = (w, 0) := by
  induction k with
  | zero => rfl
  | succ k ih =>
    match k, ih with
    | 0, _ => rfl
    | m + 1, ih =>
      rw [lrAt_succ _ _ (by omega), ih (by omega)]
      unfold lrS
      rw [if_neg]
      unfold cmpW
      rw [if_pos (by rw [rotF_len]), cmpZ_lt (rotF_I64 h _) h]
      exact hn _ (by omega)
theorem lrF_lrF {w : List Int} (h : I64s w) : (lrF (lrF w).1).1 = (lrF w).1 := by
  rcases Nat.eq_zero_or_pos w.length with h0 | h0
  · obtain rfl := List.eq_nil_of_length_eq_zero h0; rfl
  have hl := lrAt_len w w.length
  have hr := lrF_rot w
  unfold lrF at hl hr ⊢
  rw [hl, lrAt_fix (lrAt_I64 h _) (fun j hj => ?_) _ (by rw [hl]; exact Nat.le_refl _)]
  rw [hl] at hj
  rw [hr.1, rotF_rotF _ _ _ hr.2 (by omega) h0, ← hr.1]
  exact lrAt_least h _ _ (Nat.mod_lt _ h0)

/-! ## Reduced words -/
def redP (xs : List Int) : Prop := ∀ i, i + 1 < xs.length → invB (xs.getD i 0) (xs.getD (i + 1) 0) = false
theorem redP_take {xs : List Int} (h : redP xs) (k : Nat) : redP (xs.take k) := by
  intro i hi
  simp only [List.length_take] at hi
  have e1 : ∀ j, j < k → (xs.take k).getD j 0 = xs.getD j 0 := fun j hj => by simp only [List.getD, List.getElem?_take]; rw [if_pos hj]
  rw [e1 i (by omega), e1 (i + 1) (by omega)]
  exact h i (by omega)
theorem redP_drop {xs : List Int} (h : redP xs) (k : Nat) : redP (xs.drop k) := by
  intro i hi
  simp only [List.length_drop] at hi
  have e1 : ∀ j, (xs.drop k).getD j 0 = xs.getD (k + j) 0 := fun j => by simp [List.getD, List.getElem?_drop]
  rw [e1, e1, ← Nat.add_assoc]
  exact h (k + i) (by omega)
theorem redP_snoc {xs : List Int} {x : Int} (h : redP xs) (hx : 0 < xs.length → invB (xs.getLastD 0) x = false) : redP (xs ++ [x]) := by
  intro i hi
  simp only [List.length_append, List.length_singleton] at hi
  rcases Nat.lt_or_eq_of_le (Nat.le_of_lt_succ (show i + 1 < xs.length + 1 by omega)) with h1 | h1
  · rw [getD_app_l _ _ _ (by omega), getD_app_l _ _ _ h1]
    exact h i h1
  · rw [getD_app_l _ _ _ (by omega), getD_app_r _ _ _ (by omega), h1, Nat.sub_self]
    have := hx (by omega)
    rw [last_get (by omega)] at this
    have e : i = xs.length - 1 := by omega
    subst e
    simpa [List.getD, show xs.length - 1 < xs.length by omega] using this
theorem red1_red {acc : List Int} {x : Int} (h : redP acc) : redP (red1 acc x) := by
  unfold red1
  split
  · rw [List.dropLast_eq_take]; exact redP_take h _
  · rename_i hn
    refine redP_snoc h fun h0 => ?_
    cases hb : invB (acc.getLastD 0) x with
    | false => rfl
    | true => exact absurd ⟨h0, hb⟩ hn
theorem redL_red {acc xs : List Int} (h : redP acc) : redP (redL acc xs) := by
  unfold redL
  induction xs generalizing acc with
  | nil => exact h
  | cons x xs ih => exact ih (red1_red h)
theorem redP_nil : redP [] := fun i hi => by simp at hi
theorem redL_id {acc xs : List Int} (h : redP (acc ++ xs)) : redL acc xs = acc ++ xs := by
  unfold redL
  induction xs generalizing acc with
  | nil => simp
  | cons x xs ih =>
    have e : red1 acc x = acc ++ [x] := by
      unfold red1
      rw [if_neg]
      rintro ⟨h0, hb⟩
      have := h (acc.length - 1) (by simp; omega)
      rw [getD_app_l _ _ _ (by omega), getD_app_r _ _ _ (by omega), show acc.length - 1 + 1 - acc.length = 0 by omega] at this
      rw [last_get h0] at hb
      have e2 : acc.getD (acc.length - 1) 0 = acc[acc.length - 1] := by simp [List.getD, show acc.length - 1 < acc.length by omega]
      rw [e2] at this
      simp only [List.getD_cons_zero] at this
      rw [this] at hb
      cases hb
    rw [List.foldl_cons, e, ih (by simpa using h)]
    simp

/-! ## The cyclic core -/
def stripGo (c : List Int) : Nat → Nat → Nat
  | 0, f => f
  | n + 1, f => if 2 * f + 2 ≤ c.length ∧ invB (c.getD f 0) (c.getD (c.length - 1 - f) 0) = true then stripGo c n (f + 1) else f
def stripN (c : List Int) : Nat := stripGo c c.length 0
theorem strip_step (c : List Int) (n f : Nat) : stripGo c (n + 1) f = if 2 * f + 2 ≤ c.length ∧ invB (c.getD f 0) (c.getD (c.length - 1 - f) 0) = true then stripGo c n (f + 1) else f := rfl
theorem strip_le (c : List Int) (n f : Nat) (h : 2 * f ≤ c.length) : 2 * stripGo c n f ≤ c.length := by
  induction n generalizing f with
  | zero => exact h
  | succ n ih =>
    unfold stripGo
    split
    · exact ih _ (by omega)
    · exact h
theorem strip_end (c : List Int) (n f : Nat) (hn : c.length ≤ 2 * f + 2 * n) : ¬ (2 * stripGo c n f + 2 ≤ c.length ∧ invB (c.getD (stripGo c n f) 0) (c.getD (c.length - 1 - stripGo c n f) 0) = true) := by
  induction n generalizing f with
  | zero => unfold stripGo; rintro ⟨h, _⟩; omega
  | succ n ih =>
    unfold stripGo
    split
    · exact ih _ (by omega)
    · assumption
/-- How far the loop has come is what is left to strip. -/
theorem strip_at {c : List Int} {f : Nat} (h : stripGo c (c.length - f) f = stripN c) (hc : 2 * f + 2 ≤ c.length) (hi : invB (c.getD f 0) (c.getD (c.length - 1 - f) 0) = true) : stripGo c (c.length - (f + 1)) (f + 1) = stripN c := by
  rw [show c.length - f = (c.length - (f + 1)) + 1 by omega, strip_step, if_pos ⟨hc, hi⟩] at h
  exact h
theorem strip_stop {c : List Int} {f : Nat} (h : stripGo c (c.length - f) f = stripN c) (hn : ¬ (2 * f + 2 ≤ c.length ∧ invB (c.getD f 0) (c.getD (c.length - 1 - f) 0) = true)) : stripN c = f := by
  rcases Nat.eq_zero_or_pos (c.length - f) with h0 | h0
  · rw [h0] at h; exact h.symm
  · rw [show c.length - f = (c.length - f - 1) + 1 by omega, strip_step, if_neg hn] at h
    exact h.symm
def coreC (c : List Int) : List Int := (c.take (c.length - stripN c)).drop (stripN c)
def coreF (w : List Int) : List Int := coreC (redL [] w)
def prefF (w : List Int) : List Int := (redL [] w).take (stripN (redL [] w))
def cycF (w : List Int) : List Int := (lrF (coreF w)).1
theorem stripN_le (c : List Int) : 2 * stripN c ≤ c.length := strip_le c _ 0 (by omega)
theorem coreC_len (c : List Int) : (coreC c).length = c.length - 2 * stripN c := by
  have := stripN_le c
  simp [coreC]; omega
theorem coreC_getD (c : List Int) (i : Nat) (h : i < c.length - 2 * stripN c) : (coreC c).getD i 0 = c.getD (stripN c + i) 0 := by
  have := stripN_le c
  unfold coreC
  simp only [List.getD, List.getElem?_drop, List.getElem?_take]
  rw [if_pos (by omega)]
/-- Reduced, also round the corner. -/
def cycP (r : List Int) : Prop := redP r ∧ (2 ≤ r.length → invB (r.getD 0 0) (r.getD (r.length - 1) 0) = false)
theorem coreC_cyc {c : List Int} (h : redP c) : cycP (coreC c) := by
  refine ⟨redP_drop (redP_take h _) _, fun h2 => ?_⟩
  have hl := coreC_len c
  have hs := stripN_le c
  rw [coreC_getD _ _ (by omega), coreC_getD _ _ (by omega), hl, Nat.add_zero]
  have := strip_end c c.length 0 (by omega)
  cases hb : invB (c.getD (stripN c) 0) (c.getD (stripN c + (c.length - 2 * stripN c - 1)) 0) with
  | false => rfl
  | true =>
    refine absurd ⟨?_, ?_⟩ this
    · show 2 * stripN c + 2 ≤ c.length; omega
    · show invB (c.getD (stripN c) 0) (c.getD (c.length - 1 - stripN c) 0) = true
      rw [← hb]; congr 2; omega
theorem coreC_fix {r : List Int} (h : cycP r) : coreC r = r := by
  have e : stripN r = 0 := by
    refine strip_stop (f := 0) (by simp [stripN]) ?_
    rintro ⟨h2, hb⟩
    rw [Nat.sub_zero] at hb
    rw [h.2 (by omega)] at hb
    cases hb
  unfold coreC
  rw [e]
  simp
theorem invB_symm {a b : Int} (ha : I64 a) (hb : I64 b) : invB a b = invB b a := by
  unfold I64 at ha hb
  unfold invB
  rw [Bool.eq_iff_iff]
  simp
  omega
theorem getD_I64 {xs : List Int} (h : I64s xs) (i : Nat) : I64 (xs.getD i 0) := by
  by_cases hi : i < xs.length
  · have : xs.getD i 0 = xs[i] := by simp [List.getD, hi]
    rw [this]; exact h _ (by simp)
  · have : xs.getD i 0 = 0 := by simp [List.getD, Nat.not_lt.1 hi]
    rw [this]; unfold I64; omega
theorem rot_cyc {r : List Int} (h : cycP r) (hx : I64s r) (k : Nat) (hk : k ≤ r.length) : cycP (rotF r k) := by
  have pair : ∀ i, 2 ≤ r.length → i < r.length → invB (r.getD (i % r.length) 0) (r.getD ((i + 1) % r.length) 0) = false := by
    intro i h2 hi
    rw [Nat.mod_eq_of_lt hi]
    rcases Nat.lt_or_eq_of_le (show i + 1 ≤ r.length by omega) with h1 | h1
    · rw [Nat.mod_eq_of_lt h1]; exact h.1 i h1
    · rw [h1, Nat.mod_self, invB_symm (getD_I64 hx _) (getD_I64 hx _)]
      have := h.2 h2
      rw [show i = r.length - 1 by omega]; exact this
  refine ⟨fun i hi => ?_, fun h2 => ?_⟩
  · rw [rotF_len] at hi
    rw [rotF_getD _ _ _ hk (by omega), rotF_getD _ _ _ hk hi]
    have := pair ((k + i) % r.length) (by omega) (Nat.mod_lt _ (by omega))
    rw [Nat.mod_mod, Nat.mod_add_mod] at this
    exact this
  · rw [rotF_len] at h2 ⊢
    rw [rotF_getD _ _ _ hk (by omega), rotF_getD _ _ _ hk (by omega)]
    have := pair ((k + (r.length - 1)) % r.length) h2 (Nat.mod_lt _ (by omega))
    rw [Nat.mod_mod, Nat.mod_add_mod, show k + (r.length - 1) + 1 = k + r.length by omega, Nat.add_mod_right] at this
    rw [invB_symm (getD_I64 hx _) (getD_I64 hx _)]
    exact this
theorem coreF_mem {w : List Int} {x : Int} (h : x ∈ coreF w) : x ∈ redL [] w := List.mem_of_mem_take (List.mem_of_mem_drop h)
theorem redL_mem {acc xs : List Int} {x : Int} (h : x ∈ redL acc xs) : x ∈ acc ∨ x ∈ xs := by
  unfold redL at h
  induction xs generalizing acc with
  | nil => exact .inl h
  | cons y xs ih =>
    rcases ih h with h | h
    · unfold red1 at h
      split at h
      · exact .inl (List.dropLast_subset _ h)
      · rcases List.mem_append.1 h with h | h
        · exact .inl h
        · right; simp at h; simp [h]
    · right; simp [h]
theorem cycF_mem {w : List Int} {x : Int} (h : x ∈ cycF w) : x ∈ w := by
  unfold cycF at h
  rw [(lrF_rot _).1] at h
  rcases redL_mem (coreF_mem (rotF_mem h)) with h | h
  · cases h
  · exact h
theorem coreF_len (w : List Int) : (coreF w).length ≤ w.length := by
  have h1 := coreC_len (redL [] w)
  have h2 := redL_len [] w
  simp only [List.length_nil] at h2
  unfold coreF
  omega
theorem cycF_clen (w : List Int) : (cycF w).length = (coreF w).length := by
  unfold cycF; rw [(lrF_rot _).1, rotF_len]
theorem cycF_len (w : List Int) : (cycF w).length ≤ w.length := by rw [cycF_clen]; exact coreF_len w
theorem coreF_I64 {w : List Int} (h : I64s w) : I64s (coreF w) := fun x hx => redL_I64 I64s_nil h x (coreF_mem hx)
theorem cycF_cyc {w : List Int} (h : I64s w) : cycP (cycF w) := by
  unfold cycF
  rw [(lrF_rot _).1]
  exact rot_cyc (coreC_cyc (redL_red redP_nil)) (coreF_I64 h) _ (lrF_rot _).2
theorem cycF_cycF {w : List Int} (h : I64s w) : cycF (cycF w) = cycF w := by
  have hc := cycF_cyc h
  have e1 : redL [] (cycF w) = cycF w := by have := redL_id (acc := []) (xs := cycF w) (by simpa using hc.1); simpa using this
  have e2 : coreF (cycF w) = cycF w := by unfold coreF; rw [e1]; exact coreC_fix hc
  have e3 : cycF (cycF w) = (lrF (coreF (cycF w))).1 := rfl
  rw [e3, e2]
  unfold cycF
  exact lrF_lrF (coreF_I64 h)
theorem okAt_red {r : Int} {xs : List Int} (h : redP xs) (hx : ∀ x ∈ xs, letB r x = true) (i : Nat) (hi : i < xs.length) : okAt r xs i = true := by
  unfold okAt
  have e : xs.getD i 0 = xs[i] := by simp [List.getD, hi]
  rw [e, hx _ (by simp), ← e]
  by_cases h0 : 0 < i
  · have := h (i - 1) (by omega)
    rw [show i - 1 + 1 = i by omega] at this
    rw [this]; simp
  · simp [h0]
theorem wordB_let {r : Int} {xs : List Int} (h : wordB r xs = true) {x : Int} (hx : x ∈ xs) : letB r x = true := by
  obtain ⟨i, hi, rfl⟩ := List.getElem_of_mem hx
  have := wordB_ok h i hi
  unfold okAt at this
  have e : xs.getD i 0 = xs[i] := by simp [List.getD, hi]
  rw [e] at this
  simp only [Bool.and_eq_true] at this
  exact this.1
theorem cycF_word {r : Int} {w : List Int} (hr : inB r 1 3 = true) (hx : ∀ x ∈ w, letB r x = true) (hI : I64s w) (hl : (cycF w).length ≤ 24) : wordB r (cycF w) = true :=
  wordB_true hr hl fun i hi => okAt_red (cycF_cyc hI).1 (fun x hx' => hx x (cycF_mem hx')) i hi
end Go.Proofs.Ytgoghkboklehnaa
