/- Plain: the row steps of the Hermite form; that they end, and that no number grows too great meanwhile. -/
import Derived.Test.YtnnckojpmnpgbaaNum
namespace Go.Proofs.Ytnnckojpmnpgbaa
set_option maxRecDepth 20000
set_option linter.unusedVariables false
set_option linter.unusedSimpArgs false
open Go.RowKit

def cl (r : List Int) (c : Nat) : Int := r.getD c 0
def rw_ (rows : List (List Int)) (i : Nat) : List Int := rows.getD i []
def wS (a q b : Int) : Int := wrap64 (a - wrap64 (q * b))
def subR (r : List Int) (q : Int) (b : List Int) : List Int := (List.range r.length).map fun i => wS (cl r i) q (cl b i)
def quoW (a b : Int) : Int := wrap64 (Int.tdiv a b)
theorem subR_len (r : List Int) (q : Int) (b : List Int) : (subR r q b).length = r.length := by simp [subR]
theorem subR_cl (r : List Int) (q : Int) (b : List Int) (i : Nat) (h : i < r.length) : cl (subR r q b) i = wS (cl r i) q (cl b i) := by
  unfold subR cl
  rw [List.getD_eq_getElem?_getD, List.getElem?_map, List.getElem?_range h]
  rfl
/-- The row whose number in column c is least, but not 0; -1 if there is none. -/
def pickS (rows : List (List Int)) (c : Nat) (m : Int) (i : Nat) : Int :=
  if cl (rw_ rows i) c ≠ 0 ∧ (m < 0 ∨ abs64 (cl (rw_ rows i) c) < abs64 (cl (rw_ rows m.toNat) c)) then (i : Int) else m
def pickF (rows : List (List Int)) (c k : Nat) : Int := (List.range k).foldl (pickS rows c) (-1)
theorem pickF_succ (rows : List (List Int)) (c k : Nat) : pickF rows c (k + 1) = pickS rows c (pickF rows c k) k := by
  unfold pickF
  rw [List.range_succ, List.foldl_append]
  rfl
theorem pickF_range (rows : List (List Int)) (c k : Nat) : pickF rows c k = -1 ∨ (0 ≤ pickF rows c k ∧ pickF rows c k < k) := by
  induction k with
  | zero => exact .inl rfl
  | succ k ih =>
    rw [pickF_succ]
    unfold pickS
    split
    · exact .inr (by omega)
    · omega
/-- What becomes of row i where row j is taken from the others. -/
def newR (rows : List (List Int)) (c j i : Nat) : List Int := subR (rw_ rows i) (quoW (cl (rw_ rows i) c) (cl (rw_ rows j) c)) (rw_ rows j)
def hitR (rows : List (List Int)) (c j i : Nat) : Bool := decide (i ≠ j) && decide (cl (rw_ rows i) c ≠ 0)
def rndS (c j : Nat) (rows : List (List Int)) (i : Nat) : List (List Int) := if hitR rows c j i = true then rows.set i (newR rows c j i) else rows
def rndF (rows : List (List Int)) (c j k : Nat) : List (List Int) := (List.range k).foldl (rndS c j) rows
theorem rndF_succ (rows : List (List Int)) (c j k : Nat) : rndF rows c j (k + 1) = rndS c j (rndF rows c j k) k := by
  unfold rndF
  rw [List.range_succ, List.foldl_append]
  rfl
theorem rw_set (rows : List (List Int)) (i j : Nat) (r : List Int) (h : i < rows.length) : rw_ (rows.set i r) j = if j = i then r else rw_ rows j := by
  unfold rw_
  rw [List.getD_eq_getElem?_getD, List.getElem?_set]
  by_cases e : i = j
  · subst e; simp [h]
  · rw [if_neg e, if_neg (fun h => e h.symm), List.getD_eq_getElem?_getD]
theorem rndF_get (rows : List (List Int)) (c j : Nat) : ∀ k, k ≤ rows.length → (rndF rows c j k).length = rows.length ∧ ∀ i, rw_ (rndF rows c j k) i = if i < k ∧ hitR rows c j i = true then newR rows c j i else rw_ rows i := by
  intro k
  induction k with
  | zero => intro _; exact ⟨rfl, fun i => by rw [if_neg (by omega)]; rfl⟩
  | succ k ih =>
    intro hk
    obtain ⟨h1, h2⟩ := ih (by omega)
    rw [rndF_succ]
    have hj : rw_ (rndF rows c j k) j = rw_ rows j := by rw [h2, if_neg (fun h => by simp [hitR] at h)]
    have hk' : rw_ (rndF rows c j k) k = rw_ rows k := by rw [h2, if_neg (by omega)]
    have hh : hitR (rndF rows c j k) c j k = hitR rows c j k := by unfold hitR; rw [hk']
    have hn : newR (rndF rows c j k) c j k = newR rows c j k := by unfold newR; rw [hk', hj]
    unfold rndS
    rw [hh, hn]
    split
    · rename_i hb
      refine ⟨by rw [List.length_set, h1], fun i => ?_⟩
      rw [rw_set _ _ _ _ (by omega), h2]
      by_cases e : i = k
      · subst e; rw [if_pos rfl, if_pos ⟨by omega, hb⟩]
      · rw [if_neg e]
        by_cases h : i < k ∧ hitR rows c j i = true
        · rw [if_pos h, if_pos ⟨by omega, h.2⟩]
        · rw [if_neg h, if_neg (fun h' => h ⟨by omega, h'.2⟩)]
    · rename_i hb
      refine ⟨h1, fun i => ?_⟩
      rw [h2]
      by_cases h : i < k ∧ hitR rows c j i = true
      · rw [if_pos h, if_pos ⟨by omega, h.2⟩]
      · rw [if_neg h, if_neg (fun h' => ?_)]
        by_cases e : i = k
        · subst e; exact hb h'.2
        · exact h ⟨by omega, h'.2⟩
/-- Whether a number other than 0 is left in a row that was changed (the program's question), and whether a row was changed (the reference's). -/
def moreF (rows : List (List Int)) (c j k : Nat) : Bool := (List.range k).any fun i => hitR rows c j i && decide (cl (newR rows c j i) c ≠ 0)
def chgF (rows : List (List Int)) (c j k : Nat) : Bool := (List.range k).any (hitR rows c j)
theorem moreF_succ (rows : List (List Int)) (c j k : Nat) : moreF rows c j (k + 1) = (moreF rows c j k || (hitR rows c j k && decide (cl (newR rows c j k) c ≠ 0))) := by
  unfold moreF
  rw [List.range_succ, List.any_append]
  simp
theorem chgF_succ (rows : List (List Int)) (c j k : Nat) : chgF rows c j (k + 1) = (chgF rows c j k || hitR rows c j k) := by
  unfold chgF
  rw [List.range_succ, List.any_append]
  simp
/-- A whole round. -/
def rnd (rows : List (List Int)) (c j : Nat) : List (List Int) := rndF rows c j rows.length
theorem rnd_len (rows : List (List Int)) (c j : Nat) : (rnd rows c j).length = rows.length := (rndF_get rows c j _ (Nat.le_refl _)).1
theorem hit_lt {rows : List (List Int)} {c j i : Nat} (h : hitR rows c j i = true) : i < rows.length := by
  rcases Nat.lt_or_ge i rows.length with h1 | h1
  · exact h1
  · have : rw_ rows i = [] := by unfold rw_; rw [List.getD_eq_getElem?_getD, List.getElem?_eq_none h1]; rfl
    simp [hitR, this, cl] at h
theorem rnd_get (rows : List (List Int)) (c j i : Nat) : rw_ (rnd rows c j) i = if hitR rows c j i = true then newR rows c j i else rw_ rows i := by
  unfold rnd
  rw [(rndF_get rows c j _ (Nat.le_refl _)).2]
  by_cases h : hitR rows c j i = true
  · rw [if_pos h, if_pos ⟨hit_lt h, h⟩]
  · rw [if_neg h, if_neg (fun h' => h h'.2)]
/-- A column's rounds, as the program turns them. -/
def colI (c : Nat) : Nat → List (List Int) → Int × List (List Int)
  | 0, rows => (-1, rows)
  | f + 1, rows =>
    if pickF rows c rows.length < 0 then (-1, rows)
    else if moreF rows c (pickF rows c rows.length).toNat rows.length = true then colI c f (rnd rows c (pickF rows c rows.length).toNat)
    else (pickF rows c rows.length, rnd rows c (pickF rows c rows.length).toNat)
/-- As the reference turns them. -/
def colS (c : Nat) : Nat → Int → List (List Int) → Int × List (List Int)
  | 0, b, rows => (b, rows)
  | f + 1, _, rows =>
    if pickF rows c rows.length < 0 then (-1, rows)
    else if chgF rows c (pickF rows c rows.length).toNat rows.length = true then colS c f (pickF rows c rows.length) (rnd rows c (pickF rows c rows.length).toNat)
    else (pickF rows c rows.length, rnd rows c (pickF rows c rows.length).toNat)
/-- The program's rounds end within so many. -/
def endI (c : Nat) : Nat → List (List Int) → Bool
  | 0, _ => false
  | f + 1, rows =>
    if pickF rows c rows.length < 0 then true
    else if moreF rows c (pickF rows c rows.length).toNat rows.length = true then endI c f (rnd rows c (pickF rows c rows.length).toNat)
    else true
theorem colI_succ (c f : Nat) (rows : List (List Int)) : colI c (f + 1) rows = if pickF rows c rows.length < 0 then (-1, rows)
    else if moreF rows c (pickF rows c rows.length).toNat rows.length = true then colI c f (rnd rows c (pickF rows c rows.length).toNat)
    else (pickF rows c rows.length, rnd rows c (pickF rows c rows.length).toNat) := rfl
theorem colS_succ (c f : Nat) (b : Int) (rows : List (List Int)) : colS c (f + 1) b rows = if pickF rows c rows.length < 0 then (-1, rows)
    else if chgF rows c (pickF rows c rows.length).toNat rows.length = true then colS c f (pickF rows c rows.length) (rnd rows c (pickF rows c rows.length).toNat)
    else (pickF rows c rows.length, rnd rows c (pickF rows c rows.length).toNat) := rfl
theorem endI_succ (c f : Nat) (rows : List (List Int)) : endI c (f + 1) rows = if pickF rows c rows.length < 0 then true
    else if moreF rows c (pickF rows c rows.length).toNat rows.length = true then endI c f (rnd rows c (pickF rows c rows.length).toNat)
    else true := rfl
theorem endI_mono (c : Nat) : ∀ f rows, endI c f rows = true → endI c (f + 1) rows = true ∧ colI c (f + 1) rows = colI c f rows := by
  intro f
  induction f with
  | zero => intro rows h; cases h
  | succ f ih =>
    intro rows h
    rw [endI_succ] at h
    rw [endI_succ, colI_succ c (f + 1) rows, colI_succ c f rows]
    by_cases h0 : pickF rows c rows.length < 0
    · rw [if_pos h0, if_pos h0, if_pos h0]; exact ⟨rfl, rfl⟩
    · rw [if_neg h0] at h
      rw [if_neg h0, if_neg h0, if_neg h0]
      split at h
      · rename_i hm
        rw [if_pos hm, if_pos hm, if_pos hm]
        exact ih _ h
      · rename_i hm
        rw [if_neg hm, if_neg hm, if_neg hm]
        exact ⟨rfl, rfl⟩
/-! Numbers. -/
def mg (rows : List (List Int)) (c i : Nat) : Nat := (cl (rw_ rows i) c).natAbs
theorem mg_zero {rows : List (List Int)} {c i : Nat} : mg rows c i = 0 ↔ cl (rw_ rows i) c = 0 := Int.natAbs_eq_zero
theorem mg_out {rows : List (List Int)} {c i : Nat} (h : rows.length ≤ i) : mg rows c i = 0 := by
  have : rw_ rows i = [] := by unfold rw_; rw [List.getD_eq_getElem?_getD, List.getElem?_eq_none h]; rfl
  unfold mg
  rw [this]; rfl
theorem abs_mg {x : Int} (h : x.natAbs ≤ 4000000000000000000) : abs64 x = (x.natAbs : Int) := by
  unfold abs64
  split
  · rw [IntWalk.wrap64_in _ ⟨by omega, by omega⟩]; omega
  · omega
theorem pick_spec {rows : List (List Int)} {c : Nat} (hb : ∀ i, mg rows c i ≤ 4000000000000000000) : ∀ k, (pickF rows c k = -1 ∧ ∀ i, i < k → mg rows c i = 0) ∨
    (0 ≤ pickF rows c k ∧ (pickF rows c k).toNat < k ∧ mg rows c (pickF rows c k).toNat ≠ 0 ∧ ∀ i, i < k → mg rows c i ≠ 0 → mg rows c (pickF rows c k).toNat ≤ mg rows c i) := by
  intro k
  induction k with
  | zero => exact .inl ⟨rfl, fun i hi => by cases hi⟩
  | succ k ih =>
    rw [pickF_succ]
    unfold pickS
    have hk : abs64 (cl (rw_ rows k) c) = (mg rows c k : Int) := abs_mg (hb k)
    rcases ih with ⟨h1, h2⟩ | ⟨h1, h2, h3, h4⟩
    · rw [h1]
      by_cases h0 : cl (rw_ rows k) c = 0
      · rw [if_neg (fun h => h.1 h0)]
        exact .inl ⟨rfl, fun i hi => by
          by_cases e : i = k
          · rw [e]; exact mg_zero.2 h0
          · exact h2 i (by omega)⟩
      · rw [if_pos ⟨h0, .inl (by decide)⟩]
        refine .inr ⟨by omega, by omega, by rw [Int.toNat_natCast]; exact fun h => h0 (mg_zero.1 h), fun i hi hne => ?_⟩
        by_cases e : i = k
        · rw [e, Int.toNat_natCast]; exact Nat.le_refl _
        · exact absurd (h2 i (by omega)) hne
    · have hj : abs64 (cl (rw_ rows (pickF rows c k).toNat) c) = (mg rows c (pickF rows c k).toNat : Int) := abs_mg (hb _)
      rw [hk, hj]
      split
      · rename_i hc
        have hlt : mg rows c k < mg rows c (pickF rows c k).toNat := by omega
        refine .inr ⟨by omega, by omega, by rw [Int.toNat_natCast]; exact fun h => hc.1 (mg_zero.1 h), fun i hi hne => ?_⟩
        rw [Int.toNat_natCast]
        by_cases e : i = k
        · rw [e]; exact Nat.le_refl _
        · have := h4 i (by omega) hne; omega
      · rename_i hc
        refine .inr ⟨h1, by omega, h3, fun i hi hne => ?_⟩
        by_cases e : i = k
        · subst e
          have : ¬ cl (rw_ rows i) c = 0 := fun h => hne (mg_zero.2 h)
          by_cases h5 : mg rows c i < mg rows c (pickF rows c i).toNat
          · exact absurd ⟨this, .inr (by omega)⟩ hc
          · omega
        · exact h4 i (by omega) hne
theorem quoW_abs {x p : Int} (hx : x.natAbs ≤ 4000000000000000000) : quoW x p = Int.tdiv x p := by
  unfold quoW
  have h : (Int.tdiv x p).natAbs ≤ x.natAbs := by rw [Int.natAbs_tdiv]; exact Nat.div_le_self _ _
  exact IntWalk.wrap64_in _ ⟨by omega, by omega⟩
theorem wS_rem {x p : Int} (hx : x.natAbs ≤ 4000000000000000000) (hp : p ≠ 0) : wS x (quoW x p) p = Int.tmod x p := by
  rw [quoW_abs hx]
  unfold wS
  have h1 := Int.natAbs_tmod x p
  have h2 : x.natAbs % p.natAbs ≤ x.natAbs := Nat.mod_le _ _
  have h3 : Int.tdiv x p * p = x - Int.tmod x p := by rw [Int.tmod_def, Int.mul_comm]; omega
  have h4 : (Int.tdiv x p * p).natAbs ≤ x.natAbs := by
    rw [Int.natAbs_mul, Int.natAbs_tdiv]
    exact Nat.div_mul_le_self _ _
  rw [IntWalk.wrap64_in (Int.tdiv x p * p) ⟨by omega, by omega⟩, h3]
  have e : x - (x - Int.tmod x p) = Int.tmod x p := by omega
  rw [e]
  exact IntWalk.wrap64_in _ ⟨by omega, by omega⟩
/-- Rows all of one length. -/
def Rect (n : Nat) (rows : List (List Int)) : Prop := ∀ i, i < rows.length → (rw_ rows i).length = n
theorem rnd_rect {n : Nat} {rows : List (List Int)} (h : Rect n rows) (c j : Nat) : Rect n (rnd rows c j) := by
  intro i hi
  rw [rnd_len] at hi
  rw [rnd_get]
  split
  · unfold newR; rw [subR_len]; exact h i hi
  · exact h i hi
theorem new_cl {n : Nat} {rows : List (List Int)} (h : Rect n rows) {c j i t : Nat} (ht : t < n) (hi : i < rows.length) : cl (newR rows c j i) t = wS (cl (rw_ rows i) t) (quoW (cl (rw_ rows i) c) (cl (rw_ rows j) c)) (cl (rw_ rows j) t) := by
  unfold newR
  exact subR_cl _ _ _ _ (by rw [h i hi]; exact ht)
theorem rnd_mg {n : Nat} {rows : List (List Int)} (h : Rect n rows) {c j : Nat} (hc : c < n) (hb : ∀ i, mg rows c i ≤ 4000000000000000000) (hj : mg rows c j ≠ 0) (i : Nat) : mg (rnd rows c j) c i = if i = j then mg rows c j else mg rows c i % mg rows c j := by
  unfold mg at *
  rw [rnd_get]
  have hj0 : cl (rw_ rows j) c ≠ 0 := fun h => hj (by rw [h]; rfl)
  by_cases hh : hitR rows c j i = true
  · rw [if_pos hh, new_cl h hc (hit_lt hh), wS_rem (hb i) hj0, Int.natAbs_tmod]
    simp only [hitR, Bool.and_eq_true, decide_eq_true_eq] at hh
    rw [if_neg hh.1]
  · rw [if_neg hh]
    by_cases e : i = j
    · rw [if_pos e, e]
    · rw [if_neg e]
      have : cl (rw_ rows i) c = 0 := by
        simp only [hitR, Bool.and_eq_true, decide_eq_true_eq, not_and] at hh
        exact Decidable.byContradiction (hh e)
      rw [this]
      simp
theorem more_spec {n : Nat} {rows : List (List Int)} (h : Rect n rows) {c j : Nat} (hc : c < n) : moreF rows c j rows.length = true ↔ ∃ i, i ≠ j ∧ mg (rnd rows c j) c i ≠ 0 := by
  unfold moreF
  rw [List.any_eq_true]
  constructor
  · rintro ⟨i, hi, hh⟩
    simp only [Bool.and_eq_true, decide_eq_true_eq] at hh
    refine ⟨i, ?_, ?_⟩
    · have := hh.1; simp only [hitR, Bool.and_eq_true, decide_eq_true_eq] at this; exact this.1
    · unfold mg
      rw [rnd_get, if_pos hh.1]
      exact fun e => hh.2 (Int.natAbs_eq_zero.1 e)
  · rintro ⟨i, hne, hm⟩
    unfold mg at hm
    rw [rnd_get] at hm
    by_cases hh : hitR rows c j i = true
    · rw [if_pos hh] at hm
      exact ⟨i, List.mem_range.2 (hit_lt hh), by rw [hh]; simpa using fun e => hm (by rw [e]; rfl)⟩
    · rw [if_neg hh] at hm
      refine absurd ?_ hh
      unfold hitR
      simp only [Bool.and_eq_true, decide_eq_true_eq]
      exact ⟨hne, fun e => hm (by rw [e]; rfl)⟩
theorem mod_half {m p : Nat} (h : p ≤ m) (hp : p ≠ 0) : 2 * (m % p) ≤ m := by
  have h1 := Nat.mod_lt m (Nat.pos_of_ne_zero hp)
  have h2 := Nat.div_add_mod m p
  have h3 : 1 ≤ m / p := (Nat.one_le_div_iff (Nat.pos_of_ne_zero hp)).2 h
  have h4 : p * 1 ≤ p * (m / p) := Nat.mul_le_mul_left p h3
  omega
/-- The rounds of a column end: the numbers halve in two rounds. -/
theorem endI_pow {n c : Nat} (hc : c < n) : ∀ k, k ≤ 61 → ∀ rows, Rect n rows → (∀ i, mg rows c i < 2 ^ k) → endI c (2 * k + 1) rows = true := by
  intro k
  induction k with
  | zero =>
    intro _ rows hr hb
    have hb' : ∀ i, mg rows c i ≤ 4000000000000000000 := fun i => by have := hb i; omega
    rw [endI_succ]
    rcases pick_spec hb' rows.length with ⟨h1, _⟩ | ⟨_, _, h3, _⟩
    · rw [if_pos (by omega)]
    · exact absurd (hb (pickF rows c rows.length).toNat) (by omega)
  | succ k ih =>
    intro hk rows hr hb
    have h2k : 2 ^ (k + 1) ≤ 2 ^ 61 := Nat.pow_le_pow_right (by decide) hk
    have e2k : 2 ^ (k + 1) = 2 * 2 ^ k := by rw [Nat.pow_succ, Nat.mul_comm]
    have hb' : ∀ i, mg rows c i ≤ 4000000000000000000 := fun i => by have := hb i; omega
    rw [show 2 * (k + 1) + 1 = (2 * k + 1 + 1) + 1 by omega, endI_succ]
    rcases pick_spec hb' rows.length with ⟨h1, _⟩ | ⟨h1, h2, h3, h4⟩
    · rw [if_pos (by omega)]
    rw [if_neg (by omega)]
    split
    · rename_i hm
      obtain ⟨i1, hi1, hm1⟩ := (more_spec hr hc).1 hm
      generalize (pickF rows c rows.length).toNat = j at *
      have hg := rnd_mg hr hc hb' h3
      have hr1 := rnd_rect hr c j
      have hsm : ∀ i, i ≠ j → mg (rnd rows c j) c i < 2 ^ k := fun i hi => by
        rw [hg i, if_neg hi]
        by_cases h0 : mg rows c i = 0
        · rw [h0, Nat.zero_mod]; exact Nat.two_pow_pos k
        · have hil : i < rows.length := Nat.lt_of_not_le fun h => h0 (mg_out h)
          have := mod_half (h4 i hil h0) h3
          have := hb i
          omega
      have hb1 : ∀ i, mg (rnd rows c j) c i ≤ 4000000000000000000 := fun i => by
        rw [hg i]
        split
        · exact hb' j
        · exact Nat.le_trans (Nat.mod_le _ _) (hb' i)
      rw [endI_succ]
      rcases pick_spec hb1 (rnd rows c j).length with ⟨g1, _⟩ | ⟨g1, g2, g3, g4⟩
      · rw [if_pos (by omega)]
      rw [if_neg (by omega)]
      split
      · have hi1l : i1 < (rnd rows c j).length := Nat.lt_of_not_le fun h => hm1 (mg_out h)
        have hp1 := g4 i1 hi1l hm1
        have hp2 := hsm i1 hi1
        generalize (pickF (rnd rows c j) c (rnd rows c j).length).toNat = j1 at *
        refine ih (by omega) _ (rnd_rect hr1 c j1) fun i => ?_
        rw [rnd_mg hr1 hc hb1 g3 i]
        split
        · omega
        · have := Nat.mod_lt (mg (rnd rows c j) c i) (Nat.pos_of_ne_zero g3)
          omega
      · rfl
    · rfl
end Go.Proofs.Ytnnckojpmnpgbaa
